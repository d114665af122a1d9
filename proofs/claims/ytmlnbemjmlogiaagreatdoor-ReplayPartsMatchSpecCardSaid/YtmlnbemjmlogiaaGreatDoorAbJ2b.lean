/- Lemmas. -/
import Derived.Test.YtmlnbemjmlogiaaGreatDoorAbJ2
set_option linter.all false
namespace Go.Ab
open Go Go.RowKit
section
variable [bn]
def ae.bare:ae->Bool
 |.x _=>true
 |.box _=>true
 |.own _ _ _=>true
 |.mp _ _ _=>true
 |.cR _ _=>true
 |.db _ _ _ _=>true
 |.dead=>true
 |_=>false
def ae.OU{a:ae}(h:a.bare=true)(j:Nat):a.refs j=false:=by cases a<;>first|rfl|(simp[ae.bare]at h)
def dp.bare{w:bb}{S S' O O':Nat->Prop}{s s':aj}{tm tm':Nat->aI}{a:ae}{v:aI}(h:dp w S O s tm a v)(ad:a.bare=true)(bS:∀b,S b->S' b)(cY:∀b,bl a v=some b->O b->O' b):dp w S' O' s' tm' a v:=by
 cases a with
 |dead=>trivial
 |x bP=>exact cz.mono h bS (fun _ _=>rfl)
 |box cs=>obtain⟨b,b3,t,rfl,bo,al,bk⟩:=h;exact⟨b,b3,t,rfl,bo,al.mono bS (fun _ _=>rfl),cY b rfl bk⟩
 |own e size xs=>obtain⟨us,bB,al,ai,hm,bk⟩:=h;exact⟨us,bB,al.mono bS (fun _ _=>rfl),ai,hm,fun b ad=>cY b ad (bk b ad)⟩
 |mp c bs es=>obtain⟨b,ents,rfl,bo,bk,he⟩:=h;exact⟨b,ents,rfl,bo,cY b rfl bk,he.mono bS (fun _ _=>rfl)⟩
 |cR b cs=>obtain⟨b3,t,bo,al,bk⟩:=h;exact⟨b3,t,bo,al.mono bS (fun _ _=>rfl),cY b rfl bk⟩
 |db g e size xs=>obtain⟨us,bB,al,ai,hm,bk⟩:=h;exact⟨us,bB,al.mono bS (fun _ _=>rfl),ai,hm,fun b ad=>cY b ad (bk b ad)⟩
 |_=>simp[ae.bare]at ad
abbrev zn:aj:=fun _=>.dead
abbrev zo:Nat->aI:=fun _=>undef
def eT(args:List ae):aj:=fun i=>(args[i]?).getD .dead
def cw(vs:Array aI):Nat->aI:=fun j=>(vs[j]?).getD undef
def tz{vs:Array aI}{j:Nat}{u:aI}(h:vs[j]?=some u):cw vs j=u:=by unfold cw;rw[h];rfl
def qW(args:List ae):ae->Bool
 |.et i _=>(eT args i).aR
 |.df _ caps=>caps.all fun c=>match c with
  |.inl _=>true
  |.inr p=>(eT args p.1).aR
 |a=>a.bare
def zeE{args:List ae}{a:ae}(h:a.bare=true):qW args a=true:=by cases a<;>first|exact h|(simp[ae.bare]at h)
def Vm{args:List ae}{a:ae}(h:qW args a=true){j:Nat}(ao:a.refs j=true):(eT args j).aR=true:=by
 cases a<;>first|(simp[ae.refs]at ao;done)|(simp[qW,ae.bare]at h;done)|skip
 ·rename_i f caps;simp only[ae.refs]at ao;obtain⟨c,ap,aA⟩:=AP.1 ao;simp only[qW]at h;have:=hJ.1 h c ap;cases c with
  |inl c=>cases aA
  |inr p=>
   obtain rfl:p.1=j:=by simpa[l5]using aA
   exact this
 ·rename_i i off;obtain rfl:i=j:=by simpa[ae.refs]using ao
  exact h
def xh.zeF{w:bb}{S S':Nat->Prop}{s:aj}{tm:Nat->aI}{c:ag⊕(Nat×Nat)}{u:aI}(h:xh w S s tm c u)(bS:∀b,S b->S' b):xh w S' s tm c u:=by
 cases c with
 |inl c=>exact bD.mono h bS (fun _ _=>rfl)
 |inr p=>
  rw[s8]at h⊢;split at h
  ·rename_i ah;rw[av ah];exact h
  ·rename_i ah;rw[an ah];exact h.mono bS (fun _ _=>rfl) (fun _ h=>h)
def dp.qW{w:bb}{S S' O O':Nat->Prop}{s:aj}{tm:Nat->aI}{args:List ae}{a:ae}{v:aI}(h:dp w S O s tm a v)(bj:Ab.qW args a=true)(bS:∀b,S b->S' b)(cY:∀b,bl a v=some b->O b->O' b):dp w S' O' s tm a v:=by
 cases ad:a.bare with
 |true=>exact h.bare ad bS cY
 |false=>
  cases a<;>first|(simp[ae.bare]at ad;done)|(simp[Ab.qW,ae.bare]at bj;done)|skip
  ·obtain⟨us,aF,al,ap⟩:=h;exact⟨us,aF,al,fun j c ac=>let ⟨u,hu,ao⟩:=ap j c ac;⟨u,hu,ao.zeF bS⟩⟩
  ·exact yZ.mono h bS (fun _ _=>rfl) (fun _ h=>h)
structure Ba(w:bb)(E:Env)(args:List ae)(vs:Array aI):Prop where
 size:vs.size<=args.length
 rep:∀(j:Nat) (a:ae),args[j]?=some a->qW args a=true/\dp w E.rd E.fb (eT args) (cw vs) a (cw vs j)
 inj:∀(i j:Nat) (x y:ae) (b:Nat),args[i]?=some x->bl x (cw vs i)=some b->args[j]?=some y->bl y (cw vs j)=some b->i=j
 all:∀b,E.fb b->∃(j:Nat) (x:ae),args[j]?=some x/\bl x (cw vs j)=some b
def wg(outs:List ae)(vs:Array aI)(b:Nat):Prop:=∃(j:Nat) (o:ae),outs[j]?=some o/\bl o (cw vs j)=some b
def jA(w w':bb)(E:Env)(outs:List ae)(vs:Array aI):Nat->Prop:=
 fun b=>(E.rd b\/E.fb b\/(w.heap.size<=b/\b<w'.heap.size))/\¬wg outs vs b
def eB:ae->ae->Bool
 |.x _,.dead=>true
 |.box _,.box _=>true
 |.box _,.dead=>true
 |.own _ _ _,.own _ _ _=>true
 |.own _ _ _,.x _=>true
 |.own _ _ _,.dead=>true
 |.mp _ _ _,.mp _ _ _=>true
 |.mp _ _ _,.dead=>true
 |.cR b _,.cR br _=>b==br
 |.cR _ _,.dead=>true
 |.df _ _,.dead=>true
 |.et _ _,.dead=>true
 |_,_=>false
def hh:List ae->List ae->Bool
 |[],[]=>true
 |a::r,o::q=>eB a o&&hh r q
 |_,_=>false
def og:ae->ae->Bool
 |.own _ _ _,.db _ _ _ _=>true
 |.db _ _ _ _,.db _ _ _ _=>true
 |a,o=>eB a o
def Kq{a o:ae}(h:eB a o=true):og a o=true:=by cases a<;>cases o<;>first|rfl|exact h
def p8:∀{args outs:List ae},hh args outs=true->args.length=outs.length/\∀(j:Nat) (a o:ae),args[j]?=some a->outs[j]?=some o->eB a o=true
 |[],[],_=>⟨rfl,fun j a o h=>by simp at h⟩
 |a::r,o::q,h=>by
  simp only[hh,b7]at h;obtain⟨aa,ab⟩:=p8 h.2;refine⟨by simp[aa],fun j a' di bj aB=>?_⟩;cases j with
  |zero=>simp at bj aB;subst bj;subst aB;exact h.1
  |succ j=>simp at bj aB;exact ab j a' di bj aB
def cx(P:aM)(f:FuncId)(args:List ae)(r:bH)(outs:List ae):Prop:=
 tv P f/\hh args outs=true/\∀(w:bb) (E:Env) (vs:Array aI),pI E w->Ba w E args vs ->
  Calls P f vs w fun e w'=>∃v,e=.returned v/\Kept E.fb w w'/\iT w' (jA w w' E outs vs) r v/\(∀b,r.ij v=some b->jA w w' E outs vs b/\¬E.rd b) /\
   ∀(j:Nat) (o:ae),outs[j]?=some o->dp w' (fun b=>jA w w' E outs vs b/\r.ij v≠some b) E.fb zn zo o (cw vs j)
def Vn{a o:ae}{u:aI}{b:Nat}{w:bb}{S O:Nat->Prop}{s:aj}{tm:Nat->aI}(aw:eB a o=true)(ao:dp w S O s tm a u)(h:bl o u=some b):bl a u=some b:=by
 cases a with
 |box cs=>cases o with
  |box cs'=>obtain⟨br,b3,t,rfl,_⟩:=ao;exact h
  |dead=>cases h
  |_=>simp[eB]at aw
 |mp c bs es=>cases o with
  |mp c' OE jg=>obtain⟨br,ents,rfl,_⟩:=ao;exact h
  |dead=>cases h
  |_=>simp[eB]at aw
 |own e z xs=>cases o with
  |own cg kA ea=>exact h
  |dead=>cases h
  |x v=>cases h
  |_=>simp[eB]at aw
 |cR fa cs=>cases o with
  |cR eV cs'=>obtain rfl:fa=eV:=by simpa[eB]using aw
              exact h
  |dead=>cases h
  |_=>simp[eB]at aw
 |_=>cases o<;>first|(simp[eB]at aw;done)|(cases h)
def OV{a o:ae}{u:aI}{b:Nat}{w:bb}{S O:Nat->Prop}{s:aj}{tm:Nat->aI}(aw:eB a o=true)(aB:o.aR=true)(ao:dp w S O s tm a u)(h:bl a u=some b):bl o u=some b:=by
 cases a with
 |box cs=>cases o with
  |box cs'=>obtain⟨br,b3,t,rfl,_⟩:=ao;exact h
  |dead=>cases aB
  |_=>simp[eB]at aw
 |mp c bs es=>cases o with
  |mp c' OE jg=>obtain⟨br,ents,rfl,_⟩:=ao;exact h
  |dead=>cases aB
  |_=>simp[eB]at aw
 |own e z xs=>cases o with
  |own cg kA ea=>exact h
  |dead=>cases aB
  |x v=>cases aB
  |_=>simp[eB]at aw
 |cR fa cs=>cases o with
  |cR eV cs'=>obtain rfl:fa=eV:=by simpa[eB]using aw
              exact h
  |dead=>cases aB
  |_=>simp[eB]at aw
 |_=>cases o<;>first|(simp[eB]at aw;done)|(cases aB)
def Vo{a o:ae}(aX:∀g e z xs,o≠.db g e z xs)(h:og a o=true):eB a o=true:=by cases o<;>first|(cases a<;>exact h)|exact absurd rfl (aX _ _ _ _)
def zeG{a o:ae}{u:aI}{b:Nat}{w:bb}{S O:Nat->Prop}{s:aj}{tm:Nat->aI}(aw:og a o=true)(aB:o.aR=true)(aF:o.valOf=a.valOf)(ao:dp w S O s tm a u)(h:bl a u=some b):bl o u=some b:=by
 cases a with
 |own e z xs=>cases o with
  |db g cg kA ea=>have aa:g=Value.bool true:=congrFun aF (.bool true);have ab:g=Value.bool false:=congrFun aF (.bool false);rw[aa]at ab;cases ab
  |_=>exact OV (a:=.own e z xs) (Vo (by rintro _ _ _ _ ⟨⟩) aw) aB ao h
 |db g e z xs=>cases o with
  |db bX cg kA ea=>have aa:bX=g:=congrFun aF undef;rw[aa];exact h
  |_=>exact OV (a:=.db g e z xs) (Vo (by rintro _ _ _ _ ⟨⟩) aw) aB ao h
 |_=>refine OV ?_ aB ao h;cases o<;>first|exact aw|skip
section
variable {P:aM}{S0:Env}{w0 w:bb}{n:Nat}{s:aj}{a:Act}
def tA(s:aj)(x:aW):Prop×Option (ae×Option Nat):=
 match aJ s x with
 |(p,.x bP)=>(p,some (.x bP,none))
 |(p,.alias i)=>match s i with
  |.own e z xs=>(p,some (.own e z xs,some i))
  |.mp c bs es=>(p,some (.mp c bs es,some i))
  |_=>(False,none)
 |(p,.ptr i 0)=>match s i with
  |.box cs=>(p,some (.box cs,some i))
  |_=>(False,none)
 |(p,.df f caps)=>(p,some (.df f caps,none))
 |(p,.et i off)=>(p,some (.et i off,none))
 |_=>(False,none)
def k7(s:aj):List aW->Prop×Option (List (ae×Option Nat))
 |[]=>(True,some [])
 |x::r=>match tA s x,k7 s r with
  |(p,some v),(q,some vs)=>(p/\q,some (v::vs))
  |_,_=>(False,none)
def uK(s:aj):ag⊕(Nat×Nat)->Option (ae×Option Nat)
 |.inl c=>some (.x (.one c),none)
 |.inr (i,0)=>match s i with
  |.box cs=>some (.box cs,some i)
  |_=>none
 |.inr (i,off)=>bif decide (1000000<=off)then some (.et i (off-1000000),none)else none
def mf(s:aj):List (ag⊕(Nat×Nat))->Option (List (ae×Option Nat))
 |[]=>some []
 |c::r=>match uK s c,mf s r with
  |some x,some xs=>some (x::xs)
  |_,_=>none
def pc(s:aj):ae->Option (FuncId×List (ae×Option Nat))
 |.df f caps=>(mf s caps).map fun xs=>(f,xs)
 |a=>(jX a).map fun p=>(p.1,p.2.map fun x=>(.x x,none))
def gX(s:aj)(f:aW)(args:List aW):Prop×Option (FuncId×List (ae×Option Nat)):=
 match aJ s f,k7 s args with
 |(p,a),(q,some xs)=>match pc s a with
  |some (g,caps)=>(p/\q,some (g,xs++caps))
  |none=>(False,none)
 |_,_=>(False,none)
def xw(s:aj)(i:Nat)(o:ae):aj:=
 match o with
 |.box _=>fun j=>if j=i then o else s j
 |.mp _ _ _=>fun j=>if j=i then o else s j
 |_=>fun j=>if j=i then o else if (s j).refs i then .dead else s j
def gf(s:aj):List (ae×Option Nat)->List ae->aj
 |(_,some i)::l,o::outs=>gf (xw s i o) l outs
 |(_,none)::l,_::outs=>gf s l outs
 |_,_=>s
def ej(l:List (ae×Option Nat)):List Nat:=l.filterMap (·.2)
def zp(xs:List (ae×Option Nat)):Bool:=xs.all fun y=>y.1.told
def Vp{cs:List ag}(h:(ae.box cs).told=true){j:Nat}(ac:cs[j]?=some .any):False:=by simp only[ae.told,xx]at h;rw[y3]at h;exact h _ (kt ac) rfl
def zeH{x:ae}{cs:List ag}(ai:x.gk=some cs)(h:x.told=true){j:Nat}(ac:cs[j]?=some .any):False:=by
 cases x with
 |box c=>
  obtain rfl:c=cs:=by simpa[ae.gk]using ai
  exact Vp h ac
 |cR b c=>
  obtain rfl:c=cs:=by simpa[ae.gk]using ai
  exact Vp (cs:=c) h ac
 |_=>cases ai
def ae.zeI:ae->Bool
 |.df _ _=>true
 |.et _ _=>true
 |_=>false
def qX(S0:Env)(w0:bb)(s:aj)(a:Act)(w:bb)(x:ae×Option Nat)(u:aI):Prop:=
 match x.2 with
 |none=>((∃bP,x.1=.x bP)\/x.1.zeI=true)/\mI S0 w0 s a w x.1 u
 |some i=>s i=x.1/\x.1.bare=true/\x.1.aR=true/\u=aL a i
def zeJ(af:Rel S0 w0 n s a w){x:aW}{p:Prop}{y:ae×Option Nat}(h:tA s x=(p,some y))(am:p):qX S0 w0 s a w y (a.eval x):=by
 have dq:=af.aJ x;unfold tA at h;split at h
 ·rename_i q bP e;simp only[cA,b9]at h;obtain⟨rfl,rfl⟩:=h;rw[e]at dq;exact⟨.inl ⟨bP,rfl⟩,dq am⟩
 ·rename_i q i e;rw[e]at dq;split at h
  ·rename_i hs;simp only[cA,b9]at h;obtain⟨rfl,rfl⟩:=h;exact⟨hs,rfl,rfl,(dp.y1 (dq am) hs).1⟩
  ·rename_i hs;simp only[cA,b9]at h;obtain⟨rfl,rfl⟩:=h;exact⟨hs,rfl,rfl,(dp.JT (dq am) hs).1⟩
  ·simp at h
 ·rename_i q i e;rw[e]at dq;split at h
  ·rename_i cs hs;simp only[cA,b9]at h;obtain⟨rfl,rfl⟩:=h;obtain⟨b,aF,ak⟩:=dq am;have ah:=af.rep i;rw[hs]at ah ak;obtain⟨br,b3,t,h1,_⟩:=ah;rw[h1]at ak;obtain rfl:br=b:=by simpa[bl]using ak
   exact⟨hs,rfl,rfl,by rw[aF,h1]⟩
  ·simp at h
 ·rename_i q f caps e;simp only[cA,b9]at h;obtain⟨rfl,rfl⟩:=h;rw[e]at dq;exact⟨.inr rfl,dq am⟩
 ·rename_i q i off e;simp only[cA,b9]at h;obtain⟨rfl,rfl⟩:=h;rw[e]at dq;exact⟨.inr rfl,dq am⟩
 ·simp at h
def Vq(af:Rel S0 w0 n s a w):∀{args:List aW} {p:Prop} {aV:List (ae×Option Nat)},k7 s args=(p,some aV)->p->aV.length=args.length/\∀(j:Nat) (y:ae×Option Nat),aV[j]?=some y->∃u,(args.map a.eval)[j]?=some u/\qX S0 w0 s a w y u:=by
 intro args;induction args with
 |nil=>intro p aV h _;simp only[k7,cA,b9]at h;obtain⟨_,rfl⟩:=h;exact⟨rfl,fun j y ac=>by simp at ac⟩
 |cons x r ba=>
  intro p aV h am;simp only[k7]at h;split at h
  ·rename_i q v eI vs ax aK;simp only[cA,b9]at h;obtain⟨rfl,rfl⟩:=h;obtain⟨aa,ab⟩:=ba aK am.2;refine⟨by simp[aa],fun j y ac=>?_⟩;cases j with
   |zero=>simp at ac;subst ac;exact⟨_,rfl,zeJ af ax am.1⟩
   |succ j=>simp at ac;simpa using ab j y ac
  ·simp at h
def Vr:∀{caps:List (ag⊕(Nat×Nat))} {us:List aI} {aV:List (ae×Option Nat)},Rel S0 w0 n s a w->us.length=caps.length ->
  (∀(j:Nat) (c:ag⊕(Nat×Nat)),caps[j]?=some c->∃u,us[j]?=some u/\xh w (bO S0 w0.heap.size w s (aL a)) s (aL a) c u)->mf s caps=some aV->aV.length=us.length/\∀(j:Nat) (y:ae×Option Nat),aV[j]?=some y->∃u,us[j]?=some u/\qX S0 w0 s a w y u
 |[],us,aV,_,al,_,h=>by simp only[mf,b9]at h;subst h;exact⟨by simpa using al.symm,fun j y ac=>by simp at ac⟩
 |c::caps,us,aV,af,al,ap,h=>by
  cases us with
  |nil=>simp at al
  |cons u us=>
   simp only[mf]at h;split at h
   ·rename_i x xs ax aK;injection h with h
    subst h;obtain⟨aa,ab⟩:=Vr (us:=us) af (by simpa using al) (fun j c ac=>by simpa using ap (j+1) c (by simpa using ac)) aK;refine⟨by simp[aa],fun j y ac=>?_⟩;cases j with
    |succ j=>simp at ac;simpa using ab j y ac
    |zero=>
     simp at ac;subst ac;obtain⟨o5,hu,p0⟩:=ap 0 c rfl;simp at hu;subst hu;refine⟨u,rfl,?_⟩;unfold uK at ax;split at ax
     ·injection ax with ax;subst ax
      exact⟨.inl ⟨_,rfl⟩,p0⟩
     ·rename_i i;split at ax
      ·rename_i cs hs;injection ax with ax;subst ax
       rw[s8,av (by simp)]at p0;obtain⟨b,aF,ak⟩:=p0;have ah:=af.rep i;dsimp only at ak;rw[hs]at ah ak;obtain⟨br,b3,t,h1,_⟩:=ah;rw[h1]at ak;obtain rfl:br=b:=by simpa[bl]using ak
       exact⟨hs,rfl,rfl,by rw[aF,h1]⟩
      ·cases ax
     ·rename_i i off _;by_cases lE:1000000<=off
      ·simp only[lE,decide_true,cond_true,b9]at ax;subst ax;rw[s8,an (by simp only;omega)]at p0;exact⟨.inr rfl,p0⟩
      ·simp[lE]at ax
   ·cases h
structure pd(s s1:aj)(L:List (Nat×ae)):Prop where
 new:∀i o,(i,o)∈L->s1 i=o
 l1:∀j,(∀o,(j,o)∉L)->s1 j=s j\/(s1 j=.dead/\∃k,(s j).refs k=true)
 ref:∀j k,(s1 j).refs k=true->s1 j=s j/\(∀o,(k,o)∈L->o.aR=true/\o.size=(s k).size/\o.len=(s k).len/\o.valOf=(s k).valOf)/\((∀o,(k,o)∉L)->s1 k=s k)
def pd.nil(s:aj):pd s s []:=
 ⟨fun i o h=>(by cases h),fun j _=>.inl rfl,fun j k h=>⟨rfl,fun o h=>(by cases h),fun _=>rfl⟩⟩
def zeK{s:aj}{i:Nat}{o:ae}(l8:∀i j,(s i).refs j=true->(s j).aR=true)(aw:og (s i) o=true)(tl:(s i).aR=true)(ad:o.bare=true):pd s (xw s i o) [(i,o)]:=by
 have plain:(o.aR=true/\o.size=(s i).size/\o.len=(s i).len/\o.valOf=(s i).valOf)->pd s (fun j=>if j=i then o else s j) [(i,o)]:=by
  intro ak;refine⟨fun bL di h=>?_,fun j h=>.inl ?_,fun j k h=>?_⟩
  ·simp at h;obtain⟨rfl,rfl⟩:=h;simp
  ·have:j≠i:=by rintro rfl;exact h o (by simp)
   simp[this]
  ·by_cases ac:j=i
   ·subst ac;simp only[av]at h;rw[ae.OU ad]at h;cases h
   ·simp only[an ac]at h⊢;refine⟨trivial,fun di aB=>?_,fun dx=>?_⟩
    ·simp at aB;obtain⟨rfl,rfl⟩:=aB;exact ak
    ·have:k≠i:=by rintro rfl;exact dx o (by simp)
     simp[this]
 have wi:pd s (fun j=>if j=i then o else if (s j).refs i then .dead else s j) [(i,o)]:=by
  refine⟨fun bL di h=>?_,fun j h=>?_,fun j k h=>?_⟩
  ·simp at h;obtain⟨rfl,rfl⟩:=h;simp
  ·have:j≠i:=by rintro rfl;exact h o (by simp)
   simp only[an this];cases ao:(s j).refs i with
   |true=>exact .inr ⟨by simp,i,ao⟩
   |false=>exact .inl (by simp)
  ·by_cases ac:j=i
   ·subst ac;simp only[av]at h;rw[ae.OU ad]at h;cases h
   ·simp only[an ac]at h⊢;cases ao:(s j).refs i with
    |true=>rw[ao]at h;cases h
    |false=>
     rw[ao]at h;simp only[pP,hy]at h⊢;have eK:k≠i:=by rintro rfl;rw[ao]at h;cases h
     refine⟨trivial,fun di aB=>?_,fun _=>?_⟩
     ·simp at aB;exact absurd aB.1 eK
     ·simp only[an eK];have fV:=l8 j k h;cases r8:(s k).refs i with
      |true=>rw[np r8]at fV;cases fV
      |false=>simp
 unfold xw;cases o with
 |box cs=>refine plain ⟨rfl,?_⟩;cases hs:s i<;>rw[hs]at aw<;>first|exact⟨rfl,rfl,rfl⟩|(simp[og,eB]at aw)
 |mp c bs es=>refine plain ⟨rfl,?_⟩;cases hs:s i<;>rw[hs]at aw<;>first|exact⟨rfl,rfl,rfl⟩|(simp[og,eB]at aw)
 |_=>exact wi
def pd.wf{s s1:aj}{L:List (Nat×ae)}(h:pd s s1 L)(l8:∀i j,(s i).refs j=true->(s j).aR=true):∀i j,(s1 i).refs j=true->(s1 j).aR=true:=by
 intro i j cV;obtain⟨aa,ab,au⟩:=h.ref i j cV;by_cases ac:∃o,(j,o)∈L
 ·obtain⟨o,aB⟩:=ac;rw[h.new j o aB];exact(ab o aB).1
 ·rw[au (fun o aB=>ac ⟨o,aB⟩)];rw[aa]at cV;exact l8 i j cV
def pd.trans{s s' s1:aj}{i:Nat}{o:ae}{L:List (Nat×ae)}(h:pd s s' [(i,o)])(k:pd s' s1 L)(ad:o.bare=true)(ah:∀di,(i,di)∉L):pd s s1 ((i,o)::L):=by
 have gY:s' i=o:=h.new i o (by simp);have zeL:s1 i=o:=by
  rcases k.l1 i ah with e|⟨_,m,e⟩
  ·rw[e,gY]
  ·rw[gY,ae.OU ad]at e;cases e
 refine⟨fun j di ac=>?_,fun j ac=>?_,fun j m gP=>?_⟩
 ·rcases fp.1 ac with e|e
  ·injection e with ax aK;subst ax;subst aK;exact zeL
  ·exact k.new j di e
 ·have fU:j≠i:=by rintro rfl;exact ac o (by simp)
  have Vs:∀di,(j,di)∉L:=fun di bx=>ac di (by simp[bx]);rcases h.l1 j (fun di bx=>by simp at bx;exact fU bx.1)with e|⟨ax,m,aK⟩
  ·rcases k.l1 j Vs with cg|⟨ax,m,aK⟩
   ·exact .inl (by rw[cg,e])
   ·exact .inr ⟨ax,m,by rw[<-e];exact aK⟩
  ·rcases k.l1 j Vs with cg|⟨cd,_⟩
   ·exact .inr ⟨by rw[cg,ax],m,aK⟩
   ·exact .inr ⟨cd,m,aK⟩
 ·obtain⟨aa,ab,au⟩:=k.ref j m gP;obtain⟨aN,bE,cS⟩:=h.ref j m (by rw[<-aa];exact gP);refine⟨by rw[aa,aN],fun di aB=>?_,fun aB=>?_⟩
  ·rcases fp.1 aB with e|e
   ·injection e with ax aK;subst ax;subst aK;exact bE _ (by simp)
   ·have h3:m≠i:=by rintro rfl;exact ah di e
    have:=ab di e;rw[cS (fun zeM bx=>by simp at bx;exact h3 bx.1)]at this;exact this
  ·have h3:m≠i:=by rintro rfl;exact aB o (by simp)
   rw[au (fun di bx=>aB di (by simp[bx])),cS (fun zeM bx=>by simp at bx;exact h3 bx.1)]
def dX:List (ae×Option Nat)->List ae->List (Nat×ae)
 |(_,some i)::l,o::outs=>(i,o)::dX l outs
 |(_,none)::l,_::outs=>dX l outs
 |_,_=>[]
def xy:∀{l:List (ae×Option Nat)} {outs:List ae} {i:Nat} {o:ae},(i,o)∈dX l outs->∃(j:Nat) (x:ae),l[j]?=some (x,some i)/\outs[j]?=some o
 |[],_,i,o,h=>by simp[dX]at h
 |(x,none)::l,[],i,o,h=>by simp[dX]at h
 |(x,some k)::l,[],i,o,h=>by simp[dX]at h
 |(x,none)::l,q::outs,i,o,h=>by simp only[dX]at h;obtain⟨j,y,aa,ab⟩:=xy h;exact⟨j+1,y,by simpa using aa,by simpa using ab⟩
 |(x,some k)::l,q::outs,i,o,h=>by
  simp only[dX]at h;rcases fp.1 h with e|e
  ·injection e with ax aK;subst ax;subst aK;exact⟨0,x,rfl,rfl⟩
  ·obtain⟨j,y,aa,ab⟩:=xy e;exact⟨j+1,y,by simpa using aa,by simpa using ab⟩
def Kr:∀{l:List (ae×Option Nat)} {outs:List ae} {i j:Nat} {x o:ae},l[j]?=some (x,some i)->outs[j]?=some o->(i,o)∈dX l outs
 |[],_,i,j,x,o,h,_=>by simp at h
 |p::l,[],i,j,x,o,_,h=>by simp at h
 |(y,q)::l,p::outs,i,0,x,o,h,k=>by simp at h k;obtain⟨rfl,rfl⟩:=h;subst k;simp[dX]
 |(y,q)::l,p::outs,i,j+1,x,o,h,k=>by
  simp at h k;have:=Kr h k;cases q with
  |none=>simpa[dX]using this
  |some m=>simp[dX,this]
def zq{l:List (ae×Option Nat)}{i j:Nat}{x:ae}(h:l[j]?=some (x,some i)):i∈ej l:=by unfold ej;rw[xz];exact⟨_,kt h,rfl⟩
def OW:∀{l:List (ae×Option Nat)} {i j k:Nat} {x y:ae},(ej l).Nodup->l[j]?=some (x,some i)->l[k]?=some (y,some i)->j=k
 |[],i,j,k,x,y,_,h,_=>by simp at h
 |p::l,i,0,0,x,y,_,_,_=>rfl
 |(p,q)::l,i,0,k+1,x,y,aX,h,bx=>by simp at h bx;obtain⟨rfl,rfl⟩:=h;simp only[ej,tr]at aX;exact absurd (zq bx) (wj.1 aX).1
 |(p,q)::l,i,j+1,0,x,y,aX,h,bx=>by simp at h bx;obtain⟨rfl,rfl⟩:=bx;simp only[ej,tr]at aX;exact absurd (zq h) (wj.1 aX).1
 |(p,q)::l,i,j+1,k+1,x,y,aX,h,bx=>by
  simp at h bx;have wk:(ej l).Nodup:=by
   cases q with
   |none=>simpa[ej]using aX
   |some m=>simp only[ej,tr]at aX;exact(wj.1 aX).2
  rw[OW wk h bx]
def G5:∀(l:List (ae×Option Nat)) (outs:List ae) (s:aj),(∀i j,(s i).refs j=true->(s j).aR=true)->(ej l).Nodup->l.length=outs.length ->
  (∀(j:Nat) (x:ae) (i:Nat) (o:ae),l[j]?=some (x,some i)->outs[j]?=some o->og (s i) o=true/\(s i).aR=true/\o.bare=true)->pd s (gf s l outs) (dX l outs)
 |[],outs,s,l8,_,_,_=>by cases outs<;>exact pd.nil s
 |(x,q)::l,[],s,_,_,h,_=>by simp at h
 |(x,none)::l,o::outs,s,l8,aX,al,h=>by simp only[gf,dX];exact G5 l outs s l8 (by simpa[ej]using aX) (by simpa using al) (fun j y i di aa ab=>h (j+1) y i di (by simpa using aa) (by simpa using ab))
 |(x,some i)::l,o::outs,s,l8,aX,al,h=>by
  simp only[gf,dX];obtain⟨aa,ab,au⟩:=h 0 x i o rfl rfl;have c0:=zeK l8 aa ab au;simp only[ej,tr]at aX;have xA:=(wj.1 aX).1;have rR:∀j,j∈ej l->(s j).aR=true->xw s i o j=s j:=by
   intro j ac aB;have fU:j≠i:=by rintro rfl;exact xA ac
   rcases c0.l1 j (fun di bx=>by simp at bx;exact fU bx.1)with e|⟨_,k,e⟩
   ·exact e
   ·rw[np e]at aB;cases aB
  refine c0.trans (G5 l outs _ (c0.wf l8) (wj.1 aX).2 (by simpa using al) (fun j y m di aE aQ=>?_)) au (fun di bx=>?_)
  ·obtain⟨ax,aK,cd⟩:=h (j+1) y m di (by simpa using aE) (by simpa using aQ);rw[rR m (zq aE) aK];exact⟨ax,aK,cd⟩
  ·obtain⟨j,y,aN,_⟩:=xy bx;exact xA (zq aN)
def Rel.zeN{X:Nat->Prop}{d:Nat}{r:ae}{v:aI}(aA:S0.m<=d/\d<n)(G6:∀j,j<S0.m->aL a j=S0.val j)(zeO:a.defers=[])(cB:a.tmps.size=n)(OX:Kept S0.fb w0 w)(ar:pI S0 w0)
  (b8:∀i,dp w (fun b=>bO S0 w0.heap.size w s (aL a) b/\¬X b) (nq S0 w0.heap.size) s (aL a) (s i) (aL a i))
  (xB:∀i j b,bl (s i) (aL a i)=some b->bl (s j) (aL a j)=some b->i=j)(mQ:∀i,n<=i->(s i).apart=true)(l8:∀i j,(s i).refs j=true->(s j).aR=true)
  (kc:∀j,r.refs j=false)(ao:dp w (fun b=>bO S0 w0.heap.size w s (aL a) b/\¬X b) (nq S0 w0.heap.size) s (aL a) r v)(xC:∀b,bl r v=some b->X b)(Ks:∀i b,bl (s i) (aL a i)=some b->¬X b) :
  Rel S0 w0 n (Ab.put s d r) (a.put (some d) v) w:=by
 have lA:d<a.tmps.size:=by rw[cB];exact aA.2
 have iw:=xj a d v lA;have pJ:∀i,i≠d->aL (a.put (some d) v) i=aL a i:=fun i ah=>by rw[iw,an ah]
 have y2:aL (a.put (some d) v) d=v:=by rw[iw,av rfl]
 have cv:∀i b,bl (Ab.put s d r i) (aL (a.put (some d) v) i)=some b->(i=d/\bl r v=some b)\/(i≠d/\bl (s i) (aL a i)=some b):=by
  intro i b ad;by_cases ah:i=d
  ·subst ah;rw[y2,jR (kc i)]at ad;exact .inl ⟨rfl,ad⟩
  ·rw[pJ i ah]at ad;exact .inr ⟨ah,Ur ah ad⟩
 have dg:∀b,(bO S0 w0.heap.size w s (aL a) b/\¬X b)->bO S0 w0.heap.size w (Ab.put s d r) (aL (a.put (some d) v)) b:=by
  rintro b ⟨⟨aa,ab,au⟩,ai⟩;refine⟨aa,ab,fun i ah=>?_⟩;rcases cv i b ah with⟨_,h⟩|⟨_,h⟩
  ·exact ai (xC b h)
  ·exact au i h
 refine⟨zeO,by simp[Act.put,cB],OX,ar,fun i=>?_,fun i j b l9 Gp=>?_,fun i ah=>?_,fT l8 (fun j ac=>by rw[kc]at ac;cases ac),fun j ac=>by rw[pJ j (by omega)];exact G6 j ac⟩
 ·by_cases ah:i=d
  ·subst ah;rw[y2,jR (kc i)];refine ao.mono dg (fun _ _=>rfl) (fun _ _=>rfl) (fun j ac=>?_) (fun bL _ _ _ _ al _ _=>by have:=(ae.pH al).1;rw[kc]at this;cases this);have:=kc j;rw[ae.qL ac]at this;cases this
  ·rw[pJ i ah];rcases qM (s:=s) (v:=r) ah with am|⟨_,_,am⟩
   ·rw[am];have l7:∀j,(s i).refs j=true->j≠d:=by
     rintro j mc rfl;have:Ab.put s j r i=.dead:=Di ah (l8 i j mc) mc;rw[am]at this;rw[this]at mc;cases mc
    refine(b8 i).mono dg (fun _ _=>rfl) (fun _ _=>rfl) (fun j ac=>?_) (fun bL off bG cs b al cT _=>⟨⟨cs,by rw[o2 (l7 bL (ae.pH al).1) (ae.o0 cT)];exact cT,rfl⟩,rfl⟩);have mc:=ae.qL ac;have nr:=l8 i j mc;have l7:=l7 j mc;exact⟨pJ j l7,fun _=>by rw[o2 l7 nr];exact⟨nr,rfl,rfl,rfl⟩,fun b ad=>by rw[o2 l7 nr];exact ad⟩
   ·rw[am];trivial
 ·rcases cv i b l9 with⟨ah,aa⟩|⟨ah,aa⟩<;>rcases cv j b Gp with⟨ac,ab⟩|⟨ac,ab⟩
  ·rw[ah,ac]
  ·exact absurd (xC b aa) (Ks j b ab)
  ·exact absurd (xC b ab) (Ks i b aa)
  ·exact xB i j b aa ab
 ·have hid:i≠d:=by omega
  rcases qM (s:=s) (v:=r) hid with am|⟨_,_,am⟩
  ·rw[am];exact mQ i ah
  ·rw[am];rfl
def Rel.Vt(af:Rel S0 w0 n s a w){aV:List (ae×Option Nat)}{outs:List ae}{vs:Array aI}{r:bH}{v:aI}{w':bb}{s1:aj}{d:Nat}{E:Env}(aA:S0.m<=d/\d<n)
  (gO:∀(j:Nat) (y:ae×Option Nat),aV[j]?=some y->∃u,vs[j]?=some u/\qX S0 w0 s a w y u)(al:aV.length=outs.length)(Bb:∀(j:Nat) (x:ae×Option Nat) (o:ae),aV[j]?=some x->outs[j]?=some o->og x.1 o=true)(ma:∀(j i off d:Nat),(s j).o1 i off d->i∈ej aV->False)
  (xB:∀(i j:Nat) (x y:ae) (b:Nat),outs[i]?=some x->bl x (cw vs i)=some b->outs[j]?=some y->bl y (cw vs j)=some b->i=j)
  (qY:E.rd=bO S0 w0.heap.size w s (aL a))(tB:∀b,E.fb b↔∃i,i∈ej aV/\bl (s i) (aL a i)=some b)
  (ak:Kept E.fb w w')(ao:iT w' (jA w w' E outs vs) r v)(r9:∀b,r.ij v=some b->jA w w' E outs vs b/\¬E.rd b)
  (mQ:∀(j:Nat) (o:ae),outs[j]?=some o->dp w' (fun b=>jA w w' E outs vs b/\r.ij v≠some b) (fun b=>E.fb b\/w.heap.size<=b) zn zo o (cw vs j))
  (c0:pd s s1 (dX aV outs)):Rel S0 w0 n (Ab.put s1 d r.dj) (a.put (some d) v) w':=by
 have wl:∀i,i∈ej aV->∃(j:Nat) (x:ae) (o:ae),aV[j]?=some (x,some i)/\outs[j]?=some o/\vs[j]?=some (aL a i)/\s i=x/\x.bare=true/\x.aR=true/\og x o=true:=by
  intro i ah;unfold ej at ah;rw[xz]at ah;obtain⟨⟨x,q⟩,hm,bK⟩:=ah;dsimp only at bK;subst bK;obtain⟨j,ac⟩:=mG hm;have ar:j<outs.length:=by rw[<-al];exact(eQ.1 ac).1
  obtain⟨u,hu,hs,ad,aB,rfl⟩:=gO j _ ac;exact⟨j,x,outs[j],ac,cr ar,hu,hs,ad,aB,Bb j _ _ ac (cr ar)⟩
 have zr:∀i o,(i,o)∈dX aV outs->i∈ej aV/\∃(j:Nat),outs[j]?=some o/\vs[j]?=some (aL a i)/\(s i).bare=true/\(s i).aR=true/\og (s i) o=true:=by intro i o h;obtain⟨j,x,aa,ab⟩:=xy h;obtain⟨u,hu,hs,ad,aB,rfl⟩:=gO j _ aa;dsimp only at hs ad aB;subst hs;exact⟨zq aa,j,ab,hu,ad,aB,Bb j _ o aa ab⟩
 have mK:∀i,i∈ej aV->∃o,(i,o)∈dX aV outs:=by intro i ah;obtain⟨j,x,o,aa,ab,_⟩:=wl i ah;exact⟨o,Kr aa ab⟩
 have zeP:∀{x o:ae},og x o=true->o.bare=true:=by intro x o h;cases x<;>cases o<;>first|rfl|(simp[og,eB]at h)
 have uL:∀j o b,(j,o)∈dX aV outs->bl o (aL a j)=some b->E.fb b\/w.heap.size<=b:=by intro j o b aB ad;obtain⟨_,k,aa,ab,_,_,aw⟩:=zr j o aB;have dH:=mQ k o aa;rw[tz ab]at dH;exact(dH.gU ad).1
 have OY:∀j b,bl (s1 j) (aL a j)=some b->(∃o,(j,o)∈dX aV outs/\bl o (aL a j)=some b)\/((∀o,(j,o)∉dX aV outs)/\bl (s j) (aL a j)=some b):=by
  intro j b ad;by_cases ac:∃o,(j,o)∈dX aV outs
  ·obtain⟨o,aB⟩:=ac;rw[c0.new j o aB]at ad;exact .inl ⟨o,aB,ad⟩
  ·have cl:∀o,(j,o)∉dX aV outs:=fun o aB=>ac ⟨o,aB⟩;rcases c0.l1 j cl with e|⟨e,_⟩<;>rw[e]at ad
   ·exact .inr ⟨cl,ad⟩
   ·cases ad
 have OZ:∀b,wg outs vs b->E.fb b\/w.heap.size<=b:=by rintro b ⟨j,o,aa,au⟩;exact((mQ j o aa).gU au).1
 have zeQ:∀i o b,(i,o)∈dX aV outs->bl o (aL a i)=some b->wg outs vs b:=by intro i o b h ad;obtain⟨_,j,aa,ab,_⟩:=zr i o h;exact⟨j,o,aa,by rw[tz ab];exact ad⟩
 have Kt:∀b,E.fb b->nq S0 w0.heap.size b/\b<w.heap.size:=by intro b ad;obtain⟨i,_,ah⟩:=(tB b).1 ad;exact(af.rep i).gU ah
 have qZ:∀b,jA w w' E outs vs b->bO S0 w0.heap.size w' s1 (aL a) b:=by
  rintro b ⟨h,cl⟩;have DQ:∀i,bl (s1 i) (aL a i)=some b->(∀o,(i,o)∉dX aV outs)/\bl (s i) (aL a i)=some b:=by
   intro i ah;rcases OY i b ah with⟨o,aB,ad⟩|h
   ·exact absurd (zeQ i o b aB ad) cl
   ·exact h
  rcases h with h|h|⟨aa,ab⟩
  ·rw[qY]at h;exact⟨h.1,s9 h.2.1 ak.size,fun i ah=>h.2.2 i (DQ i ah).2⟩
  ·obtain⟨aE,aQ⟩:=Kt b h;refine⟨.inr aE,s9 aQ ak.size,fun i ah=>?_⟩;obtain⟨au,aN⟩:=DQ i ah;obtain⟨m,hm,Bc⟩:=(tB b).1 h;have:=af.inj i m b aN Bc;subst this;obtain⟨o,aB⟩:=mK i hm;exact au o aB
  ·refine⟨.inr (.inl (jc af.below.size aa)),ab,fun i ah=>?_⟩;have:=((af.rep i).gU (DQ i ah).2).2;omega
 have hf:∀b,bO S0 w0.heap.size w s (aL a) b->bO S0 w0.heap.size w' s1 (aL a) b/\¬r.ij v=some b:=by
  intro b ad;refine⟨qZ b ⟨.inl (by rw[qY];exact ad),fun aB=>?_⟩,fun h=>(r9 b h).2 (by rw[qY];exact ad)⟩;rcases OZ b aB with h|h
  ·obtain⟨i,_,ah⟩:=(tB b).1 h;exact ad.2.2 i ah
  ·have:=ad.2.1;omega
 have zeR:∀b,bO S0 w0.heap.size w s (aL a) b->¬E.fb b:=by intro b ad al;obtain⟨i,_,ah⟩:=(tB b).1 al;exact ad.2.2 i ah
 have b8:∀i,dp w' (fun b=>bO S0 w0.heap.size w' s1 (aL a) b/\¬r.ij v=some b) (nq S0 w0.heap.size) s1 (aL a) (s1 i) (aL a i):=by
  intro i;by_cases ah:∃o,(i,o)∈dX aV outs
  ·obtain⟨o,aB⟩:=ah;obtain⟨_,j,aa,ab,_,_,aw⟩:=zr i o aB;rw[c0.new i o aB];have dH:=mQ j o aa;rw[tz ab]at dH;refine dH.bare (zeP aw) (fun b ad=>⟨qZ b ad.1,ad.2⟩) (fun b _ ad=>ad.elim (fun h=>(Kt b h).1) (fun h=>.inl (jc af.below.size h)))
  ·have cl:∀o,(i,o)∉dX aV outs:=fun o aB=>ah ⟨o,aB⟩;rcases c0.l1 i cl with e|⟨e,_⟩
   ·rw[e];refine(af.rep i).mono hf (fun b ad=>ak.block b ad.2.1 (zeR b ad)) (fun b ad=>?_) (fun k qK=>?_) (fun bL off bG cs b al cT cm=>?_)
    rotate_right
    ·have Ku:∀o,(bL,o)∉dX aV outs:=by
      intro o aB;exact ma i bL off bG al (zr bL o aB).1
     obtain⟨_,_,au⟩:=c0.ref i bL (by rw[e];exact(ae.pH al).1);refine⟨⟨cs,by rw[au Ku];exact cT,rfl⟩,World.cell?_of_block (ak.block b ((af.rep bL).gU cm).2 (fun zeS=>?_))⟩;obtain⟨m,hm,Bc⟩:=(tB b).1 zeS;have:=af.inj bL m b cm Bc;subst this;obtain⟨o,aB⟩:=mK bL hm;exact Ku o aB
    ·refine ak.block b ((af.rep i).gU ad).2 (fun al=>?_);obtain⟨m,hm,Bc⟩:=(tB b).1 al;have:=af.inj i m b ad Bc;subst this;exact ah (mK i hm)
    ·obtain⟨_,ab,au⟩:=c0.ref i k (by rw[e];exact ae.qL qK);by_cases Vu:∃o,(k,o)∈dX aV outs
     ·obtain⟨o,aB⟩:=Vu;have aN:=ab o aB;rw[c0.new k o aB];refine⟨rfl,fun _=>aN,fun b ad=>?_⟩;obtain⟨_,j,aE,aQ,oh,Vv,n_⟩:=zr k o aB;have zeT:=(af.rep k).bare (S':=fun _=>True) (O':=fun _=>True) (s':=zn) (tm':=zo) oh (fun _ _=>trivial) (fun _ _ _=>trivial);exact zeG n_ aN.1 aN.2.2.2 zeT ad
     ·have aN:=au (fun o aB=>Vu ⟨o,aB⟩);exact⟨rfl,fun h=>by rw[aN];exact⟨h,rfl,rfl,rfl⟩,fun b ad=>by rw[aN];exact ad⟩
   ·rw[e];trivial
 have OX:Kept S0.fb w0 w':=by
  refine⟨ak.os.trans af.below.os,ak.tape.trans af.below.tape,ak.output.trans af.below.output,jc af.below.size ak.size,fun b ad aX=>?_⟩;rw[ak.block b (s9 ad af.below.size) (fun al=>?_)]
  ·exact af.below.block b ad aX
  ·rcases (Kt b al).1 with h|h
   ·omega
   ·exact aX h
 have zeU:∀i,n<=i->(s1 i).apart=true:=by
  intro i ah;have gY:=af.out i ah;by_cases l6:∃o,(i,o)∈dX aV outs
  ·obtain⟨o,aB⟩:=l6;obtain⟨_,_,_,_,_,bB,aw⟩:=zr i o aB;rw[c0.new i o aB];rcases Up gY bB with⟨_,_,_,_,e⟩|⟨_,_,_,_,e⟩<;>rw[e]at aw
   ·cases o<;>first|rfl|(simp[og,eB]at aw)
   ·cases o<;>first|rfl|(simp[og,eB]at aw)
  ·rcases c0.l1 i (fun o aB=>l6 ⟨o,aB⟩)with e|⟨e,_⟩
   ·rw[e,gY]
   ·rw[e];rfl
 have Ks:∀i b,bl (s1 i) (aL a i)=some b->¬r.ij v=some b:=by intro i b ad zg;exact(qZ b (r9 b zg).1).2.2 i ad
 have zeV:dp w' (fun b=>bO S0 w0.heap.size w' s1 (aL a) b/\¬r.ij v=some b) (nq S0 w0.heap.size) s1 (aL a) r.dj v:=by
  cases r with
  |x bP=>exact cz.mono ao (fun b ad=>⟨qZ b ad,fun h=>by cases h⟩) (fun _ _=>rfl)
  |b2 us=>exact⟨ao.choose,ao.choose_spec.1,ao.choose_spec.2.1,fun j x ac=>let ⟨u,hu,ai⟩:=ao.choose_spec.2.2 j x ac;⟨u,hu,cz.mono ai (fun b ad=>⟨qZ b ad,fun h=>by cases h⟩) (fun _ _=>rfl)⟩⟩
  |own e z xs=>
   obtain⟨us,bB,dK,ai,hm,bk⟩:=ao;refine⟨us,bB,dK.mono (fun b ad=>⟨qZ b ad.1,ad.2⟩) (fun _ _=>rfl),ai,hm,fun b ad=>?_⟩;obtain⟨aa,ab⟩:=r9 b ad;rcases aa.1 with h|h|h
   ·exact absurd h ab
   ·exact(Kt b h).1
   ·exact .inl (jc af.below.size h.1)
 have zeW:∀i j b,bl (s1 i) (aL a i)=some b->bl (s1 j) (aL a j)=some b->i=j:=by
  have mix:∀i j o b,(i,o)∈dX aV outs->bl o (aL a i)=some b->(∀o,(j,o)∉dX aV outs)->bl (s j) (aL a j)=some b->False:=by
   intro i j o b aB ad cl ac;rcases uL i o b aB ad with h|h
   ·obtain⟨m,hm,Bc⟩:=(tB b).1 h;have:=af.inj j m b ac Bc;subst this;obtain⟨di,ii⟩:=mK j hm;exact cl di ii
   ·have:=((af.rep j).gU ac).2;omega
  intro i j b ah ac;rcases OY i b ah with⟨o,aB,ad⟩|⟨cl,ad⟩<;>rcases OY j b ac with⟨di,ii,cm⟩|⟨DR,cm⟩
  ·obtain⟨aE,cH,ax,aK⟩:=xy aB;obtain⟨aQ,dl,f1,f2⟩:=xy ii;obtain⟨DS,Bd,_,_,_,rfl⟩:=gO aE _ ax;obtain⟨Kv,O0,_,_,_,rfl⟩:=gO aQ _ f1;have:=xB aE aQ o di b aK (by rw[tz Bd];exact ad) f2 (by rw[tz O0];exact cm);subst this;rw[ax]at f1;simp only[b9,cA]at f1;exact f1.2
  ·exact(mix i j o b aB ad DR cm).elim
  ·exact(mix j i di b ii cm cl ad).elim
  ·exact af.inj i j b ad cm
 refine Rel.zeN (X:=fun b=>r.ij v=some b) aA af.n6 af.defers af.size OX af.lt b8 zeW zeU (c0.wf af.wf) (fun j=>by cases r<;>rfl) zeV (fun b ad=>?_) Ks;cases r with
 |own e z xs=>exact ad
 |_=>cases ad
def p9(i:Nat):List (ae×Option Nat)->Nat->Option Nat
 |[],_=>none
 |(_,some k)::l,j=>bif k==i then some j else p9 i l (j+1)
 |(_,none)::l,j=>p9 i l (j+1)
def tC(L:List (ae×Option Nat)):List (ag⊕(Nat×Nat))->Option (List (ag⊕(Nat×Nat)))
 |[]=>some []
 |.inl c::r=>match tC L r with
  |some cs=>some (.inl c::cs)
  |none=>none
 |.inr (i,off)::r=>match p9 i L 0,tC L r with
  |some j,some cs=>some (.inr (j,off)::cs)
  |_,_=>none
def k8(L:List (ae×Option Nat)):ae->ae
 |.df f caps=>match tC L caps with
  |some cs=>.df f cs
  |none=>.dead
 |.et i off=>match p9 i L 0 with
  |some j=>.et j off
  |none=>.dead
 |a=>a
def hN(L:List (ae×Option Nat)):List (ae×Option Nat)->List ae
 |[]=>[]
 |y::r=>k8 L y.1::hN L r
def Be(L:List (ae×Option Nat)):∀(l:List (ae×Option Nat)) (j:Nat),(hN L l)[j]?=(l[j]?).map fun y=>k8 L y.1
 |[],j=>by simp[hN]
 |y::r,0=>rfl
 |y::r,j+1=>by simpa[hN]using Be L r j
def ae.p_:ae->List Nat
 |.df _ caps=>caps.filterMap o_
 |.et i _=>[i]
 |_=>[]
def Bf(l:List Nat):List Nat->List Nat->List Nat
 |[],r=>r
 |i::t,r=>bif l.contains i then Bf l t r else i::Bf l t r
def Bg(l:List Nat):List (ae×Option Nat)->List Nat
 |[]=>[]
 |(x,_)::r=>Bf l x.p_ (Bg l r)
def p'(s:aj)(xs:List (ae×Option Nat)):Option (Nat×List ag):=
 match Bg (ej xs) xs with
 |[]=>none
 |i::_=>match s i with
  |.box cs=>some (i,cs)
  |_=>none
def G7(P:aM)(g:FuncId)(xs:List (ae×Option Nat))(k:List (ae×Option Nat)->bH->List ae->Prop):Option (Nat×List ag)->Prop
 |none=>∃r outs,cx P g (hN xs xs) r outs/\k xs r outs
 |some (i,cs)=>(ae.box cs).told=true/\(ej (xs++[(.box cs,some i)])).Nodup/\∃r outs co,(∀b,cx P g (hN (xs++[(.box cs,some i)]) xs++[.cR b cs]) r (outs++[.cR b co]))/\k (xs++[(.box cs,some i)]) r (outs++[.box co])
def jY(P:aM)(s:aj)(c:Prop×Option (FuncId×List (ae×Option Nat)))(k:List (ae×Option Nat)->bH->List ae->Prop):Prop:=
 match c with
 |(p,some (g,xs))=>p/\zp xs=true/\(ej xs).Nodup/\G7 P g xs k (p' s xs)
 |_=>False
def uM(P:aM)(s:aj)(c:Prop×Option (FuncId×List (ae×Option Nat)))(c3:List (ae×Option Nat))(r:bH)(outs:List ae):Prop:=
 match c with
 |(p,some (g,xs))=>p/\zp xs=true/\(ej xs).Nodup/\((p' s xs=none/\c3=xs/\cx P g (hN xs xs) r outs) \/
   ∃i cs,p' s xs=some (i,cs)/\c3=xs++[(.box cs,some i)]/\(ae.box cs).told=true/\(ej c3).Nodup/\∃DT co,outs=DT++[.box co]/\∀b,cx P g (hN c3 xs++[.cR b cs]) r (DT++[.cR b co]))
 |_=>False
def wm{P:aM}{s:aj}{c:Prop×Option (FuncId×List (ae×Option Nat))}{k:List (ae×Option Nat)->bH->List ae->Prop}:jY P s c k↔∃c3 r outs,uM P s c c3 r outs/\k c3 r outs:=by
 unfold jY uM;obtain⟨p,q⟩:=c;cases q with
 |none=>exact⟨fun h=>h.elim,fun ⟨_,_,_,h,_⟩=>h.elim⟩
 |some q=>
  obtain⟨g,xs⟩:=q;dsimp only;cases ay:p' s xs with
  |none=>
   constructor
   ·rintro⟨aa,ab,au,r,outs,aN,bE⟩;exact⟨xs,r,outs,⟨aa,ab,au,.inl ⟨rfl,rfl,aN⟩⟩,bE⟩
   ·rintro⟨c3,r,outs,⟨aa,ab,au,⟨_,rfl,aN⟩|⟨i,cs,h,_⟩⟩,bE⟩
    ·exact⟨aa,ab,au,r,outs,aN,bE⟩
    ·cases h
  |some q=>
   obtain⟨i,cs⟩:=q;constructor
   ·rintro⟨aa,ab,au,aN,bE,r,outs,co,cS,d8⟩;exact⟨_,r,_,⟨aa,ab,au,.inr ⟨i,cs,rfl,rfl,aN,bE,outs,co,rfl,cS⟩⟩,d8⟩
   ·rintro⟨c3,r,outs,⟨aa,ab,au,⟨h,_⟩|⟨bL,cs',h,rfl,aN,bE,DT,co,rfl,cS⟩⟩,d8⟩
    ·cases h
    ·simp only[b9,cA]at h;obtain⟨rfl,rfl⟩:=h;exact⟨aa,ab,au,aN,bE,r,DT,co,cS,d8⟩
def zeX{P:aM}{s:aj}{c:Prop×Option (FuncId×List (ae×Option Nat))}{k cq:List (ae×Option Nat)->bH->List ae->Prop}(h:jY P s c k)(ak:∀c3 r outs,k c3 r outs->cq c3 r outs):jY P s c cq:=by obtain⟨c3,r,outs,aa,ab⟩:=wm.1 h;exact wm.2 ⟨c3,r,outs,aa,ak _ _ _ ab⟩
def O1:∀{args outs:List ae},args.length=outs.length->(∀(j:Nat) (a o:ae),args[j]?=some a->outs[j]?=some o->eB a o=true)->hh args outs=true
 |[],[],_,_=>rfl
 |a::r,[],h,_=>by simp at h
 |[],o::q,h,_=>by simp at h
 |a::r,o::q,h,k=>by simp only[hh,b7];exact⟨k 0 a o rfl rfl,O1 (by simpa using h) (fun j a' di aa ab=>k (j+1) a' di (by simpa using aa) (by simpa using ab))⟩
def xD(L:List (ae×Option Nat)):∀(l:List (ae×Option Nat)),(hN L l).length=l.length
 |[]=>rfl
 |_::r=>by simp[hN,xD L r]
def Vw{L:List (ae×Option Nat)}{x o:ae}(h:eB (k8 L x) o=true):eB x o=true:=by
 cases x<;>first|exact h|skip
 ·simp only[k8]at h;split at h
  ·cases o<;>first|rfl|(simp[eB]at h)
  ·simp[eB]at h
 ·simp only[k8]at h;split at h
  ·cases o<;>first|rfl|(simp[eB]at h)
  ·simp[eB]at h
def Kw{P:aM}{s:aj}{c:Prop×Option (FuncId×List (ae×Option Nat))}{c3:List (ae×Option Nat)}{r:bH}{outs:List ae}(h:uM P s c c3 r outs):hh (c3.map (·.1)) outs=true/\(ej c3).Nodup/\∃p g xs,c=(p,some (g,xs))/\(c3=xs\/∃i cs,p' s xs=some (i,cs)/\c3=xs++[(.box cs,some i)]):=by
 have one:∀{L xs:List (ae×Option Nat)} {outs:List ae},hh (hN L xs) outs=true->hh (xs.map (·.1)) outs=true:=by
  intro L xs outs h;obtain⟨aa,ab⟩:=p8 h;refine O1 (by simpa[xD]using aa) (fun j a o bj aB=>?_);rw[eZ]at bj;cases aU:xs[j]? with
  |none=>rw[aU]at bj;cases bj
  |some y=>
   rw[aU]at bj;injection bj with bj
   dsimp only at bj;subst bj;exact Vw (ab j _ o (by rw[Be,aU];rfl) aB)
 have app:∀{xs outs:List ae} {x o:ae},hh (xs++[x]) (outs++[o])=true->xs.length=outs.length->hh xs outs=true:=by
  intro xs;induction xs with
  |nil=>intro outs x o _ h;cases outs with|nil=>rfl|cons _ _=>simp at h
  |cons y aV ba=>
   intro outs x o h al;cases outs with
   |nil=>simp at al
   |cons q zeY=>simp only[List.cons_append,hh,b7]at h⊢;exact⟨h.1,ba h.2 (by simpa using al)⟩
 have zeZ:∀{xs outs:List ae} {x o:ae},hh xs outs=true->eB x o=true->hh (xs++[x]) (outs++[o])=true:=by
  intro xs;induction xs with
  |nil=>intro outs x o h k;cases outs with|nil=>simp[hh,k]|cons _ _=>simp[hh]at h
  |cons y aV ba=>
   intro outs x o h k;cases outs with
   |nil=>simp[hh]at h
   |cons q zeY=>simp only[List.cons_append,hh,b7]at h⊢;exact⟨h.1,ba h.2 k⟩
 unfold uM at h;split at h
 ·rename_i p g xs;obtain⟨_,_,au,⟨_,rfl,aN⟩|⟨i,cs,ay,rfl,_,bE,DT,co,rfl,cS⟩⟩:=h
  ·exact⟨one aN.2.1,au,p,g,_,rfl,.inl rfl⟩
  ·refine⟨?_,bE,p,g,xs,rfl,.inr ⟨i,cs,ay,rfl⟩⟩;have aw:=(cS 0).2.1;have al:(hN (xs++[(ae.box cs,some i)]) xs).length=DT.length:=by
    have:=(p8 aw).1;simpa using this
   rw[qa];exact zeZ (one (app aw al)) rfl
 ·exact h.elim
def G8{i:Nat}:∀{L:List (ae×Option Nat)} {k j:Nat},p9 i L k=some j->k<=j/\∃x,L[j-k]?=some (x,some i)
 |[],k,j,h=>by cases h
 |(x,none)::l,k,j,h=>by obtain⟨aa,y,ab⟩:=G8 (L:=l) h;refine⟨by omega,y,?_⟩;rw[show j-k=(j-(k+1))+1 by omega];simpa using ab
 |(x,some m)::l,k,j,h=>by
  simp only[p9]at h;cases hm:m==i with
  |true=>rw[hm]at h;simp only[cond_true,b9]at h;subst h;rw[fc]at hm;subst hm;exact⟨f_ _,x,by simp⟩
  |false=>rw[hm]at h;obtain⟨aa,y,ab⟩:=G8 (L:=l) h;refine⟨by omega,y,?_⟩;rw[show j-k=(j-(k+1))+1 by omega];simpa using ab
def O2{L:List (ae×Option Nat)}:∀{caps cs:List (ag⊕(Nat×Nat))},tC L caps=some cs->cs.length=caps.length/\∀(m:Nat) (c:ag⊕(Nat×Nat)),cs[m]?=some c ->
  (∃x,c=.inl x/\caps[m]?=some (.inl x))\/∃i j off x,c=.inr (j,off)/\caps[m]?=some (.inr (i,off))/\L[j]?=some (x,some i)
 |[],cs,h=>by simp only[tC,b9]at h;subst h;exact⟨rfl,fun m c hm=>by simp at hm⟩
 |.inl x::r,cs,h=>by
  simp only[tC]at h;split at h
  ·rename_i cs' e;injection h with h
   subst h;obtain⟨aa,ab⟩:=O2 e;refine⟨by simp[aa],fun m c hm=>?_⟩;cases m with
   |zero=>simp at hm;subst hm;exact .inl ⟨x,rfl,rfl⟩
   |succ m=>simp at hm;simpa using ab m c hm
  ·cases h
 |.inr (i,off)::r,cs,h=>by
  simp only[tC]at h;split at h
  ·rename_i j cs' ax e;injection h with h
   subst h;obtain⟨aa,ab⟩:=O2 e;refine⟨by simp[aa],fun m c hm=>?_⟩;cases m with
   |zero=>simp at hm;subst hm;obtain⟨_,x,ai⟩:=G8 ax;exact .inr ⟨i,j,off,x,rfl,rfl,by simpa using ai⟩
   |succ m=>simp at hm;simpa using ab m c hm
  ·cases h
def Vx(af:Rel S0 w0 n s a w){v:ae}{u:aI}{g:FuncId}{caps:List (ae×Option Nat)}(h:mI S0 w0 s a w v u)(aw:pc s v=some (g,caps)) :
  ∃us:Array aI,u=.func (.func g) #[] us/\us.size=caps.length/\∀(j:Nat) (y:ae×Option Nat),caps[j]?=some y->∃x,us[j]?=some x/\qX S0 w0 s a w y x:=by
 have plain:∀{q:FuncId×List aG},jX v=some q->g=q.1->caps=q.2.map (fun x=>(ae.x x,none))->∃us:Array aI,u=.func (.func g) #[] us/\us.size=caps.length/\∀(j:Nat) (y:ae×Option Nat),caps[j]?=some y->∃x,us[j]?=some x/\qX S0 w0 s a w y x:=by
  rintro⟨bX,xs⟩ bK rfl rfl;obtain⟨us,aa,ab,au⟩:=DP h bK;refine⟨us,aa,by simp[ab],fun j y ac=>?_⟩;rw[eZ]at ac;cases ai:xs[j]? with
  |none=>rw[ai]at ac;cases ac
  |some x=>
   rw[ai]at ac;injection ac with ac
   subst ac;obtain⟨z,aZ,ao⟩:=au j x ai;exact⟨z,aZ,.inl ⟨x,rfl⟩,ao⟩
 cases v with
 |df f cs=>
  obtain⟨us,rfl,al,ap⟩:=h;simp only[pc]at aw;cases ht:mf s cs with
  |none=>rw[ht]at aw;cases aw
  |some aV=>rw[ht]at aw;simp only[uF,b9,cA]at aw;obtain⟨rfl,rfl⟩:=aw;obtain⟨aa,ab⟩:=Vr (us:=us.toList) af (by simpa using al) (fun j c ac=>by simpa using ap j c ac) ht;exact⟨us,rfl,by simpa using aa.symm,fun j y ac=>by simpa using ab j y ac⟩
 |_=>
  simp only[pc]at aw;cases bK:jX _ with
  |none=>rw[bK]at aw;cases aw
  |some q=>rw[bK]at aw;simp only[uF,b9,cA]at aw;exact plain bK aw.1.symm aw.2.symm
structure DU(S0:Env)(w0:bb)(s:aj)(a:Act)(w:bb)(c3:List (ae×Option Nat))(hW:Array aI)(args:List ae)(vs:Array aI):Prop where
 val:∀(j:Nat) (y:ae×Option Nat),c3[j]?=some y->∃u,hW[j]?=some u/\qX S0 w0 s a w y u
 len:args.length=c3.length
 size:vs.size<=c3.length
 at_:∀(j:Nat) (y:ae×Option Nat),c3[j]?=some y->(args[j]?=some (k8 c3 y.1)/\cw vs j=cw hW j)\/(∃cs b,y.1=.box cs/\args[j]?=some (.cR b cs)/\cw hW j=.pointer (some ⟨b,0,none⟩)) \/
  (∃g e z xs,(y.1=.own e z xs\/∃bX,y.1=.db bX e z xs)/\args[j]?=some (.db g e z xs)/\g=y.1.valOf (cw hW j))
def DU.rep(af:Rel S0 w0 n s a w){c3:List (ae×Option Nat)}{hW:Array aI}{args:List ae}{vs:Array aI}(h:DU S0 w0 s a w c3 hW args vs)(hi:(ej c3).Nodup){E:Env}(qY:E.rd=bO S0 w0.heap.size w s (aL a))(tB:∀b,E.fb b↔∃i,i∈ej c3/\bl (s i) (aL a i)=some b):Ba w E args vs:=by
 have wl:∀{i j:Nat} {x:ae},c3[j]?=some (x,some i)->∃y,args[j]?=some y/\(y.aR=true/\qW args y=true)/\(∀b,bl (s i) (aL a i)=some b↔bl y (cw vs j)=some b)/\dp w E.rd E.fb (eT args) (cw vs) y (cw vs j):=by
  intro i j x ac;obtain⟨u,hu,hs,jp,bB,zfa⟩:=h.val j _ ac;dsimp only at hs jp bB;have tD:cw hW j=aL a i:=by rw[tz hu,zfa]
  have b8:=af.rep i;have al:∀b,bl (s i) (aL a i)=some b->E.fb b:=fun b ad=>(tB b).2 ⟨i,zq ac,ad⟩;rcases h.at_ j _ ac with⟨aa,ab⟩|⟨cs,br,aa,ab,au⟩|⟨g,e,z,ea,aa,ab,au⟩
  ·have:k8 c3 x=x:=by cases x<;>first|rfl|(simp[ae.bare]at jp)
   dsimp only at aa;rw[this]at aa;refine⟨x,aa,⟨bB,zeE jp⟩,fun b=>by rw[ab,tD,hs],?_⟩;rw[ab,tD,<-hs];rw[<-hs]at jp;exact b8.bare jp (fun b ad=>by rw[qY];exact ad) (fun b ad _=>al b ad)
  ·dsimp only at aa;rw[tD]at au;rw[hs,aa,au]at b8 al;refine⟨_,ab,⟨rfl,rfl⟩,fun b=>by rw[hs,aa,au];rfl,?_⟩;obtain⟨eV,b3,t,e,bo,gB,cY⟩:=b8;obtain rfl:eV=br:=by simpa using e.symm
   exact⟨b3,t,bo,gB.mono (fun b ad=>by rw[qY];exact ad) (fun _ _=>rfl),al _ rfl⟩
  ·dsimp only at aa au;rw[tD]at au;refine⟨_,ab,⟨rfl,rfl⟩,fun b=>?_,?_⟩
   ·rw[hs];rcases aa with aa|⟨bX,aa⟩
    ·rw[aa]at au⊢;rw[au];exact jB
    ·rw[aa]at au⊢;rw[au];exact jB
   ·rw[hs]at b8 al;rcases aa with aa|⟨bX,aa⟩
    ·rw[aa]at au b8 al;obtain rfl:g=aL a i:=au;obtain⟨us,lG,gB,ai,hm,cY⟩:=b8;exact⟨us,lG,gB.mono (fun b ad=>by rw[qY];exact ad) (fun _ _=>rfl),ai,hm,fun b ad=>al b ad⟩
    ·rw[aa]at au b8 al;obtain rfl:g=bX:=au;obtain⟨us,lG,gB,ai,hm,cY⟩:=b8;exact⟨us,lG,gB.mono (fun b ad=>by rw[qY];exact ad) (fun _ _=>rfl),ai,hm,fun b ad=>al b ad⟩
 have xr:∀{i j:Nat} {x:ae} {b:Nat},c3[j]?=some (x,some i)->bl (s i) (aL a i)=some b->(eT args j).aR=true/\bl (eT args j) (cw vs j)=some b:=by
  intro i j x b ac ad;obtain⟨y,aa,ab,au,_⟩:=wl ac;have e:eT args j=y:=by unfold eT;rw[aa];rfl
  rw[e];exact⟨ab.1,(au b).1 ad⟩
 have Vy:∀{j:Nat} {x:ae},args[j]?=some x->∃y,c3[j]?=some y:=fun ac=>⟨_,cr (by rw[<-h.len];exact(eQ.1 ac).1)⟩
 have G9:∀{j:Nat} {x y:ae} {u:aI},c3[j]?=some (y,none)->args[j]?=some x->bl x u=none:=by
  intro j x y u aU ai;obtain⟨o5,hu,ah⟩:=h.val j _ aU;rcases h.at_ j _ aU with⟨aa,_⟩|⟨cs,b,aa,_⟩|⟨g,e,z,ea,aa,_⟩
  ·rw[aa]at ai;injection ai with ai
   subst ai;rcases ah.1 with⟨bP,ai⟩|ai
   ·dsimp only at ai⊢;rw[ai];rfl
   ·dsimp only at ai⊢;cases y<;>first|(cases ai;done)|skip
    ·simp only[k8];split<;>rfl
    ·simp only[k8];split<;>rfl
  ·rcases ah.1 with⟨bP,ai⟩|ai
   ·rw[aa]at ai;cases ai
   ·rw[aa]at ai;cases ai
  ·dsimp only at aa;rcases ah.1 with⟨bP,ai⟩|ai<;>dsimp only at ai
   ·rw[ai]at aa;rcases aa with aa|⟨_,aa⟩<;>cases aa
   ·rcases aa with aa|⟨_,aa⟩<;>rw[aa]at ai<;>cases ai
 have Vz:∀{j:Nat} {x:ae} {b:Nat},args[j]?=some x->bl x (cw vs j)=some b->∃i y,c3[j]?=some (y,some i)/\bl (s i) (aL a i)=some b:=by
  intro j x b ac ad;obtain⟨⟨y,q⟩,aU⟩:=Vy ac;cases q with
  |none=>rw[G9 aU ac]at ad;cases ad
  |some i=>
   obtain⟨Bh,aa,_,au,_⟩:=wl aU;rw[ac]at aa;injection aa with aa;subst aa
   exact⟨i,y,aU,(au b).2 ad⟩
 refine⟨by rw[h.len];exact h.size,fun j x ac=>?_,fun i j x y b aa au aN cS=>?_,fun b ad=>?_⟩
 ·obtain⟨⟨y,q⟩,aU⟩:=Vy ac;cases q with
  |some i=>
   obtain⟨Bh,aa,ab,_,aN⟩:=wl aU;rw[ac]at aa;injection aa with aa;subst aa
   exact⟨ab.2,aN⟩
  |none=>
   obtain⟨u,hu,ah⟩:=h.val j _ aU;rcases h.at_ j _ aU with⟨aa,ab⟩|⟨cs,b,aa,_⟩|⟨g,e,z,ea,aa,_⟩
   ·rw[aa]at ac;injection ac with ac
    subst ac;rw[ab,tz hu];obtain⟨ak,ao⟩:=ah;dsimp only at ak ao⊢;rcases ak with⟨bP,ai⟩|ai
    ·subst ai;exact⟨rfl,cz.mono ao (fun b ad=>by rw[qY];exact ad) (fun _ _=>rfl)⟩
    ·cases y<;>first|(cases ai;done)|skip
     ·rename_i f caps;simp only[k8];cases ap:tC c3 caps with
      |none=>exact⟨rfl,trivial⟩
      |some cs=>
       obtain⟨us,aF,al,hA⟩:=ao;obtain⟨aE,aQ⟩:=O2 ap;have bB:∀{i:Nat} {off:Nat} {o5:aI},xh w (bO S0 w0.heap.size w s (aL a)) s (aL a) (.inr (i,off)) o5->∃b,bl (s i) (aL a i)=some b:=by
        intro i off o5 ap;rw[s8]at ap;split at ap
        ·obtain⟨b,_,e⟩:=ap;exact⟨b,e⟩
        ·obtain⟨_,b,_,_,_,e⟩:=ap;exact⟨b,e⟩
       refine⟨?_,us,aF,by rw[al,aE],fun m c hm=>?_⟩
       ·simp only[qW];rw[hJ];intro c k9;obtain⟨m,hm⟩:=mG k9;rcases aQ m c hm with⟨x,rfl,_⟩|⟨i,mb,off,x,rfl,G_,aZ⟩
        ·rfl
        ·obtain⟨o5,_,iz⟩:=hA m _ G_;obtain⟨b,ad⟩:=bB iz;exact(xr aZ ad).1
       ·rcases aQ m c hm with⟨x,rfl,G_⟩|⟨i,mb,off,x,rfl,G_,aZ⟩
        ·obtain⟨o5,bE,cS⟩:=hA m _ G_;exact⟨o5,bE,bD.mono cS (fun b ad=>by rw[qY];exact ad) (fun _ _=>rfl)⟩
        ·obtain⟨o5,bE,cS⟩:=hA m _ G_;refine⟨o5,bE,?_⟩;rw[s8]at cS⊢;split at cS
         ·rename_i ah;rw[av ah];obtain⟨b,ax,aK⟩:=cS;exact⟨b,ax,(xr aZ aK).2⟩
         ·rename_i ah;rw[an ah];obtain⟨fa,b,ax,aK,cd,fI⟩:=cS;exact⟨fa,b,ax,by rw[qY];exact aK,cd,(xr aZ fI).2⟩
     ·rename_i i off;simp only[k8];cases ap:p9 i c3 0 with
      |none=>exact⟨rfl,trivial⟩
      |some mb=>obtain⟨_,x,aZ⟩:=G8 ap;obtain⟨fa,b,ax,aK,cd,fI⟩:=ao;exact⟨(xr aZ fI).1,fa,b,ax,by rw[qY];exact aK,cd,(xr aZ fI).2⟩
   ·rcases ah.1 with⟨bP,ai⟩|ai
    ·rw[aa]at ai;cases ai
    ·rw[aa]at ai;cases ai
   ·dsimp only at aa;rcases ah.1 with⟨bP,ai⟩|ai<;>dsimp only at ai
    ·rw[ai]at aa;rcases aa with aa|⟨_,aa⟩<;>cases aa
    ·rcases aa with aa|⟨_,aa⟩<;>rw[aa]at ai<;>cases ai
 ·obtain⟨i1,wn,ax,aK⟩:=Vz aa au;obtain⟨i2,r_,f1,f2⟩:=Vz aN cS;have:=af.inj i1 i2 b aK f2;subst this;exact OW hi ax f1
 ·obtain⟨i,ah,cm⟩:=(tB b).1 ad;unfold ej at ah;rw[xz]at ah;obtain⟨⟨x,q⟩,hm,bK⟩:=ah;dsimp only at bK;subst bK;obtain⟨j,ac⟩:=mG hm;obtain⟨y,aa,_,au,_⟩:=wl ac;exact⟨j,y,aa,(au b).1 cm⟩
structure VA(c3:List (ae×Option Nat))(hW:Array aI)(args:List ae)(vs:Array aI)(outs zs:List ae):Prop where
 len:outs.length=zs.length
 at_:∀(j:Nat) (o:ae) (y:ae×Option Nat),outs[j]?=some o->c3[j]?=some y->(zs[j]?=some o/\args[j]?=some (k8 c3 y.1)/\cw vs j=cw hW j) \/
  (∃cs b co,y.1=.box cs/\args[j]?=some (.cR b cs)/\cw hW j=.pointer (some ⟨b,0,none⟩)/\o=.box co/\zs[j]?=some (.cR b co))
def VB(af:Rel S0 w0 n s a w){g:FuncId}{c3:List (ae×Option Nat)}{hW:Array aI}{args:List ae}{vs:Array aI}{r:bH}{outs zs:List ae}{d:Nat}(c0:DU S0 w0 s a w c3 hW args vs)(hi:(ej c3).Nodup)(ma:zp c3=true)
  (en:cx P g args r zs)(cY:VA c3 hW args vs outs zs)(aA:S0.m<=d/\d<n) :
  Calls P g vs w fun e w'=>∃v,e=.returned v/\Rel S0 w0 n (Ab.put (gf s c3 outs) d r.dj) (a.put (some d) v) w':=by
 obtain⟨_,fm,pb⟩:=en;obtain⟨mJ,G'⟩:=p8 fm;have iS:c3.length=outs.length:=by rw[cY.len,<-mJ,c0.len]
 let E:Env:=⟨bO S0 w0.heap.size w s (aL a),fun b=>∃i,i∈ej c3/\bl (s i) (aL a i)=some b,0,fun _=>undef⟩
 have eW:pI E w:=by
  refine⟨fun b ad=>ad.2.1,fun b ⟨i,_,ah⟩=>((af.rep i).gU ah).2,fun b ad ⟨i,_,ah⟩=>ad.2.2 i ah,af.lt.AO af.below,fun b ad ⟨i,_,ah⟩=>?_⟩;rcases ((af.rep i).gU ah).1 with h|h
  ·have:=bn.lt af.lt.xi ad;omega
  ·exact af.lt.y0 b ad h
 have Bb:hh (c3.map (·.1)) outs=true:=by
  refine O1 (by simpa using iS) (fun j x o aa ab=>?_);rw[eZ]at aa;cases aU:c3[j]? with
  |none=>rw[aU]at aa;cases aa
  |some y=>
   rw[aU]at aa;injection aa with aa
   dsimp only at aa;rcases cY.at_ j o y ab aU with⟨aE,aQ,_⟩|⟨cs,b,co,aE,_,_,rfl,_⟩
   ·have:=G' j _ o aQ aE;rw[aa]at this;cases x<;>first|exact this|skip
    ·simp only[k8]at this;split at this
     ·cases o<;>first|rfl|(simp[eB]at this)
     ·simp[eB]at this
    ·simp only[k8]at this;split at this
     ·cases o<;>first|rfl|(simp[eB]at this)
     ·simp[eB]at this
   ·rw[<-aa,aE];rfl
 have OZ:∀b,wg zs vs b↔wg outs hW b:=by
  have aZ:∀{j:Nat} {o:ae},outs[j]?=some o->∃y,c3[j]?=some y:=fun h=>⟨_,cr (by rw[iS];exact(eQ.1 h).1)⟩
  refine fun b=>⟨fun ⟨j,zsJ,aa,ab⟩=>?_,fun ⟨j,o,aa,ab⟩=>?_⟩
  ·obtain⟨o,aB⟩:∃o,outs[j]?=some o:=⟨_,cr (by rw[cY.len];exact(eQ.1 aa).1)⟩
   obtain⟨y,aU⟩:=aZ aB;refine⟨j,o,aB,?_⟩;rcases cY.at_ j o y aB aU with⟨aE,_,bf⟩|⟨cs,br,co,_,_,bf,rfl,dz⟩
   ·rw[aa]at aE;injection aE with aE
    rw[<-aE,<-bf];exact ab
   ·rw[aa]at dz;injection dz with dz
    subst dz;rw[bf];exact ab
  ·obtain⟨y,aU⟩:=aZ aa;rcases cY.at_ j o y aa aU with⟨aE,_,bf⟩|⟨cs,br,co,_,_,bf,rfl,dz⟩
   ·exact⟨j,o,aE,by rw[bf];exact ab⟩
   ·rw[bf]at ab;exact⟨j,_,dz,ab⟩
 have O3:∀w',jA w w' E zs vs=jA w w' E outs hW:=by intro w';funext b;simp only[jA,OZ b]
 refine(pb w E vs eW (c0.rep af hi rfl (fun b=>jB))).mono ?_;rintro e w' ⟨v,rfl,Ha,ao,r9,mQ⟩;rw[O3 w']at ao r9 mQ;refine⟨v,rfl,?_⟩;have DV:pd s (gf s c3 outs) (dX c3 outs):=by refine G5 c3 outs s af.wf hi iS (fun j x i o aa ab=>?_);obtain⟨u,hu,hs,ad,aB,_⟩:=c0.val j _ aa;dsimp only at hs ad aB;subst hs;have aw:=(p8 Bb).2 j _ o (by rw[eZ,aa];rfl) ab;refine⟨Kq aw,aB,?_⟩;revert aw;dsimp only;generalize s i=z;intro aw;cases z<;>cases o<;>first|rfl|(simp[eB]at aw)
 have VC:∀{j:Nat} {o:ae} {b:Nat},outs[j]?=some o->bl o (cw hW j)=some b->∃i x,c3[j]?=some (x,some i)/\bl (s i) (aL a i)=some b:=by
  intro j o b aa ab;obtain⟨⟨x,q⟩,aU⟩:∃y,c3[j]?=some y:=⟨_,cr (by rw[iS];exact(eQ.1 aa).1)⟩
  have aw:=(p8 Bb).2 j x o (by rw[eZ,aU];rfl) aa;obtain⟨u,hu,bK⟩:=c0.val j _ aU;cases q with
  |none=>
   have:o=.dead:=by
    rcases bK.1 with⟨bP,ai⟩|ai
    ·dsimp only at ai;subst ai;cases o<;>first|rfl|(simp[eB]at aw)
    ·cases x<;>first|(cases ai;done)|(cases o<;>first|rfl|(simp[eB]at aw))
   rw[this]at ab;cases ab
  |some i=>obtain⟨hs,ad,aB,rfl⟩:=bK;dsimp only at hs;rw[tz hu]at ab;refine⟨i,x,aU,?_⟩;subst hs;exact Vn aw (af.rep i) ab
 have xB:∀(i j:Nat) (x y:ae) (b:Nat),outs[i]?=some x->bl x (cw hW i)=some b->outs[j]?=some y->bl y (cw hW j)=some b->i=j:=by intro i j x y b aa ab au aN;obtain⟨i1,cH,ax,aK⟩:=VC aa ab;obtain⟨i2,dl,f1,f2⟩:=VC au aN;have:=af.inj i1 i2 b aK f2;subst this;exact OW hi ax f1
 refine af.Vt aA c0.val iS (fun j x o aa ab=>Kq ((p8 Bb).2 j x.1 o (by rw[eZ,aa];rfl) ab)) (fun j i off d al ah=>?_) xB rfl (fun b=>jB) Ha ao r9 (fun j o aB=>?_) DV
 ·obtain⟨_,md,eV,aE,aQ,_⟩:=(af.rep j).Gm al;unfold ej at ah;rw[xz]at ah;obtain⟨⟨x,q⟩,hm,bK⟩:=ah;dsimp only at bK;subst bK;obtain⟨mb,gm⟩:=mG hm;obtain⟨u,hu,hs,_⟩:=c0.val mb _ gm;dsimp only at hs;have bv:=hJ.1 ma _ hm;dsimp only at bv;rw[<-hs]at bv;exact zeH aE bv aQ
 obtain⟨y,aU⟩:∃y,c3[j]?=some y:=⟨_,cr (by rw[iS];exact(eQ.1 aB).1)⟩
 rcases cY.at_ j o y aB aU with⟨aE,_,bf⟩|⟨cs,br,co,_,_,bf,rfl,dz⟩
 ·rw[<-bf];have:=mQ j o aE;refine this.bare ?_ (fun _ h=>h) (fun b _ h=>.inl h);have aw:=(p8 Bb).2 j y.1 o (by rw[eZ,aU];rfl) aB;revert aw;generalize y.1=z;intro aw;cases z<;>cases o<;>first|rfl|(simp[eB]at aw)
 ·rw[bf];obtain⟨b3,t,bo,al,bk⟩:=mQ j _ dz;exact⟨br,b3,t,rfl,bo,al,.inl bk⟩
def VD{s:aj}{xs:List (ae×Option Nat)}{i:Nat}{cs:List ag}(h:p' s xs=some (i,cs)):s i=.box cs:=by
 unfold p' at h;split at h
 ·cases h
 ·split at h
  ·rename_i hs;simp only[b9,cA]at h;obtain⟨rfl,rfl⟩:=h;exact hs
  ·cases h
def O4(af:Rel S0 w0 n s a w){f:aW}{args:Array aW}{d:Nat}{K:aj->Prop}(ap:jY P s (gX s f args.toList) (fun xs r outs=>d<n/\K (Ab.put (gf s xs outs) d r.dj)))
  {o:Oper}(aB:∃ts,o.op=.call {callee:=.value f,args:=args,argTypes:=ts})(eS:o.dst=some d)(eX:S0.m<=d){bT:Act->bb->Prop}{Q:Exit->Act->bb->Prop}
  (ct:∀s' a' w',Rel S0 w0 n s' a' w'->K s'->bT a' w'):o.wp P a w bT Q:=by
 obtain⟨ts,c4⟩:=aB;unfold jY at ap;split at ap
 ·rename_i pp g aV cC;obtain⟨r6,Kx,hi,pe⟩:=ap;obtain⟨caps,xs,p,q,gd,hV,aK,ax,rfl,rfl⟩:∃caps xs p q gd,aJ s f=(p,gd)/\k7 s args.toList=(q,some xs)/\pc s gd=some (g,caps)/\pp=(p/\q)/\aV=xs++caps:=by
   unfold gX at cC;split at cC
   ·rename_i p gd q xs hV aK;split at cC
    ·rename_i bX caps ax;simp only[cA,b9]at cC;obtain⟨rfl,rfl,rfl⟩:=cC;exact⟨caps,xs,p,q,gd,hV,aK,ax,rfl,rfl⟩
    ·simp at cC
   ·simp at cC
  obtain⟨p7,am⟩:=r6;have oe:=af.aJ f (by rw[hV];exact p7);rw[hV]at oe;obtain⟨us,mP,k3,hA⟩:=Vx af oe ax;obtain⟨oi,O5⟩:=Vq af aK am;have hm:args.map a.eval=(args.toList.map a.eval).toArray:=by apply rQ;simp
  have gO:∀(j:Nat) (y:ae×Option Nat),(xs++caps)[j]?=some y->∃u,((args.toList.map a.eval).toArray++us)[j]?=some u/\qX S0 w0 s a w y u:=by
   intro j y ac;by_cases ar:j<xs.length
   ·rw[kx ar]at ac;obtain⟨u,hu,ah⟩:=O5 j y ac;refine⟨u,?_,ah⟩;rw[G4 (by simp[<-oi];exact ar)];simpa using hu
   ·rw[l_ (by omega)]at ac;obtain⟨u,hu,ah⟩:=hA _ y ac;refine⟨u,?_,ah⟩;rw[Ko (by simp[<-oi];omega)];simpa[oi]using hu
  have cB:((args.toList.map a.eval).toArray++us).size=(xs++caps).length:=by simp[oi,k3]
  have fin:tv P g->(Calls P g ((args.toList.map a.eval).toArray++us) w fun e w'=>∃v s',e=.returned v/\K s'/\Rel S0 w0 n s' (a.put (some d) v) w')->o.wp P a w bT Q:=by
   rintro⟨fn,ix,fJ,r7⟩ pb;have cP:(execOp a.eval o).run P w=.ok (.enter g (args.map a.eval++us)) w:=by simp only[execOp,c4,resolve,mP,Deferred.ofValue,Sem.run_bind,Sem.run_pure,Result.andThen_ok,invoke,callFunc,run_program,ix,fJ,r7,pP,hy];simp
   unfold Oper.wp;rw[cP];simp only[Oper.upon];rw[hm,eS];refine pb.mono ?_;rintro e w' ⟨v,s',rfl,ak,bQ⟩;exact ct _ _ _ bQ ak
  generalize ((args.toList.map a.eval).toArray++us)=vs at gO cB fin;generalize xs++caps=aV at gO cB Kx hi pe;cases O6:p' s aV with
  |none=>
   rw[O6]at pe;obtain⟨r,outs,en,aA,ak⟩:=pe;have c0:DU S0 w0 s a w aV vs (hN aV aV) vs:=⟨gO,by
    have aa:∀(L l:List (ae×Option Nat)),(hN L l).length=l.length:=fun L l=>by induction l<;>simp_all [hN]
    exact aa _ _,by omega,fun j y aU=>.inl ⟨by rw[Be,aU];rfl,rfl⟩⟩
   refine fin en.1 ((VB af c0 hi Kx en ⟨rfl,fun j o y aa ab=>.inl ⟨aa,by rw[Be,ab];rfl,rfl⟩⟩ ⟨eX,aA⟩).mono ?_);rintro e w' ⟨v,rfl,bQ⟩;exact⟨v,_,rfl,ak,bQ⟩
  |some q=>
   obtain⟨i,cs⟩:=q;have gY:=VD O6;rw[O6]at pe;obtain⟨cu,zfb,r,outs,co,en,aA,ak⟩:=pe;have b8:=af.rep i;rw[gY]at b8;obtain⟨b,b3,t,iw,bo,al,bk⟩:=b8;have O7:=en b;have aa:∀(L l:List (ae×Option Nat)),(hN L l).length=l.length:=fun L l=>by induction l<;>simp_all [hN]
   have O8:∀(j:Nat) (y:ae×Option Nat),(aV++[(ae.box cs,some i)])[j]?=some y->∃u,(vs.push (aL a i))[j]?=some u/\qX S0 w0 s a w y u:=by
    intro j y ac;by_cases ar:j<aV.length
    ·rw[kx ar]at ac;obtain⟨u,hu,ah⟩:=gO j y ac;exact⟨u,by rw[Array.getElem?_push_lt (by omega)];rw[vT (by omega)]at hu;exact hu,ah⟩
    ·rw[l_ (by omega)]at ac;have AZ:j-aV.length=0:=by
      have:=(eQ.1 ac).1;simp at this;omega
     rw[AZ]at ac;simp only[GD,b9]at ac;subst ac;refine⟨aL a i,?_,gY,rfl,rfl,rfl⟩;rw[show j=vs.size by omega];simp
   have kg:∀(j:Nat) (y:ae×Option Nat),(aV++[(ae.box cs,some i)])[j]?=some y->(j<aV.length/\aV[j]?=some y)\/(j=aV.length/\y=(.box cs,some i)):=by
    intro j y ac;by_cases ar:j<aV.length
    ·rw[kx ar]at ac;exact .inl ⟨ar,ac⟩
    ·rw[l_ (by omega)]at ac;have AZ:j-aV.length=0:=by
      have:=(eQ.1 ac).1;simp at this;omega
     rw[AZ]at ac;simp only[GD,b9]at ac;exact .inr ⟨by omega,ac.symm⟩
   have VE:∀(j:Nat) (y:ae×Option Nat),j<aV.length->aV[j]?=some y->(hN (aV++[(ae.box cs,some i)]) aV++[ae.cR b cs])[j]?=some (k8 (aV++[(ae.box cs,some i)]) y.1)/\cw vs j=cw (vs.push (aL a i)) j:=by intro j y ar aU;refine⟨by rw[kx (by rw[aa];exact ar),Be,aU];rfl,?_⟩;unfold cw;rw[Array.getElem?_push_lt (by omega),vT (by omega)]
   have Ky:(hN (aV++[(ae.box cs,some i)]) aV++[ae.cR b cs])[aV.length]?=some (.cR b cs)/\cw (vs.push (aL a i)) aV.length=.pointer (some ⟨b,0,none⟩):=by refine⟨by rw[l_ (by rw[aa];omega),aa];simp,?_⟩;unfold cw;rw[show aV.length=vs.size by omega];simp[iw]
   have c0:DU S0 w0 s a w (aV++[(.box cs,some i)]) (vs.push (aL a i)) (hN (aV++[(.box cs,some i)]) aV++[.cR b cs]) vs:=by
    refine⟨O8,by simp[aa],by simp;omega,fun j y aU=>?_⟩;rcases kg j y aU with⟨aE,aQ⟩|⟨rfl,rfl⟩
    ·exact .inl (VE j y aE aQ)
    ·exact .inr (.inl ⟨cs,b,rfl,Ky.1,Ky.2⟩)
   have qQ:outs.length=aV.length:=by have:=(p8 O7.2.1).1;simp[aa]at this;omega
   have cY:VA (aV++[(.box cs,some i)]) (vs.push (aL a i)) (hN (aV++[(.box cs,some i)]) aV++[.cR b cs]) vs (outs++[.box co]) (outs++[.cR b co]):=by
    refine⟨by simp,fun j o y aB aU=>?_⟩;rcases kg j y aU with⟨aE,aQ⟩|⟨rfl,rfl⟩
    ·rw[kx (by omega)]at aB;exact .inl ⟨by rw[kx (by omega)];exact aB,VE j y aE aQ⟩
    ·rw[l_ (by omega)]at aB;simp only[qQ,Nat.sub_self,GD,b9]at aB;exact .inr ⟨cs,b,co,rfl,Ky.1,Ky.2,aB.symm,by rw[l_ (by omega)];simp[qQ]⟩
   have zfc:zp (aV++[(ae.box cs,some i)])=true:=by unfold zp at Kx⊢;rw[uN,Kx];simp[cu]
   refine fin O7.1 ((VB af c0 zfb zfc O7 cY ⟨eX,aA⟩).mono ?_);rintro e w' ⟨v,rfl,bQ⟩;exact⟨v,_,rfl,ak,bQ⟩
 ·exact ap.elim
end
end
section
variable [bn]
section
variable {P:aM}{S0:Env}{w0 w:bb}{n:Nat}{s:aj}{a:Act}
def zt{α:Type}(cs vs:List α)(o j:Nat)(h:o+vs.length<=cs.length) :
  (cZ cs o vs)[j]?=if j<o then cs[j]? else if j<o+vs.length then vs[j-o]? else cs[j]?:=by
 simp only[cZ,pG];rw[ze];simp only[e'];by_cases aa:j<o
 ·rw[av (by omega),av aa,l0,av aa]
 ·rw[an (by omega),an aa,ze];by_cases ab:j<o+vs.length
  ·rw[av (by omega),av ab];congr 1;omega
  ·rw[an (by omega),an ab,js];congr 1;omega
def zfd{α:Type}(f c:List α)(o size off:Nat)(h:o+size<=f.length)(ap:off+c.length<=size) :
  cZ f o (cZ ((f.drop o).take size) off c)=cZ f (o+off) c:=by
 have al:((f.drop o).take size).length=size:=by rw[e',eP];omega
 apply y_;intro j;have gQ:(cZ ((f.drop o).take size) off c).length=size:=by rw[xt _ _ _ (by omega),al]
 rw[zt f _ o j (by omega),zt ((f.drop o).take size) c off (j-o) (by omega),zt f c (o+off) j (by omega),gQ];have c0:((f.drop o).take size)[j-o]?=if j-o<size then f[o+(j-o)]? else none:=by rw[l0];split<;>simp
 rw[c0]
 repeat' split
 all_goals first|rfl|(exfalso;omega)|(congr 1;omega)
def VF{α:Type}(f c:List α)(o m:Nat)(h:o+c.length<=m)(hm:m<=f.length):(cZ f o c).take m=cZ (f.take m) o c:=by
 apply y_;intro j;have al:(f.take m).length=m:=by rw[e'];omega
 rw[l0,zt _ _ _ _ (by omega),zt _ _ _ _ (by omega)];by_cases aa:j<m
 ·rw[av aa];simp only[l0,av aa]
 ·rw[an aa,an (by omega),an (by omega),l0,an aa]
def cf.cells:cf->Option Nat
 |.one=>some 1
 |.agg n=>some n
 |.bad=>none
def lI(P:aM)(s:aj)(t:aP)(cN x:Prop×ae):Prop×aj:=
 match cN,x,(tk P t).cells with
 |(p,.ptr i off),(q,.x bP),some m=>match s i with
  |.box cs=>(p/\q/\bP.cells.length=m/\off+m<=cs.length,match lB cs off m with
   |false=>fun j=>if j=i then .box (cZ cs off bP.cells)else s j
   |true=>fun j=>if j=i then .box (cZ cs off bP.cells)else dc s i off m j)
  |.cR b cs=>(p/\q/\bP.cells.length=m/\off+m<=cs.length,match lB cs off m with
   |false=>fun j=>if j=i then .cR b (cZ cs off bP.cells)else s j
   |true=>fun j=>if j=i then .cR b (cZ cs off bP.cells)else dc s i off m j)
  |_=>(False,s)
 |(p,.fy i k off),(q,.x bP),some m=>match s i with
  |.own e size xs=>(p/\q/\bP.cells.length=m/\k<xs.length/\off+m<=size,fun j=>if j=i then .own e size (xs.set k (cZ (xs.getD k []) off bP.cells))else s j)
  |_=>(False,s)
 |_,_,_=>(False,s)
def Hb{t:aP}{m:Nat}(h:(tk P t).cells=some m)(hs:∀i,P.info? t=some i->tk P t=.one->i.size=1):(sizeOf t).run P w=.ok m w:=by
 cases ak:tk P t with
 |bad=>rw[ak]at h;cases h
 |agg k=>
  rw[ak]at h;injection h with h
  subst h;obtain⟨i,ah,cB,_⟩:=Oi (w:=w) ak;rw[run_sizeOf ah,cB]
 |one=>
  rw[ak]at h;injection h with h
  subst h;have:∃ty,P.underlying t=some ty:=by
   unfold tk at ak;split at ak<;>first|cases ak|skip
   rename_i ty hu _ _ _ _;exact⟨ty,hu⟩
  obtain⟨ty,hu⟩:=this;obtain⟨i,ah⟩:=info_of_underlying hu;rw[run_sizeOf ah,hs i ah ak]
def iU(P:aM)(t:aP):Bool:=
 match P.info? t,tk P t with
 |some i,.one=>i.size==1
 |_,_=>true
def Hc{t:aP}(h:iU P t=true):∀i,P.info? t=some i->tk P t=.one->i.size=1:=by intro i ah ak;unfold iU at h;rw[ah,ak]at h;simpa using h
def Hd(t:aP)(g o:Nat)(ty:aP)(bN:Array aI)(v:aI){m:Nat}(cB:(sizeOf t).run P w=.ok m w)(hm:v.cells.size=m)
  {dF:Nat×Nat}(ay:w.heap[g]?=some (.cells bN ty dF))(kb:Gj dF bN.size)(al:o+m<=bN.size)(aa:∀u∈v.cells.toList,u.oneCell'=true) :
  (Instr.storeAt t (.pointer (some ⟨g,o,none⟩)) v).run P w=.ok () (w.setRow g (cZ bN.toList o v.cells.toList).toArray):=by
 have cu:=De P g o ty dF v.cells.toList 0 bN w ay kb (by simp;omega) aa;simp only[xg]at cu;simp only[Instr.storeAt,Instr.sureAddr,storeVar,Sem.run_bind,Sem.run_pure,Result.andThen_ok,cB,hm,ne_eq,JY,hy,cu,cZ]
def DW(g:Nat)(cs:Array aI):w.grownBy (w.setRow g cs) (some g)/\(w.setRow g cs).heap.size=w.heap.size:=by refine⟨⟨rfl,rfl,rfl,by simp[World.setRow],fun k _ ak=>setRow_other w g k cs (fun e=>ak (by rw[e]))⟩,by simp[World.setRow]⟩
def O9(af:Rel S0 w0 n s a w){t:aP}{x y:Prop×ae}{u v:aI}(ai:eu S0 w0 s a w x u)(aU:eu S0 w0 s a w y v)(bv:iU P t=true)(am:(lI P s t x y).1) :
  ∃w',(Instr.storeAt t u v).run P w=.ok () w'/\Rel S0 w0 n (lI P s t x y).2 a w':=by
 obtain⟨p,x⟩:=x;obtain⟨q,y⟩:=y;unfold lI at am⊢;split at am
 ·rename_i kz i off eI bP m ax aK cd;injection ax with ax wo;subst ax;subst wo
  injection aK with aK xE;subst aK;subst xE
  split at am
  ·rename_i cs hs;obtain⟨aa,ab,au,aN⟩:=am;have cB:=Hb (P:=P) (w:=w) cd (Hc bv);obtain⟨b,rfl,ad⟩:=ai aa;have b8:=cz.cells (aU ab);have ah:=af.rep i;rw[hs]at ah ad;obtain⟨br,b3,ty,aF,bo,mJ,bk⟩:=ah;rw[aF]at ad;obtain rfl:br=b:=by simpa[bl]using ad
   have al:=mJ;have gO:v.cells.size=m:=by have:=b8.1;rw[au]at this;simpa using this
   have p4:b3.size=cs.length:=by have:=al.1;simpa using this
   refine⟨_,Hd t br off ty b3 v cB gO bo (.inl rfl) (by omega) b8.zd,?_⟩;obtain⟨ay,pf⟩:=DW (w:=w) br (cZ b3.toList off v.cells.toList).toArray;have key:∀s1:aj,Rel S0 w0 n s1 a w->s1 i=.box cs->(∀c,bO S0 w0.heap.size w s1 (aL a) c↔bO S0 w0.heap.size w s (aL a) c)->(∀j o d,(s1 j).o1 i o d->o<off\/off+m<=o) ->
     Rel S0 w0 n (fun j=>if j=i then .box (cZ cs off bP.cells)else s1 j) a (w.setRow br (cZ b3.toList off v.cells.toList).toArray):=by
    intro s1 r' jC hf f';refine r'.write (r:=.box (cZ cs off bP.cells)) (b:=br) (by rw[jC,aF];rfl) ay pf (by rw[aF];rfl) rfl (by rw[jC];rfl) (by rw[jC];rfl) (by rw[jC];rfl) (fun s'=>?_) (fun j o d md al gD=>?_)
    ·have kD:∀c,bO S0 w0.heap.size w s1 (aL a) c->(w.setRow br (cZ b3.toList off v.cells.toList).toArray).heap[c]?=w.heap[c]?:=by
      intro c ap;refine ay.block c ap.2.1 (fun e=>?_);injection e with e
      subst e;exact ap.2.2 i (by rw[jC,aF];rfl)
     refine⟨br,_,ty,aF,setRow_heap w br b3 _ ty _ bo,?_,bk⟩;exact(mJ.cZ b8 off).mono (fun b ad=>(hf b).2 ad) (fun b ad=>kD b ((hf b).2 ad))
    ·rw[jC]at gD;obtain rfl:cs=md:=by simpa[ae.gk]using gD
     have aB:=f' j o d al;have bY:∀{α:Type} (l c:List α),off+c.length<=l.length->c.length=m->(cZ l off c)[o]?=l[o]?:=by
      intro α l c aa ab;rw[zt _ _ _ _ aa];rcases aB with aB|aB
      ·rw[av aB]
      ·rw[an (by omega),an (by omega)]
     refine⟨⟨_,rfl,bY _ _ (by rw[au];exact aN) au⟩,?_⟩;rw[cell_of_row w br o b3 ty (0,0) bo,cell_of_row _ br o _ ty (0,0) (setRow_heap w br b3 _ ty _ bo)];have:=bY b3.toList v.cells.toList (by simp[p4,gO];omega) (by simp[gO]);simpa using this
   cases oj:lB cs off m with
   |false=>
    refine key s af hs (fun _=>jB) (fun j o d al=>?_);obtain⟨_,md,eV,aE,aQ,_⟩:=(af.rep j).Gm al;rw[hs]at aE;obtain rfl:cs=md:=by simpa[ae.gk]using aE
    exact Us oj aQ
   |true=>
    have gY:dc s i off m i=.box cs:=by rw[ku (by rw[hs];rfl),hs]
    have bB:∀j,(s j).aR=true->dc s i off m j=s j:=fun j=>ku;refine key _ (af.forget (fun j=>ib s i off m j) (fun j k cb=>?_)) gY (fun c=>?_) (fun j o d al=>?_)
    ·have e:(s j).refs k=true:=by
      rcases ib s i off m j with e|e<;>rw[e]at cb
      ·exact cb
      ·cases cb
     exact bB k (af.wf j k e)
    ·constructor
     ·rintro⟨aE,aQ,bf⟩;refine⟨aE,aQ,fun j ac=>bf j ?_⟩;have aB:(s j).aR=true:=by
       cases h:(s j).aR with
       |true=>rfl
       |false=>rw[ks h]at ac;cases ac
      rw[bB j aB];exact ac
     ·rintro⟨aE,aQ,bf⟩;refine⟨aE,aQ,fun j ac=>bf j ?_⟩;rcases ib s i off m j with e|e<;>rw[e]at ac
      ·exact ac
      ·cases ac
    ·rcases mH o off with h|h
     ·exact .inl h
     ·rcases mH o (off+m)with bx|bx
      ·exfalso;have ab:dc s i off m j=.dead:=by
        unfold dc;have:(s j).ns i off m=true:=by
         rcases ib s i off m j with e|e
         ·rw[e]at al;exact ae.Dm al h bx
         ·rw[e]at al;exact al.elim
        rw[this]
       rw[ab]at al;exact al.elim
      ·exact .inr bx
  ·rename_i b cs hs;obtain⟨aa,ab,au,aN⟩:=am;have cB:=Hb (P:=P) (w:=w) cd (Hc bv);obtain⟨br,rfl,ad⟩:=ai aa;have b8:=cz.cells (aU ab);have ah:=af.rep i;rw[hs]at ah ad;obtain⟨b3,ty,bo,al,bk⟩:=ah;obtain rfl:b=br:=by simpa[bl]using ad
   have gO:v.cells.size=m:=by have:=b8.1;rw[au]at this;simpa using this
   have p4:b3.size=cs.length:=by have:=al.1;simpa using this
   refine⟨_,Hd t b off ty b3 v cB gO bo (.inl rfl) (by omega) b8.zd,?_⟩;obtain⟨ay,pf⟩:=DW (w:=w) b (cZ b3.toList off v.cells.toList).toArray;have key:∀s1:aj,Rel S0 w0 n s1 a w->s1 i=.cR b cs->(∀c,bO S0 w0.heap.size w s1 (aL a) c↔bO S0 w0.heap.size w s (aL a) c)->(∀j o d,(s1 j).o1 i o d->o<off\/off+m<=o) ->
     Rel S0 w0 n (fun j=>if j=i then .cR b (cZ cs off bP.cells)else s1 j) a (w.setRow b (cZ b3.toList off v.cells.toList).toArray):=by
    intro s1 r' jC hf f';refine r'.write (r:=.cR b (cZ cs off bP.cells)) (b:=b) (by rw[jC];rfl) ay pf rfl rfl (by rw[jC];rfl) (by rw[jC];rfl) (by rw[jC];rfl) (fun s'=>?_) (fun j o d md al gD=>?_)
    ·have kD:∀c,bO S0 w0.heap.size w s1 (aL a) c->(w.setRow b (cZ b3.toList off v.cells.toList).toArray).heap[c]?=w.heap[c]?:=by
      intro c ap;refine ay.block c ap.2.1 (fun e=>?_);injection e with e
      subst e;exact ap.2.2 i (by rw[jC];rfl)
     refine⟨_,ty,setRow_heap w b b3 _ ty _ bo,?_,bk⟩;exact(al.cZ b8 off).mono (fun b ad=>(hf b).2 ad) (fun b ad=>kD b ((hf b).2 ad))
    ·rw[jC]at gD;obtain rfl:cs=md:=by simpa[ae.gk]using gD
     have aB:=f' j o d al;have bY:∀{α:Type} (l c:List α),off+c.length<=l.length->c.length=m->(cZ l off c)[o]?=l[o]?:=by
      intro α l c aa ab;rw[zt _ _ _ _ aa];rcases aB with aB|aB
      ·rw[av aB]
      ·rw[an (by omega),an (by omega)]
     refine⟨⟨_,rfl,bY _ _ (by rw[au];exact aN) au⟩,?_⟩;rw[cell_of_row w b o b3 ty (0,0) bo,cell_of_row _ b o _ ty (0,0) (setRow_heap w b b3 _ ty _ bo)];have:=bY b3.toList v.cells.toList (by simp[p4,gO];omega) (by simp[gO]);simpa using this
   cases oj:lB cs off m with
   |false=>
    refine key s af hs (fun _=>jB) (fun j o d al=>?_);obtain⟨_,md,eV,aE,aQ,_⟩:=(af.rep j).Gm al;rw[hs]at aE;obtain rfl:cs=md:=by simpa[ae.gk]using aE
    exact Us oj aQ
   |true=>
    have gY:dc s i off m i=.cR b cs:=by rw[ku (by rw[hs];rfl),hs]
    have bB:∀j,(s j).aR=true->dc s i off m j=s j:=fun j=>ku;refine key _ (af.forget (fun j=>ib s i off m j) (fun j k cb=>?_)) gY (fun c=>?_) (fun j o d al=>?_)
    ·have e:(s j).refs k=true:=by
      rcases ib s i off m j with e|e<;>rw[e]at cb
      ·exact cb
      ·cases cb
     exact bB k (af.wf j k e)
    ·constructor
     ·rintro⟨aE,aQ,bf⟩;refine⟨aE,aQ,fun j ac=>bf j ?_⟩;have aB:(s j).aR=true:=by
       cases h:(s j).aR with
       |true=>rfl
       |false=>rw[ks h]at ac;cases ac
      rw[bB j aB];exact ac
     ·rintro⟨aE,aQ,bf⟩;refine⟨aE,aQ,fun j ac=>bf j ?_⟩;rcases ib s i off m j with e|e<;>rw[e]at ac
      ·exact ac
      ·cases ac
    ·rcases mH o off with h|h
     ·exact .inl h
     ·rcases mH o (off+m)with bx|bx
      ·exfalso;have ab:dc s i off m j=.dead:=by
        unfold dc;have:(s j).ns i off m=true:=by
         rcases ib s i off m j with e|e
         ·rw[e]at al;exact ae.Dm al h bx
         ·rw[e]at al;exact al.elim
        rw[this]
       rw[ab]at al;exact al.elim
      ·exact .inr bx
  ·exact am.elim
 ·rename_i kz i k off eI bP m ax aK cd;injection ax with ax wo;subst ax;subst wo
  injection aK with aK xE;subst aK;subst xE
  split at am
  ·rename_i e size xs hs;obtain⟨aa,ab,au,aN,bE⟩:=am;have cB:=Hb (P:=P) (w:=w) cd (Hc bv);obtain⟨b,rfl,ad⟩:=ai aa;have b8:=cz.cells (aU ab);have ah:=af.rep i;rw[hs]at ah ad;obtain⟨us,bB,al,ge,hm,cY⟩:=ah;have gO:v.cells.size=m:=by have:=b8.1;rw[au]at this;simpa using this
   rcases bB.2 with⟨pX,_⟩|⟨g,cap,bN,aF,oZ,⟨dF,bo,kb⟩,rP,ht,eD,gy⟩
   ·rw[pX]at ad;simp[bl,Value.ownBlock]at ad
   ·have ew:bl (ae.own e size xs) (aL a i)=some g:=by rw[aF];rfl
    rw[ew]at ad;injection ad with ad
    subst ad;have gY:(s i).size=size:=by rw[hs];rfl
    have kG:(xs.getD k []).length=size:=zdF ge aN;have d9:k*size+size<=xs.length*size:=by have:(k+1)*size<=xs.length*size:=yX _ aN;rw[l3]at this;omega
    have hA:xs.length*size<=cap*size:=yX _ rP;refine⟨_,Hd t g _ e bN v cB gO bo kb (by rw[gY];omega) b8.zd,?_⟩;obtain⟨ay,pf⟩:=DW (w:=w) g (cZ bN.toList (k*(s i).size+off) v.cells.toList).toArray;refine af.write (r:=.own e size (xs.set k (cZ (xs.getD k []) off bP.cells))) (b:=g) (by rw[hs];exact ew) ay pf (by rw[aF];rfl) rfl (by rw[hs];rfl) (by rw[hs];simp[ae.len]) (by rw[hs];rfl) (fun s'=>?_) (fun j o d md ke gD=>by rw[hs]at gD;cases gD);have kD:∀c,bO S0 w0.heap.size w s (aL a) c->(w.setRow g (cZ bN.toList (k*(s i).size+off) v.cells.toList).toArray).heap[c]?=w.heap[c]?:=by
     intro c ap;refine ay.block c ap.2.1 (fun e=>?_);injection e with e
     subst e;exact ap.2.2 i (by rw[hs];exact ew)
    have O_:∀x∈xs.set k (cZ (xs.getD k []) off bP.cells),x.length=size:=by
     intro x ai;rcases OQ ai with ai|ai
     ·exact ge x ai
     ·rw[ai,xt _ _ _ (by rw[kG,au];exact bE),kG]
    have G9:(xs.set k (cZ (xs.getD k []) off bP.cells)).flatten=cZ xs.flatten (k*size+off) bP.cells:=by
     rw[Vh ge aN (by rw[xt _ _ _ (by rw[kG,au];exact bE),kG])];have fH:=y8 ge;have Oa:(xs.flatten.drop (k*size)).take size=xs.getD k []:=by
      apply y_;intro j;by_cases ac:j<size
      ·rw[l0,av ac,js];exact N8 ge (c:=(xs.getD k [])[j]'(by omega)) (cr (by omega)) |>.trans (cr (by omega)).symm
      ·rw[pW (by simp;omega),pW (by omega)]
     rw[<-Oa];exact zfd _ _ _ _ _ (by omega) (by omega)
    refine⟨cZ us (k*size+off) v.cells.toList,⟨?_,.inr ⟨g,cap,_,by rw[List.length_set];exact aF,oZ,⟨dF,setRow_heap w g bN _ e _ bo,by rw[n3,xt _ _ _ (by simp[gO];rw[gY];omega),l4];exact kb⟩,by simpa using rP,ht,?_,?_⟩⟩,?_,O_,by simpa using hm,cY⟩
    ·have k3:us.length=xs.length*size:=by have:=bB.1;exact this
     rw[xt _ _ _ (by simp[gO,k3];omega)];simpa using bB.1
    ·simp only[n3];rw[xt _ _ _ (by simp[gO];rw[gY];omega)];simpa using eD
    ·rw[gY];simp only[List.length_set];rw[<-gy];exact VF _ _ _ _ (by simp[gO];omega) (by simp[eD];omega)
    ·rw[G9];exact(al.cZ b8 _).mono (fun _ h=>h) kD
  ·exact am.elim
 ·exact am.elim
def lJ(s:aj)(cN x:Prop×ae):Option (Prop×Nat×Nat×Nat):=
 match x with
 |(q,.alias d)=>match cN with
  |(p,.ptr i off)=>match s cU with
   |.res l=>match l.contains (i,off)with
    |true=>some (p/\q,i,off,d)
    |false=>none
   |_=>none
  |_=>none
 |_=>none
def ae.tight:ae->Bool
 |.box _=>true
 |.own _ _ _=>true
 |.mp _ _ _=>true
 |_=>false
def ae.Bi{a:ae}(h:a.tight=true):a.aR=true:=by cases a<;>first|rfl|cases h
def gn(P:aM)(s:aj)(t:aP)(i off d:Nat):Prop×aj:=
 match tk P t,s i with
 |.one,.box cs=>(off<cs.length/\(s d).tight=true/\(s (ch i off)).free=true,fun j=>if j=i then .box (cs.set off .any)else if j=ch i off then .link i off d else dc s i off 1 j)
 |.one,.cR b cs=>(off<cs.length/\(s d).tight=true/\(s (ch i off)).free=true,fun j=>if j=i then .cR b (cs.set off .any)else if j=ch i off then .link i off d else dc s i off 1 j)
 |_,_=>(False,s)
def He{s:aj}{cN x:Prop×ae}{p:Prop}{i off d:Nat}(h:lJ s cN x=some (p,i,off,d)):∃dr q,cN=(dr,.ptr i off)/\x=(q,.alias d)/\p=(dr/\q):=by
 unfold lJ at h;split at h
 ·split at h
  ·split at h
   ·split at h
    ·simp only[b9,cA]at h;obtain⟨rfl,rfl,rfl,rfl⟩:=h;exact⟨_,_,rfl,rfl,rfl⟩
    ·cases h
   ·cases h
  ·cases h
 ·cases h
def Rel.Hf{k i off d b:Nat}{cs:List ag}(af:Rel S0 w0 n s a w)(ak:(s k).free=true)(aA:(s d).aR=true)(hs:(s i).gk=some cs)(ap:cs[off]?=some .any)(ad:bl (s i) (aL a i)=some b)(aF:w.cell? ⟨b,off,none⟩=some ((s d).valOf (aL a d))) :
  Rel S0 w0 n (fun j=>if j=k then .link i off d else s j) a w:=by
 have fV:∀j,(s j).aR=true->j≠k:=by rintro j h rfl;rw[yY ak]at h;cases h
 have cv:∀j c,bl (if j=k then ae.link i off d else s j) (aL a j)=some c->j≠k/\bl (s j) (aL a j)=some c:=by
  intro j c ac;by_cases cb:j=k
  ·rw[av cb]at ac;cases ac
  ·rw[an cb]at ac;exact⟨cb,ac⟩
 have dg:∀c,bO S0 w0.heap.size w s (aL a) c->bO S0 w0.heap.size w (fun j=>if j=k then .link i off d else s j) (aL a) c:=fun c ap=>⟨ap.1,ap.2.1,fun j ac=>ap.2.2 j (cv j c ac).2⟩
 have xF:=fV i (ae.o0 hs);refine⟨af.defers,af.size,af.below,af.lt,fun j=>?_,fun j m c ac hm=>af.inj j m c (cv j c ac).2 (cv m c hm).2,fun j ac=>?_,fun j m gP=>?_,af.n6⟩
 ·by_cases cb:j=k
  ·subst cb;simp only[av];refine⟨?_,cs,b,?_,ap,?_,by simp only[an (fV d aA)];exact aF⟩
   ·simp only[an (fV d aA)];exact aA
   ·simp only[an xF];exact hs
   ·simp only[an xF];exact ad
  ·simp only[an cb];refine(af.rep j).mono dg (fun _ _=>rfl) (fun _ _=>rfl) (fun m hm=>?_) (fun bL Dh bG cs' br al cT _=>⟨⟨cs',by simp only[an (fV bL (ae.o0 cT))];exact cT,rfl⟩,rfl⟩);have Kz:=fV m ((af.rep j).leads hm);simp only[an Kz];exact⟨trivial,fun h=>⟨h,trivial,trivial,trivial⟩,fun c ap=>ap⟩
 ·by_cases cb:j=k
  ·simp only[av cb];rfl
  ·simp only[an cb];exact af.out j ac
 ·by_cases cb:j=k
  ·simp only[av cb]at gP;simp only[ae.refs,gl,fc]at gP;rcases gP with rfl|rfl
   ·simp only[an xF];exact ae.o0 hs
   ·simp only[an (fV _ aA)];exact aA
  ·simp only[an cb]at gP;have:=af.wf j m gP;simp only[an (fV m this)];exact this
def KA{α:Type}(l:List α)(o:Nat)(x:α)(h:o<l.length):l.set o x=cZ l o [x]:=by
 apply y_;intro j;rw[zt _ _ _ _ (by simp;omega),y7];simp only[qN];by_cases aa:o=j
 ·subst aa;simp[h]
 ·rw[an aa];by_cases ab:j<o
  ·rw[av ab]
  ·rw[an ab,an (by omega)]
def zfe(af:Rel S0 w0 n s a w){t:aP}{p q:Prop}{i off d:Nat}{u v:aI}(ai:eu S0 w0 s a w (p,.ptr i off) u)(aU:eu S0 w0 s a w (q,.alias d) v)(bv:iU P t=true)(zu:p/\q)(am:(gn P s t i off d).1) :
  ∃w',(Instr.storeAt t u v).run P w=.ok () w'/\Rel S0 w0 n (gn P s t i off d).2 a w':=by
 unfold gn at am⊢;split at am
 ·rename_i cs ak hs;obtain⟨ar,uO,lK⟩:=am;have Bj:=ae.Bi uO;have gV:∀u,(s d).valOf u=u:=fun u=>by cases jx:s d<;>rw[jx]at uO<;>first|rfl|cases uO
  obtain⟨aF,_⟩:=aU zu.2;rw[gV]at aF;have n':v.oneCell'=true:=by
   have h:=af.rep d;rw[aF];cases jx:s d<;>rw[jx]at h uO<;>first|(cases uO;done)|skip
   ·obtain⟨b,b3,ty,e,_⟩:=h;rw[e];rfl
   ·obtain⟨us,bB,_⟩:=h;rcases bB.2 with⟨e,_⟩|⟨g,cap,bN,e,_⟩<;>rw[e]<;>rfl
   ·obtain⟨b,ents,e,_⟩:=h;rw[e];rfl
  obtain⟨w',aa,ab⟩:=O9 (P:=P) af (t:=t) (x:=(p,.ptr i off)) (y:=(True,.x (.one .any))) (u:=u) (v:=v) ai (fun _=>bD.any v n') bv (by unfold lI;simp only[ak,cf.cells,hs];exact⟨zu.1,trivial,rfl,by omega⟩)
  refine⟨w',aa,?_⟩;obtain⟨b,A6,l9⟩:=ai zu.1;have ob:=af.rep i;rw[hs]at ob l9;obtain⟨br,b3,ty,DX,bo,al,bk⟩:=ob;rw[DX]at l9;obtain rfl:br=b:=by simpa[bl]using l9
  have p4:b3.size=cs.length:=by have:=al.1;simpa using this
  have xG:v.cells=#[v]:=by cases v<;>first|rfl|(simp[Value.oneCell']at n')
  have hw:w'=w.setRow br (cZ b3.toList off [v]).toArray:=by
   have cB:=Hb (P:=P) (w:=w) (t:=t) (m:=1) (by rw[ak];rfl) (Hc bv);have:=Hd (P:=P) t br off ty b3 v cB (by rw[xG];rfl) bo (.inl rfl) (by omega) (by rw[xG];simpa using n');rw[A6,this]at aa;injection aa with _ aa
   rw[<-aa,xG]
  have ip:w'.cell? ⟨br,off,none⟩=some v:=by rw[hw,cell_of_row _ br off _ ty (0,0) (setRow_heap w br b3 _ ty _ bo)];rw[<-KA _ _ _ (by simpa[p4]using ar)];simp[p4,ar]
  have qb:cZ cs off [ag.any]=cs.set off .any:=(KA cs off .any ar).symm;have sa:∀j,(s j).aR=true->dc s i off 1 j=s j:=fun j=>ku;have q0:d≠i\/d=i:=by omega
  have au:Rel S0 w0 n (fun j=>if j=i then .box (cs.set off .any)else dc s i off 1 j) a w':=by
   unfold lI at ab;simp only[ak,cf.cells,hs,aG.cells,qb]at ab;cases oj:lB cs off 1 with
   |true=>rw[oj]at ab;exact ab
   |false=>
    rw[oj]at ab;refine ab.forget (fun j=>?_) (fun j m gP=>?_)
    ·by_cases ac:j=i
     ·simp only[av ac];exact .inl trivial
     ·simp only[an ac];exact ib s i off 1 j
    ·by_cases hm:m=i
     ·simp only[av hm]
     ·simp only[an hm];refine sa m ?_;by_cases ac:j=i
      ·simp only[av ac]at gP;cases gP
      ·simp only[an ac]at gP;rcases ib s i off 1 j with e|e<;>rw[e]at gP
       ·exact af.wf j m gP
       ·cases gP
  have Hg:ch i off≠i:=by intro e;rw[e,hs]at lK;cases lK
  have aN:=au.Hf (k:=ch i off) (i:=i) (off:=off) (d:=d) (b:=br) (cs:=cs.set off .any) (by
    simp only[an Hg];rcases ib s i off 1 (ch i off)with e|e<;>rw[e]
    ·exact lK
    ·rfl) (by
    by_cases aA:d=i
    ·simp only[av aA];rfl
    ·simp only[an aA];rw[sa d Bj];exact Bj) (by simp[ae.gk]) (by simp[ar]) (by simp only[av];rw[DX];rfl) (by
    rw[ip,aF];by_cases aA:d=i
    ·subst aA;simp only[av];rfl
    ·simp only[an aA];rw[sa d Bj,gV])
  have e:(fun j=>if j=ch i off then ae.link i off d else if j=i then ae.box (cs.set off .any)else dc s i off 1 j)=(fun j=>if j=i then .box (cs.set off .any)else if j=ch i off then .link i off d else dc s i off 1 j):=by
   funext j;by_cases ac:j=i
   ·subst ac;simp[Hg.symm]
   ·simp[ac]
  rw[e]at aN;exact aN
 ·rename_i br cs ak hs;obtain⟨ar,uO,lK⟩:=am;have Bj:=ae.Bi uO;have gV:∀u,(s d).valOf u=u:=fun u=>by cases jx:s d<;>rw[jx]at uO<;>first|rfl|cases uO
  obtain⟨aF,_⟩:=aU zu.2;rw[gV]at aF;have n':v.oneCell'=true:=by
   have h:=af.rep d;rw[aF];cases jx:s d<;>rw[jx]at h uO<;>first|(cases uO;done)|skip
   ·obtain⟨b,b3,ty,e,_⟩:=h;rw[e];rfl
   ·obtain⟨us,bB,_⟩:=h;rcases bB.2 with⟨e,_⟩|⟨g,cap,bN,e,_⟩<;>rw[e]<;>rfl
   ·obtain⟨b,ents,e,_⟩:=h;rw[e];rfl
  obtain⟨w',aa,ab⟩:=O9 (P:=P) af (t:=t) (x:=(p,.ptr i off)) (y:=(True,.x (.one .any))) (u:=u) (v:=v) ai (fun _=>bD.any v n') bv (by unfold lI;simp only[ak,cf.cells,hs];exact⟨zu.1,trivial,rfl,by omega⟩)
  refine⟨w',aa,?_⟩;obtain⟨b,A6,l9⟩:=ai zu.1;have ob:=af.rep i;rw[hs]at ob l9;obtain⟨b3,ty,bo,al,bk⟩:=ob;obtain rfl:br=b:=by simpa[bl]using l9
  have p4:b3.size=cs.length:=by have:=al.1;simpa using this
  have xG:v.cells=#[v]:=by cases v<;>first|rfl|(simp[Value.oneCell']at n')
  have hw:w'=w.setRow br (cZ b3.toList off [v]).toArray:=by
   have cB:=Hb (P:=P) (w:=w) (t:=t) (m:=1) (by rw[ak];rfl) (Hc bv);have:=Hd (P:=P) t br off ty b3 v cB (by rw[xG];rfl) bo (.inl rfl) (by omega) (by rw[xG];simpa using n');rw[A6,this]at aa;injection aa with _ aa
   rw[<-aa,xG]
  have ip:w'.cell? ⟨br,off,none⟩=some v:=by rw[hw,cell_of_row _ br off _ ty (0,0) (setRow_heap w br b3 _ ty _ bo)];rw[<-KA _ _ _ (by simpa[p4]using ar)];simp[p4,ar]
  have qb:cZ cs off [ag.any]=cs.set off .any:=(KA cs off .any ar).symm;have sa:∀j,(s j).aR=true->dc s i off 1 j=s j:=fun j=>ku;have au:Rel S0 w0 n (fun j=>if j=i then .cR br (cs.set off .any)else dc s i off 1 j) a w':=by
   unfold lI at ab;simp only[ak,cf.cells,hs,aG.cells,qb]at ab;cases oj:lB cs off 1 with
   |true=>rw[oj]at ab;exact ab
   |false=>
    rw[oj]at ab;refine ab.forget (fun j=>?_) (fun j m gP=>?_)
    ·by_cases ac:j=i
     ·simp only[av ac];exact .inl trivial
     ·simp only[an ac];exact ib s i off 1 j
    ·by_cases hm:m=i
     ·simp only[av hm]
     ·simp only[an hm];refine sa m ?_;by_cases ac:j=i
      ·simp only[av ac]at gP;cases gP
      ·simp only[an ac]at gP;rcases ib s i off 1 j with e|e<;>rw[e]at gP
       ·exact af.wf j m gP
       ·cases gP
  have Hg:ch i off≠i:=by intro e;rw[e,hs]at lK;cases lK
  have aN:=au.Hf (k:=ch i off) (i:=i) (off:=off) (d:=d) (b:=br) (cs:=cs.set off .any) (by
    simp only[an Hg];rcases ib s i off 1 (ch i off)with e|e<;>rw[e]
    ·exact lK
    ·rfl) (by
    by_cases aA:d=i
    ·simp only[av aA];rfl
    ·simp only[an aA];rw[sa d Bj];exact Bj) (by simp[ae.gk]) (by simp[ar]) (by simp only[av];rfl) (by
    rw[ip,aF];by_cases aA:d=i
    ·subst aA;simp only[av];rfl
    ·simp only[an aA];rw[sa d Bj,gV])
  have e:(fun j=>if j=ch i off then ae.link i off d else if j=i then ae.cR br (cs.set off .any)else dc s i off 1 j)=(fun j=>if j=i then .cR br (cs.set off .any)else if j=ch i off then .link i off d else dc s i off 1 j):=by
   funext j;by_cases ac:j=i
   ·subst ac;simp[Hg.symm]
   ·simp[ac]
  rw[e]at aN;exact aN
 ·exact am.elim
end
end
section
variable [bn]
def dv(g:Nat->aI):Nat->List (Nat×Nat×List (List ag))->List ae
 |_,[]=>[]
 |k,(e,z,xs)::r=>.db (g k) e z xs::dv g (k+1) r
def KB(g:Nat->aI):∀(l:List (Nat×Nat×List (List ag))) (k:Nat),(dv g k l).length=l.length
 |[],_=>rfl
 |_::r,k=>by simp[dv,KB g r]
def KC(g:Nat->aI):∀(l:List (Nat×Nat×List (List ag))) (k j:Nat),(dv g k l)[j]?=(l[j]?).map fun x=>ae.db (g (k+j)) x.1 x.2.1 x.2.2
 |[],_,j=>by simp[dv]
 |(e,z,xs)::r,k,0=>by simp[dv]
 |(e,z,xs)::r,k,j+1=>by simp only[dv,A8];rw[KC g r (k+1) j];congr 2;funext x;rw[show k+1+j=k+(j+1) by omega]
def KD(w:bb)(s:aj)(tm:Nat->aI)(c2:List (Nat×Nat))(base:Nat):Prop:=
 ∀(k i off:Nat),c2[k]?=some (i,off)->(s (base+k)).aR=true/\∃cs b,(s i).gk=some cs/\cs[off]?=some .any/\bl (s i) (tm i)=some b/\w.cell? ⟨b,off,none⟩=some ((s (base+k)).valOf (tm (base+k)))
def xH(P:aM)(f:FuncId)(args:List ae)(fR:List (Nat×Nat×List (List ag)))(c2:List (Nat×Nat))(r:bH)(outs:List ae)(go:List (Nat×Nat×List (List ag))):Prop:=
 tv P f/\hh args outs=true/\fR.length=c2.length/\go.length=c2.length/\(∀v,r.ij v=none)/\∀(w:bb) (E:Env) (vs:Array aI) (g:Nat->aI),pI E w->Ba w E (args++dv g 0 fR) vs->KD w (eT (args++dv g 0 fR)) (cw vs) c2 args.length ->
  Calls P f vs w fun e w'=>∃v bX,e=.returned v/\Kept E.fb w w'/\iT w' (jA w w' E (outs++dv bX 0 go) vs) r v /\
   (∀(j:Nat) (o:ae),(outs++dv bX 0 go)[j]?=some o->dp w' (jA w w' E (outs++dv bX 0 go) vs) (fun b=>E.fb b\/w.heap.size<=b) zn zo o (cw vs j)) /\
   (∀(i j:Nat) (x y:ae) (b:Nat),(outs++dv bX 0 go)[i]?=some x->bl x (cw vs i)=some b->(outs++dv bX 0 go)[j]?=some y->bl y (cw vs j)=some b->i=j) /\
   KD w' (eT (outs++dv bX 0 go)) (cw vs) c2 args.length
def sb:ae->Option (Nat×Nat×List (List ag))
 |.own e z xs=>some (e,z,xs)
 |.db _ e z xs=>some (e,z,xs)
 |_=>none
def Bk(i off:Nat):ae->Option Nat
 |.link bL o d=>if bL=i/\o=off then some d else none
 |_=>none
def VG{i off d:Nat}{a:ae}(h:Bk i off a=some d):a=.link i off d:=by
 unfold Bk at h;split at h
 ·split at h
  ·rename_i e;injection h with h;rw[e.1,e.2,h]
  ·cases h
 ·cases h
def tE(s:aj)(i:Nat):Nat->List ag->List (Nat×Nat×Nat)
 |_,[]=>[]
 |off,c::r=>match c.isAny with
  |true=>match Bk i off (s (ch i off))with
   |some d=>(i,off,d)::tE s i (off+1) r
   |none=>tE s i (off+1) r
  |false=>tE s i (off+1) r
def sc(s:aj):List (ae×Option Nat)->List (Nat×Nat×Nat)
 |[]=>[]
 |(x,some i)::r=>match x.gk with
  |some cs=>tE s i 0 cs++sc s r
  |none=>sc s r
 |(_,none)::r=>sc s r
def KE{s:aj}{i:Nat}:∀{cs:List ag} {off:Nat} {l:Nat×Nat×Nat},l∈tE s i off cs->l.1=i/\s (ch l.1 l.2.1)=.link l.1 l.2.1 l.2.2
 |[],_,l,h=>by simp[tE]at h
 |c::r,off,l,h=>by
  unfold tE at h;split at h
  ·split at h
   ·rename_i d aA;rcases fp.1 h with rfl|h
    ·exact⟨rfl,VG aA⟩
    ·exact KE h
   ·exact KE h
  ·exact KE h
def Hh{s:aj}:∀{xs:List (ae×Option Nat)} {l:Nat×Nat×Nat},l∈sc s xs->s (ch l.1 l.2.1)=.link l.1 l.2.1 l.2.2
 |[],l,h=>by simp[sc]at h
 |(x,some i)::r,l,h=>by
  simp only[sc]at h;split at h
  ·rcases hg.1 h with h|h
   ·exact(KE h).2
   ·exact Hh h
  ·exact Hh h
 |(_,none)::r,l,h=>Hh (xs:=r) h
def tF(s:aj):List (Nat×Nat×Nat)->Option (List (Nat×Nat×List (List ag)))
 |[]=>some []
 |l::r=>match sb (s l.2.2),tF s r with
  |some x,some xs=>some (x::xs)
  |_,_=>none
def VH{s:aj}:∀{L:List (Nat×Nat×Nat)} {fR:List (Nat×Nat×List (List ag))},tF s L=some fR->fR.length=L.length/\∀(k:Nat) (l:Nat×Nat×Nat),L[k]?=some l->∃x,fR[k]?=some x/\sb (s l.2.2)=some x
 |[],fR,h=>by simp only[tF,b9]at h;subst h;exact⟨rfl,fun k l h=>by simp at h⟩
 |l::r,fR,h=>by
  unfold tF at h;split at h
  ·rename_i x xs ax aK;injection h with h
   subst h;obtain⟨aE,aQ⟩:=VH aK;refine⟨by simp[aE],fun k pN ak=>?_⟩;cases k with
   |zero=>simp at ak;subst ak;exact⟨x,rfl,ax⟩
   |succ k=>simp at ak;exact aQ k pN ak
  ·cases h
def tG(xs:List (ae×Option Nat)):List (Nat×Nat×Nat)->Option (List (Nat×Nat))
 |[]=>some []
 |l::r=>match p9 l.1 xs 0,tG xs r with
  |some p,some uP=>some ((p,l.2.1)::uP)
  |_,_=>none
def VI{xs:List (ae×Option Nat)}:∀{L:List (Nat×Nat×Nat)} {c2:List (Nat×Nat)},tG xs L=some c2->c2.length=L.length/\∀(k:Nat) (l:Nat×Nat×Nat),L[k]?=some l->∃p x,c2[k]?=some (p,l.2.1)/\xs[p]?=some (x,some l.1)
 |[],c2,h=>by simp only[tG,b9]at h;subst h;exact⟨rfl,fun k l h=>by simp at h⟩
 |l::r,c2,h=>by
  unfold tG at h;split at h
  ·rename_i p uP ax aK;injection h with h
   subst h;obtain⟨aE,aQ⟩:=VI aK;refine⟨by simp[aE],fun k pN ak=>?_⟩;cases k with
   |zero=>simp at ak;subst ak;obtain⟨_,x,ai⟩:=G8 ax;exact⟨p,x,rfl,by simpa using ai⟩
   |succ k=>simp at ak;exact aQ k pN ak
  ·cases h
def fq(s:aj)(L:List (Nat×Nat×Nat)):List (ae×Option Nat):=L.map fun l=>(s l.2.2,some l.2.2)
def iB(s:aj):List (ae×Option Nat)->aj
 |[]=>s
 |(x,some i)::r=>match x.gk with
  |some cs=>iB (dc s i 0 cs.length) r
  |none=>iB s r
 |(_,none)::r=>iB s r
def KF:∀(xs:List (ae×Option Nat)) (s:aj),(∀j,iB s xs j=s j\/(iB s xs j=.dead/\(s j).aR=false)) /\
  (∀(x:ae) (i:Nat) (cs:List ag) (j off d:Nat),(x,some i)∈xs->x.gk=some cs->(iB s xs j).o1 i off d->off<cs.length->False)
 |[],s=>⟨fun j=>.inl rfl,fun x i cs j off d h=>by simp at h⟩
 |(x,none)::r,s=>by
  obtain⟨aa,ab⟩:=KF r s;refine⟨aa,fun bJ i cs j off d hm=>?_⟩;rcases fp.1 hm with h|h
  ·cases h
  ·exact ab bJ i cs j off d h
 |(x,some i)::r,s=>by
  simp only[iB];cases ai:x.gk with
  |some cs=>
   dsimp only;obtain⟨aa,ab⟩:=KF r (dc s i 0 cs.length);have a1:∀j,dc s i 0 cs.length j=s j\/(dc s i 0 cs.length j=.dead/\(s j).aR=false):=by
    intro j;cases aB:(s j).aR with
    |true=>exact .inl (ku aB)
    |false=>rcases ib s i 0 cs.length j with e|e
            ·exact .inl e
            ·exact .inr ⟨e,rfl⟩
   refine⟨fun j=>?_,fun bJ bL cs' j off d hm ad al ar=>?_⟩
   ·rcases aa j with e|⟨e,aB⟩
    ·rcases a1 j with cg|⟨cg,ii⟩
     ·exact .inl (by rw[e,cg])
     ·exact .inr ⟨by rw[e,cg],ii⟩
    ·refine .inr ⟨e,?_⟩;rcases a1 j with cg|⟨cg,ii⟩
     ·rw[<-cg];exact aB
     ·exact ii
   ·rcases fp.1 hm with h|h
    ·injection h with au aN;injection aN with aN
     subst au;subst aN;rw[ai]at ad;injection ad with ad
     subst ad;have f':(dc s bL 0 cs.length j).o1 bL off d:=by
      rcases aa j with e|⟨e,_⟩
      ·rw[<-e];exact al
      ·rw[e]at al;exact al.elim
     have:dc s bL 0 cs.length j=.dead:=by
      have hs:(s j).o1 bL off d:=by
       rcases ib s bL 0 cs.length j with e|e
       ·rw[<-e];exact f'
       ·rw[e]at f';exact f'.elim
      unfold dc;rw[ae.Dm hs (cj _) (by omega)]
     rw[this]at f';exact f'.elim
    ·exact ab bJ bL cs' j off d h ad al ar
  |none=>
   dsimp only;obtain⟨aa,ab⟩:=KF r s;refine⟨aa,fun bJ bL cs j off d hm ad=>?_⟩;rcases fp.1 hm with h|h
   ·injection h with au aN;subst au
    rw[ai]at ad;cases ad
   ·exact ab bJ bL cs j off d h ad
def q2(s:aj):List (Nat×Nat×Nat)->aj
 |[]=>s
 |l::r=>q2 (fun j=>if j=ch l.1 l.2.1 then .link l.1 l.2.1 l.2.2 else s j) r
def DY(P:aM)(d:Nat)(s:aj)(g:FuncId)(xs:List (ae×Option Nat))(L:List (Nat×Nat×Nat))(K:aj->Prop):Option (List (Nat×Nat×List (List ag)))->Option (List (Nat×Nat))->Prop
 |some fR,some c2=>(ej (xs++fq s L)).Nodup/\(ej (xs++fq s L)).contains d=false/\∃r outs go,xH P g (hN (xs++fq s L) xs) fR c2 r outs go /\
   ∀bX,K (q2 (Ab.put (gf (iB s xs) (xs++fq s L) (outs++dv bX 0 go)) d r.dj) L)
 |_,_=>False
def Hi(P:aM)(d:Nat)(s:aj)(g:FuncId)(xs:List (ae×Option Nat))(K:aj->Prop)(L:List (Nat×Nat×Nat)):Prop:=DY P d s g xs L K (tF s L) (tG xs L)
def Bl(P:aM)(n d:Nat)(s:aj)(c:Prop×Option (FuncId×List (ae×Option Nat)))(K:aj->Prop):Prop:=
 match c with
 |(p,some (g,xs))=>p/\d<n/\d<cU/\Hi P d s g xs K (sc s xs)
 |_=>False
def VJ(P:aM)(n:Nat)(o:Oper)(s:aj)(K:aj->Prop):Prop:=
 o.guard=none/\match o.op,o.dst with
 |.call c,some d=>match c.callee with
  |.value f=>Bl P n d s (gX s f c.args.toList) K
  |_=>False
 |_,_=>False
section
variable {P:aM}{S0:Env}{w0 w:bb}{n:Nat}{s:aj}{a:Act}
def DZ{x:ae}{e z:Nat}{xs:List (List ag)}(h:sb x=some (e,z,xs)):x=.own e z xs\/∃g,x=.db g e z xs:=by
 cases x<;>first|(cases h;done)|skip
 ·simp only[sb,b9,cA]at h;obtain⟨rfl,rfl,rfl⟩:=h;exact .inl rfl
 ·simp only[sb,b9,cA]at h;obtain⟨rfl,rfl,rfl⟩:=h;exact .inr ⟨_,rfl⟩
def VK{x:ae}{p:Nat×Nat×List (List ag)}(h:sb x=some p):x.bare=true/\x.aR=true:=by obtain⟨e,z,xs⟩:=p;rcases DZ h with rfl|⟨g,rfl⟩<;>exact⟨rfl,rfl⟩
def Rel.q2:∀(L:List (Nat×Nat×Nat)) {s:aj},Rel S0 w0 n s a w ->
  (∀l∈L,(s (ch l.1 l.2.1)).free=true/\(s l.2.2).aR=true/\∃cs b,(s l.1).gk=some cs/\cs[l.2.1]?=some .any/\bl (s l.1) (aL a l.1)=some b/\w.cell? ⟨b,l.2.1,none⟩=some ((s l.2.2).valOf (aL a l.2.2)))->Rel S0 w0 n (Ab.q2 s L) a w
 |[],_,af,_=>af
 |l::r,s,af,h=>by
  obtain⟨aa,ab,cs,b,au,aN,bE,cS⟩:=h l (by simp);have fV:∀j,(s j).aR=true->j≠ch l.1 l.2.1:=by rintro j ac rfl;rw[yY aa]at ac;cases ac
  refine Rel.q2 r (af.Hf aa ab au aN bE cS) (fun pN dK=>?_);obtain⟨aE,aQ,cs',br,bf,bM,dz,iV⟩:=h pN (by simp[dK]);simp only[an (fV _ aQ),an (fV _ (ae.o0 bf))];refine⟨?_,aQ,cs',br,bf,bM,dz,iV⟩;split
  ·rfl
  ·exact aE
def zff(af:Rel S0 w0 n s a w){g:FuncId}{xs:List (ae×Option Nat)}{vs:Array aI}{d:Nat}{L:List (Nat×Nat×Nat)}{fR:List (Nat×Nat×List (List ag))}{c2:List (Nat×Nat)}{r:bH}{outs:List ae}{go:List (Nat×Nat×List (List ag))}(aA:S0.m<=d/\d<n)(Pa:d<cU)
  (gO:∀(j:Nat) (y:ae×Option Nat),xs[j]?=some y->∃u,vs[j]?=some u/\qX S0 w0 s a w y u)(cB:vs.size=xs.length)(l6:L=sc s xs)(D0:tF s L=some fR)(f':tG xs L=some c2)
  (hi:(ej (xs++fq s L)).Nodup)(hdn:(ej (xs++fq s L)).contains d=false)(en:xH P g (hN (xs++fq s L) xs) fR c2 r outs go) :
  Calls P g vs w fun e w'=>∃v bX,e=.returned v/\Rel S0 w0 n (Ab.q2 (Ab.put (gf (iB s xs) (xs++fq s L) (outs++dv bX 0 go)) d r.dj) L) (a.put (some d) v) w':=by
 obtain⟨_,fm,Pb,lL,r9,pb⟩:=en;obtain⟨zfg,Hj⟩:=VH D0;obtain⟨VL,zfh⟩:=VI f';have zfi:xs.length=outs.length:=by rw[<-(p8 fm).1,xD]
 obtain⟨Bd,O0⟩:=KF xs s;have sa:∀j,(s j).aR=true->iB s xs j=s j:=by
  intro j ac;rcases Bd j with e|⟨_,e⟩
  ·exact e
  ·rw[e]at ac;cases ac
 have Pc:Rel S0 w0 n (iB s xs) a w:=by
  refine af.forget (fun j=>?_) (fun j k cb=>?_)
  ·rcases Bd j with e|⟨e,_⟩
   ·exact .inl e
   ·exact .inr e
  ·refine sa k ?_;rcases Bd j with e|⟨e,_⟩<;>rw[e]at cb
   ·exact af.wf j k cb
   ·cases cb
 have Hk:∀j b,bl (iB s xs j) (aL a j)=some b↔bl (s j) (aL a j)=some b:=by
  intro j b;rcases Bd j with e|⟨e,aB⟩
  ·rw[e]
  ·rw[e,ks aB];simp[bl]
 have VM:∀b,bO S0 w0.heap.size w s (aL a) b->bO S0 w0.heap.size w (iB s xs) (aL a) b:=fun b ad=>⟨ad.1,ad.2.1,fun j ac=>ad.2.2 j ((Hk j b).1 ac)⟩
 have zfj:∀{y:ae×Option Nat} {u:aI},qX S0 w0 s a w y u->qX S0 w0 (iB s xs) a w y u:=by
  rintro⟨y,q⟩ u ah;cases q with
  |some i=>obtain⟨aa,ab,au,aN⟩:=ah;dsimp only at aa;exact⟨by rw[sa i (by rw[aa];exact au)];exact aa,ab,au,aN⟩
  |none=>
   obtain⟨aa,ab⟩:=ah;refine⟨aa,dp.mono ab VM (fun _ _=>rfl) (fun _ _=>rfl) (fun i ah=>?_) (fun i off d cs b al hs _=>?_)⟩
   ·refine⟨rfl,fun aB=>by rw[sa i aB];exact⟨aB,rfl,rfl,rfl⟩,fun b ad=>(Hk i b).2 ad⟩
   ·exact⟨⟨cs,by rw[sa i (ae.o0 hs)];exact hs,rfl⟩,rfl⟩
 have bB:∀{k:Nat} {l:Nat×Nat×Nat},L[k]?=some l->(s l.2.2).aR=true/\(s l.2.2).bare=true:=by intro k l ak;obtain⟨x,_,ab⟩:=Hj k l ak;exact⟨(VK ab).2,(VK ab).1⟩
 let hW:Array aI:=vs++(L.map fun l=>aL a l.2.2).toArray
 have KG:∀j,j<xs.length->hW[j]?=vs[j]?:=fun j ac=>G4 (by omega);have VN:∀k,hW[xs.length+k]?=(L[k]?).map fun l=>aL a l.2.2:=by
  intro k;show (vs++(L.map fun l=>aL a l.2.2).toArray)[xs.length+k]?=_
  rw[Ko (by omega),show xs.length+k-vs.size=k by omega];simp
 have VO:∀j,j<xs.length->(xs++fq s L)[j]?=xs[j]?:=fun j ac=>kx ac;have VP:∀k,(xs++fq s L)[xs.length+k]?=(L[k]?).map fun l=>(s l.2.2,some l.2.2):=by intro k;rw[l_ (by omega),show xs.length+k-xs.length=k by omega];simp[fq]
 have kg:∀(j:Nat) (y:ae×Option Nat),(xs++fq s L)[j]?=some y->(j<xs.length/\xs[j]?=some y)\/∃k l,j=xs.length+k/\L[k]?=some l/\y=(s l.2.2,some l.2.2):=by
  intro j y ac;by_cases ar:j<xs.length
  ·rw[VO j ar]at ac;exact .inl ⟨ar,ac⟩
  ·obtain⟨k,rfl⟩:∃k,j=xs.length+k:=⟨j-xs.length,by omega⟩
   rw[VP]at ac;cases al:L[k]? with
   |none=>rw[al]at ac;cases ac
   |some l=>
    rw[al]at ac;injection ac with ac
    exact .inr ⟨k,l,rfl,al,ac.symm⟩
 have gV:∀(j:Nat) (y:ae×Option Nat),(xs++fq s L)[j]?=some y->∃u,hW[j]?=some u/\qX S0 w0 s a w y u:=by
  intro j y ac;rcases kg j y ac with⟨ar,h⟩|⟨k,l,rfl,al,rfl⟩
  ·obtain⟨u,hu,ah⟩:=gO j y h;exact⟨u,by rw[KG j ar];exact hu,ah⟩
  ·refine⟨aL a l.2.2,by rw[VN,al];rfl,rfl,(bB al).2,(bB al).1,rfl⟩
 let G:Nat->aI:=fun k=>match L[k]? with
  |some l=>(s l.2.2).valOf (aL a l.2.2)
  |none=>undef
 have dN:∀{k:Nat} {l:Nat×Nat×Nat},L[k]?=some l->G k=(s l.2.2).valOf (aL a l.2.2):=by
  intro k l ak;show (match L[k]? with|some l=>(s l.2.2).valOf (aL a l.2.2)|none=>undef)=_
  rw[ak]
 let A:List ae:=hN (xs++fq s L) xs++dv G 0 fR
 have zv:∀j,j<xs.length->A[j]?=(xs[j]?).map fun y=>k8 (xs++fq s L) y.1:=fun j ac=>by show (hN (xs++fq s L) xs++dv G 0 fR)[j]?=_;rw[kx (by rw[xD];exact ac),Be]
 have q3:∀k,A[xs.length+k]?=(fR[k]?).map fun x=>ae.db (G k) x.1 x.2.1 x.2.2:=by
  intro k;show (hN (xs++fq s L) xs++dv G 0 fR)[xs.length+k]?=_
  rw[l_ (by rw[xD];omega),xD,show xs.length+k-xs.length=k by omega,KC,hv]
 have zfk:DU S0 w0 s a w (xs++fq s L) hW A vs:=by
  refine⟨gV,?_,?_,fun j y ac=>?_⟩
  ·show (hN (xs++fq s L) xs++dv G 0 fR).length=_;simp[xD,KB,zfg,fq]
  ·simp only[eG];omega
  ·rcases kg j y ac with⟨ar,h⟩|⟨k,l,rfl,al,rfl⟩
   ·refine .inl ⟨by rw[zv j ar,h];rfl,?_⟩;unfold cw;rw[KG j ar]
   ·obtain⟨⟨e,z,aV⟩,aa,ab⟩:=Hj k l al;refine .inr (.inr ⟨G k,e,z,aV,DZ ab,by rw[q3,aa];rfl,?_⟩);rw[dN al];unfold cw;rw[VN,al];rfl
 let E:Env:=⟨bO S0 w0.heap.size w s (aL a),fun b=>∃i,i∈ej (xs++fq s L)/\bl (s i) (aL a i)=some b,0,fun _=>undef⟩
 have eW:pI E w:=by
  refine⟨fun b ad=>ad.2.1,fun b ⟨i,_,ah⟩=>((af.rep i).gU ah).2,fun b ad ⟨i,_,ah⟩=>ad.2.2 i ah,af.lt.AO af.below,fun b ad ⟨i,_,ah⟩=>?_⟩;rcases ((af.rep i).gU ah).1 with h|h
  ·have:=bn.lt af.lt.xi ad;omega
  ·exact af.lt.y0 b ad h
 have zfl:Ba w E A vs:=zfk.rep af hi rfl (fun b=>jB);have VQ:∀{k:Nat} {l:Nat×Nat×Nat},L[k]?=some l->∃cs b p x,(s l.1).gk=some cs/\cs[l.2.1]?=some .any/\bl (s l.1) (aL a l.1)=some b/\w.cell? ⟨b,l.2.1,none⟩=some ((s l.2.2).valOf (aL a l.2.2))/\c2[k]?=some (p,l.2.1)/\xs[p]?=some (x,some l.1)/\p<xs.length/\s l.1=x/\x.bare=true/\vs[p]?=some (aL a l.1):=by intro k l ak;have hs:=Hh (s:=s) (xs:=xs) (l:=l) (by rw[<-l6];exact kt ak);have b8:=af.rep (ch l.1 l.2.1);rw[hs]at b8;obtain⟨_,cs,b,aa,ab,au,aN⟩:=b8;obtain⟨p,x,bE,cS⟩:=zfh k l ak;obtain⟨u,d8,ei,fA,_,k5⟩:=gO p _ cS;exact⟨cs,b,p,x,aa,ab,au,aN,bE,cS,(eQ.1 cS).1,ei,fA,by rw[d8,k5]⟩
 have zfm:∀{x:ae} {Z:List (ae×Option Nat)},x.bare=true->k8 Z x=x:=by intro x Z ai;cases x<;>first|rfl|(simp[ae.bare]at ai)
 have zfn:∀(k i off:Nat),c2[k]?=some (i,off)->∃l,L[k]?=some l:=fun k i off h=>⟨_,cr (by rw[<-VL];exact(eQ.1 h).1)⟩
 have zfo:KD w (eT A) (cw vs) c2 (hN (xs++fq s L) xs).length:=by
  rw[xD];intro k i off ak;obtain⟨l,al⟩:=zfn k i off ak;obtain⟨cs,b,p,x,aa,ab,au,aN,bE,cS,d8,ei,fA,k5⟩:=VQ al;rw[ak]at bE;simp only[b9,cA]at bE;obtain⟨rfl,rfl⟩:=bE;obtain⟨⟨e,z,aV⟩,g1,g2⟩:=Hj k l al;have ik:eT A i=s l.1:=by unfold eT;rw[zv i d8,cS];simp[zfm fA,ei]
  have sd:eT A (xs.length+k)=.db (G k) e z aV:=by unfold eT;rw[q3,g1];rfl
  refine⟨by rw[sd];rfl,cs,b,by rw[ik];exact aa,ab,?_,?_⟩
  ·rw[ik,tz k5];exact au
  ·rw[sd,aN,<-dN al];rfl
 refine(pb w E vs G eW zfl zfo).mono ?_;rintro e w' ⟨v,bX,rfl,Ha,ao,mQ,xB,zfp⟩;refine⟨v,bX,rfl,?_⟩;have KH:∀j,j<xs.length->(outs++dv bX 0 go)[j]?=outs[j]?:=fun j ac=>kx (by omega);have Bm:∀k,(outs++dv bX 0 go)[xs.length+k]?=(go[k]?).map fun x=>ae.db (bX k) x.1 x.2.1 x.2.2:=by intro k;rw[l_ (by omega),show xs.length+k-outs.length=k by omega,KC,hv]
 have iS:(xs++fq s L).length=(outs++dv bX 0 go).length:=by simp[KB,fq,lL,VL,zfi]
 have Pd:∀(j:Nat) (x:ae×Option Nat) (o:ae),(xs++fq s L)[j]?=some x->(outs++dv bX 0 go)[j]?=some o->og x.1 o=true:=by
  intro j x o aa ab;rcases kg j x aa with⟨ar,h⟩|⟨k,l,rfl,al,rfl⟩
  ·rw[KH j ar]at ab;exact Kq (Vw ((p8 fm).2 j _ o (by rw[Be,h];rfl) ab))
  ·rw[Bm]at ab;cases mR:go[k]? with
   |none=>rw[mR]at ab;cases ab
   |some q=>
    rw[mR]at ab;injection ab with ab
    subst ab;obtain⟨⟨e,z,aV⟩,_,g2⟩:=Hj k l al;dsimp only;rcases DZ g2 with ax|⟨_,ax⟩<;>rw[ax]<;>rfl
 have Pe:∀{j:Nat} {x:ae} {i:Nat},(xs++fq s L)[j]?=some (x,some i)->iB s xs i=x/\x.bare=true/\x.aR=true/\s i=x:=by intro j x i h;obtain⟨u,hu,hs,ad,aB,_⟩:=gV j _ h;dsimp only at hs ad aB;exact⟨by rw[sa i (by rw[hs];exact aB)];exact hs,ad,aB,hs⟩
 have DV:pd (iB s xs) (gf (iB s xs) (xs++fq s L) (outs++dv bX 0 go)) (dX (xs++fq s L) (outs++dv bX 0 go)):=by refine G5 _ _ _ Pc.wf hi iS (fun j x i o aa ab=>?_);obtain⟨ax,aK,cd,_⟩:=Pe aa;rw[ax];have aw:=Pd j _ o aa ab;refine⟨aw,cd,?_⟩;cases x<;>cases o<;>first|rfl|(simp[og,eB]at aw)
 have pg:∀(j:Nat) (o:ae),(outs++dv bX 0 go)[j]?=some o->∀b,bl o (cw hW j)=some b↔bl o (cw vs j)=some b:=by
  intro j o h b;by_cases ar:j<xs.length
  ·have:cw hW j=cw vs j:=by unfold cw;rw[KG j ar]
   rw[this]
  ·obtain⟨k,rfl⟩:∃k,j=xs.length+k:=⟨j-xs.length,by omega⟩
   rw[Bm]at h;cases mR:go[k]? with
   |none=>rw[mR]at h;cases h
   |some q=>rw[mR]at h;injection h with h;subst h;exact jB
 have O3:jA w w' E (outs++dv bX 0 go) vs=jA w w' E (outs++dv bX 0 go) hW:=by
  funext b;have:wg (outs++dv bX 0 go) vs b↔wg (outs++dv bX 0 go) hW b:=
   ⟨fun ⟨j,o,aa,ab⟩=>⟨j,o,aa,(pg j o aa b).2 ab⟩,fun ⟨j,o,aa,ab⟩=>⟨j,o,aa,(pg j o aa b).1 ab⟩⟩
  simp only[jA,this]
 rw[O3]at ao mQ;have qY:E.rd=bO S0 w0.heap.size w (iB s xs) (aL a):=by funext b;exact propext ⟨VM b,fun ad=>⟨ad.1,ad.2.1,fun j ac=>ad.2.2 j ((Hk j b).2 ac)⟩⟩
 have tB:∀b,E.fb b↔∃i,i∈ej (xs++fq s L)/\bl (iB s xs i) (aL a i)=some b:=
  fun b=>⟨fun ⟨i,aa,ab⟩=>⟨i,aa,(Hk i b).2 ab⟩,fun ⟨i,aa,ab⟩=>⟨i,aa,(Hk i b).1 ab⟩⟩
 have ma:∀(j i off d:Nat),(iB s xs j).o1 i off d->i∈ej (xs++fq s L)->False:=by
  intro j i off bG al ah;obtain⟨_,cs,b,aE,aQ,_⟩:=(Pc.rep j).Gm al;unfold ej at ah;rw[xz]at ah;obtain⟨⟨x,q⟩,hm,bK⟩:=ah;dsimp only at bK;subst bK;obtain⟨mb,gm⟩:=mG hm;obtain⟨ax,aK,cd,fI⟩:=Pe gm;rw[ax]at aE;rcases kg mb _ gm with⟨ar,h⟩|⟨k,l,rfl,dK,e⟩
  ·exact O0 x i cs j off bG (kt h) aE al (eQ.1 aQ).1
  ·injection e with gp tH;injection tH with tH
   obtain⟨⟨e,z,aV⟩,_,g2⟩:=Hj k l dK;rw[gp]at aE;rcases DZ g2 with ax|⟨_,ax⟩<;>rw[ax]at aE<;>cases aE
 have dH:∀(j:Nat) (o:ae),(outs++dv bX 0 go)[j]?=some o->dp w' (fun b=>jA w w' E (outs++dv bX 0 go) hW b/\r.ij v≠some b) (fun b=>E.fb b\/w.heap.size<=b) zn zo o (cw hW j):=by
  intro j o h;have aa:=mQ j o h;have zfq:o.bare=true:=by
   obtain⟨y,aU⟩:∃y,(xs++fq s L)[j]?=some y:=⟨_,cr (by rw[iS];exact(eQ.1 h).1)⟩
   have aw:=Pd j y o aU h;obtain⟨y,q⟩:=y;dsimp only at aw;cases y<;>cases o<;>first|rfl|(simp[og,eB]at aw)
  have ab:dp w' (fun b=>jA w w' E (outs++dv bX 0 go) hW b/\r.ij v≠some b) (fun b=>E.fb b\/w.heap.size<=b) zn zo o (cw vs j):=
   aa.bare zfq (fun b ad=>⟨ad,by rw[r9];simp⟩) (fun b _ h=>h)
  by_cases ar:j<xs.length
  ·have:cw hW j=cw vs j:=by unfold cw;rw[KG j ar]
   rw[this];exact ab
  ·obtain⟨k,rfl⟩:∃k,j=xs.length+k:=⟨j-xs.length,by omega⟩
   rw[Bm]at h;cases mR:go[k]? with
   |none=>rw[mR]at h;cases h
   |some q=>rw[mR]at h;injection h with h;subst h;exact ab
 have KI:=Pc.Vt (E:=E) (vs:=hW) (r:=r) (v:=v) aA (fun j y ac=>let ⟨u,hu,ah⟩:=gV j y ac;⟨u,hu,zfj ah⟩) iS Pd ma
  (fun i j x y b aa ab au aN=>xB i j x y b aa ((pg i x aa b).1 ab) au ((pg j y au b).1 aN)) qY tB Ha ao (fun b ad=>by rw[r9]at ad;cases ad) dH DV
 refine Rel.q2 L KI (fun l al=>?_);obtain⟨k,ak⟩:=mG al;obtain⟨cs,b,p,x,aa,ab,au,aN,bE,cS,d8,ei,fA,k5⟩:=VQ ak;obtain⟨m1,cs',br,m2,m3,m4,m5⟩:=zfp k p l.2.1 bE;rw[xD]at m1 m5;have hyp:(xs++fq s L)[p]?=some (x,some l.1):=by rw[VO p d8];exact cS
 have Pf:(xs++fq s L)[xs.length+k]?=some (s l.2.2,some l.2.2):=by rw[VP,ak];rfl
 obtain⟨gN,iW⟩:∃o,(outs++dv bX 0 go)[p]?=some o:=⟨_,cr (by rw[<-iS];exact(eQ.1 hyp).1)⟩
 obtain⟨e0,jD⟩:∃o,(outs++dv bX 0 go)[xs.length+k]?=some o:=⟨_,cr (by rw[<-iS];exact(eQ.1 Pf).1)⟩
 have ik:eT (outs++dv bX 0 go) p=gN:=by unfold eT;rw[iW];rfl
 have sd:eT (outs++dv bX 0 go) (xs.length+k)=e0:=by unfold eT;rw[jD];rfl
 have jC:=DV.new _ _ (Kr hyp iW);have gD:=DV.new _ _ (Kr Pf jD);have bY:∀{j:Nat} {y:ae} {i:Nat},(xs++fq s L)[j]?=some (y,some i)->i≠d:=by
  rintro j y i h rfl;have:=zq h;have ap:(ej (xs++fq s L)).contains i=true:=by simpa using this
  rw[ap]at hdn;cases hdn
 have VR:=bY hyp;have zfr:=bY Pf;have zfs:gN.aR=true:=by rw[<-ik];exact ae.o0 m2
 have VS:e0.aR=true:=by rw[<-sd];exact m1
 have jf:Ab.put (gf (iB s xs) (xs++fq s L) (outs++dv bX 0 go)) d r.dj l.1=gN:=by rw[o2 VR (by rw[jC];exact zfs),jC]
 have jU:Ab.put (gf (iB s xs) (xs++fq s L) (outs++dv bX 0 go)) d r.dj l.2.2=e0:=by rw[o2 zfr (by rw[gD];exact VS),gD]
 have lA:d<a.tmps.size:=by rw[af.size];exact aA.2
 have iw:=xj a d v lA;rw[ik]at m2 m4;rw[sd]at m5;rw[jf,jU];have lK:∀{t:aj},(t (ch l.1 l.2.1)).free=true->(Ab.put t d r.dj (ch l.1 l.2.1)).free=true:=by
  intro t bv;have tp:ch l.1 l.2.1≠d:=by unfold ch;unfold cU at Pa;omega
  rcases qM (s:=t) (v:=r.dj) tp with e|⟨_,_,e⟩
  ·rw[e];exact bv
  ·rw[e];rfl
 refine⟨lK ?_,VS,cs',br,m2,m3,?_,?_⟩
 ·have gQ:=Hh (s:=s) (xs:=xs) (l:=l) (by rw[<-l6];exact al);have Ku:∀o,(ch l.1 l.2.1,o)∉dX (xs++fq s L) (outs++dv bX 0 go):=by
   intro o aB;obtain⟨j,y,ax,_⟩:=xy aB;obtain⟨_,_,aK,cd⟩:=Pe ax;rw[gQ]at cd;rw[<-cd]at aK;cases aK
  rcases DV.l1 _ Ku with e|⟨e,_⟩
  ·rw[e];rcases Bd (ch l.1 l.2.1)with cg|⟨cg,_⟩
   ·rw[cg,gQ];rfl
   ·rw[cg];rfl
  ·rw[e];rfl
 ·rw[iw,an VR];rw[tz k5]at m4;exact m4
 ·rw[m5];rw[Bm]at jD;cases mR:go[k]? with
  |none=>rw[mR]at jD;cases jD
  |some q=>rw[mR]at jD;injection jD with jD;subst jD;rfl
def zft(af:Rel S0 w0 n s a w)(o:Oper)(eX:∀d,o.dst=some d->S0.m<=d){K:aj->Prop}(h:VJ P n o s K){bT:Act->bb->Prop}{Q:Exit->Act->bb->Prop}
  (ct:∀s' a' w',Rel S0 w0 n s' a' w'->K s'->bT a' w'):o.wp P a w bT Q:=by
 obtain⟨se,h⟩:=h;split at h
 ·rename_i c d c4 eS;split at h
  ·rename_i f VT;unfold Bl at h;split at h
   ·rename_i pp g aV cC;obtain⟨r6,hdn,Pa,h⟩:=h;obtain⟨caps,xs,p,q,gd,hV,aK,ax,rfl,rfl⟩:∃caps xs p q gd,aJ s f=(p,gd)/\k7 s c.args.toList=(q,some xs)/\pc s gd=some (g,caps)/\pp=(p/\q)/\aV=xs++caps:=by
     unfold gX at cC;split at cC
     ·rename_i p gd q xs hV aK;split at cC
      ·rename_i bX caps ax;simp only[cA,b9]at cC;obtain⟨rfl,rfl,rfl⟩:=cC;exact⟨caps,xs,p,q,gd,hV,aK,ax,rfl,rfl⟩
      ·simp at cC
     ·simp at cC
    obtain⟨p7,am⟩:=r6;have oe:=af.aJ f (by rw[hV];exact p7);rw[hV]at oe;obtain⟨us,mP,k3,hA⟩:=Vx af oe ax;obtain⟨oi,O5⟩:=Vq af aK am;have hm:c.args.map a.eval=(c.args.toList.map a.eval).toArray:=by apply rQ;simp
    have gO:∀(j:Nat) (y:ae×Option Nat),(xs++caps)[j]?=some y->∃u,((c.args.toList.map a.eval).toArray++us)[j]?=some u/\qX S0 w0 s a w y u:=by
     intro j y ac;by_cases ar:j<xs.length
     ·rw[kx ar]at ac;obtain⟨u,hu,ah⟩:=O5 j y ac;refine⟨u,?_,ah⟩;rw[G4 (by simp[<-oi];exact ar)];simpa using hu
     ·rw[l_ (by omega)]at ac;obtain⟨u,hu,ah⟩:=hA _ y ac;refine⟨u,?_,ah⟩;rw[Ko (by simp[<-oi];omega)];simpa[oi]using hu
    have cB:((c.args.toList.map a.eval).toArray++us).size=(xs++caps).length:=by simp[oi,k3]
    unfold Hi DY at h;split at h
    ·rename_i fR c2 D0 f';obtain⟨hi,uQ,r,outs,go,en,ak⟩:=h;have pb:=zff (P:=P) af ⟨eX d eS,hdn⟩ Pa gO cB rfl D0 f' hi uQ en;obtain⟨fn,ix,fJ,r7⟩:=en.1;have cP:(execOp a.eval o).run P w=.ok (.enter g (c.args.map a.eval++us)) w:=by
      obtain⟨callee,args,ts⟩:=c;dsimp only at VT;subst VT;simp only[execOp,c4,resolve,mP,Deferred.ofValue,Sem.run_bind,Sem.run_pure,Result.andThen_ok,invoke,callFunc,run_program,ix,fJ,r7,pP,hy];simp
     unfold Oper.wp;rw[cP];simp only[Oper.upon];rw[hm,eS];refine pb.mono ?_;rintro e w' ⟨v,bX,rfl,bQ⟩;exact ct _ _ _ bQ (ak bX)
    ·exact h.elim
   ·exact h.elim
  ·exact h.elim
 ·exact h.elim
end
end
section
variable [bn]
section
variable {P:aM}{S0:Env}{w0 w:bb}{n:Nat}{s:aj}{a:Act}
def zfu(base:Nat)(t ty e:aP)(i:TypeInfo)(size:Nat)(bv:P.underlying t=some (.slice e))(ah:P.info? e=some i)
  (v:aI)(n:Nat)(xs:List aI)(bB:w.iM base e size v n xs)(c:Nat):(Builtin.append_ #[t,t] ty #[v,.slice none 0 c]).run P w=.ok v w:=by
 rcases bB.2 with⟨rfl,rfl⟩|⟨g,cap,bN,rfl,_,_,rP,_⟩
 ·simp[Builtin.append_,run_underlying bv,sizeOf,typeInfo,ah,Builtin.lenOf,Builtin.firstCells]
 ·simp[Builtin.append_,run_underlying bv,sizeOf,typeInfo,ah,Builtin.lenOf,Builtin.firstCells,rP,storeCells]
def nB(P:aM)(e:aP):Option Nat:=(P.info? e).map (·.bytes)
def hO(s:aj):ae->Option (Option Nat×Option aP×Nat×List (List ag))
 |.x (.one .nil)=>some (none,none,0,[])
 |.alias i=>match s i with
  |.own e size xs=>some (some i,some e,size,xs)
  |.db _ e size xs=>some (some i,some e,size,xs)
  |_=>none
 |.view i _ len true=>match s i with
  |.own e size xs=>some (some i,some e,size,xs.take len)
  |_=>none
 |_=>none
def KJ:ae->Option Int
 |.x (.one (.int _ n))=>some n
 |_=>none
def wq(P:aM)(s:aj)(t t':aP)(x y:Prop×ae):Prop×aj×ae:=
 match jy P t with
 |some (e,size,d')=>
  match nB P e,hO s x.2,iQ s size y.2 with
  |some bytes,some (some i,some cg,fe,xs),some aV=>(x.1/\y.1/\t=t'/\cg=e/\fe=size/\(xs.length+aV.length)*bytes<=140737488355328/\xs.length+aV.length<=maxLen,put s i .dead,.own e size (xs++aV))
  |some bytes,some (none,_,_,_),some aV=>(x.1/\y.1/\t=t'/\aV.length*bytes<=140737488355328/\aV.length<=maxLen,s,.own e size aV)
  |some bytes,some (none,_,_,_),none=>match KJ y.2 with
   |some k=>(x.1/\y.1/\(pK P t').isSome=true/\0<k/\k*bytes<=140737488355328/\k<=maxLen,s,.own e size (List.replicate k.toNat d'))
   |none=>(False,s,.dead)
  |_,_,_=>(False,s,.dead)
 |none=>(False,s,.dead)
def VU{t e:aP}{size:Nat}{d':List ag}(h:jy P t=some (e,size,d')):∃i z,P.underlying t=some (.slice e)/\P.info? e=some i/\i.zero=some z/\i.size=size/\0<size/\z.cells.size=size:=by
 unfold jy at h;split at h
 ·rename_i cg fe cp;split at h
  ·rename_i z aZ;split at h
   ·rename_i iS;injection h with h
    simp only[cA]at h;obtain⟨rfl,rfl,rfl⟩:=h;obtain⟨i,hu,ah,hs,am⟩:=qP cp;unfold hT at aZ;rw[ah]at aZ;simp only at aZ;split at aZ
    ·rename_i J_ O8;split at aZ
     ·injection aZ with aZ;subst aZ
      exact⟨i,J_,hu,ah,O8,hs,am,by simpa using iS⟩
     ·cases aZ
    ·cases aZ
   ·cases h
  ·cases h
 ·cases h
def VV{t ty e:aP}{size bytes:Nat}{d':List ag}(cp:jy P t=some (e,size,d'))(ad:nB P e=some bytes){v:aI}{n:Nat}{xs:List aI}{base:Nat}
  (bB:w.iM base e size v n xs){b:Option Addr}{m c:Nat}{us:List aI}(k3:us.length=m*size)(eJ:b=none->m=0)(ip:∀b',b=some b'->∀j u,us[j]?=some u->w.cell? (b'.add j)=some u)
  (aa:∀u∈us,u.oneCell'=true)(s6:n+m<=maxLen)(Gl:(n+m)*bytes<=140737488355328)(un:base<=w.heap.size) :
  ∃cW w',(Builtin.append_ #[t,t] ty #[v,.slice b m c]).run P w=.ok cW w'/\w'.iM base e size cW (n+m) (xs++us)/\w.grownBy w' v.ownBlock/\(cW.ownBlock=v.ownBlock\/cW.ownBlock=some w.heap.size):=by
 obtain⟨i,z,hu,ah,aZ,hs,je,rO⟩:=VU cp;have ut:i.bytes=bytes:=by unfold nB at ad;rw[ah]at ad;simpa using ad
 cases b with
 |none=>obtain rfl:=eJ rfl;have nv:us=[]:=n5 (by simpa using k3);subst nv;exact⟨v,w,zfu base t ty e i size hu ah v n xs bB c,by simpa using bB,World.grownBy.refl w _,.inl rfl⟩
 |some b'=>obtain⟨cW,w',cP,ab,au,bE⟩:=zcP (P:=P) w base t ty e i z size bytes hu ah aZ hs ut rO je v n xs bB b' m c us k3 (ip b' rfl) aa s6 Gl un;exact⟨cW,w',cP,ab,au,bE⟩
def zfv{t t' ty e:aP}{size bytes:Nat}{d':List ag}(cp:jy P t=some (e,size,d'))(ad:nB P e=some bytes)(ak:(pK P t').isSome=true)(k:IntKind)(m:Nat)(a1:0<m)(d8:m<=maxLen)(cS:m*bytes<=140737488355328) :
  ∃v w' us,(Builtin.append_ #[t,t'] ty #[.slice none 0 0,.int k m]).run P w=.ok v w'/\w'.iM 0 e size v (List.replicate m d').length us/\(∀S,cO w S (List.replicate m d').flatten us)/\(∀x∈List.replicate m d',x.length=size)/\w.grownBy w' none/\v.ownBlock=some w.heap.size:=by
 obtain⟨i,z,hu,ah,aZ,hs,je,rO⟩:=VU cp;obtain⟨bL,kA,_,e_,_,_,ti,b8,iS⟩:=G0 (w:=w) cp;have KK:kA=z:=by
  have:(zeroValue e).run P w=.ok z w:=by simp[zeroValue,typeInfo,ah,aZ]
  rw[this]at ti;injection ti with h;exact h.symm
 subst KK;have ut:i.bytes=bytes:=by unfold nB at ad;rw[ah]at ad;simpa using ad
 have Pg:∃Bn,P.underlying t'=some (.int Bn):=by
  unfold pK at ak;split at ak
  ·rename_i Bn h;exact⟨Bn,h⟩
  ·cases ak
 obtain⟨Bn,Pg⟩:=Pg;have cP:=Go.Lib.run_append_nil_zeros (P:=P) w t t' ty e i kA k Bn hu Pg ah aZ m a1 (by omega) (by simp only[maxLen]at d8;omega) (by rw[ut];omega);have iN:=grownCap_ge w m 0 e;have ht:=grownCap_le_maxLen w m 0 e d8;refine⟨_,_,(Builtin.zeroCells kA.cells m).toList,cP,⟨by simp[size_zeroCells,rO],.inr ⟨w.heap.size,grownCap w m 0 e,_,by rw[List.length_replicate],cj _,⟨_,heap_alloc_new w.drew _,.inl rfl⟩,by simpa using iN,ht,?_,?_⟩⟩,fun S=>?_,fun x ai=>by rw[G2 ai,iS],⟨rfl,rfl,rfl,by simp,fun k ak _=>Lib.alloc_old w.drew _ k ak⟩,rfl⟩
 ·simp only[Array.size_append,size_zeroCells,rO,<-l3];congr 1;omega
 ·rw[List.length_replicate,N1,List.take_append_of_le_length (by simp[size_zeroCells,rO]),k4 (by simp[size_zeroCells,rO])]
 ·have:=Kl (b8 S) m;exact this
def VW{S:Nat->Prop}{xs aV:List (List ag)}{us vs:List aI}(al:cO w S xs.flatten us)(ak:cO w S aV.flatten vs):cO w S (xs++aV).flatten (us++vs):=by
 rw[KL];refine⟨by simp[al.1,ak.1],fun j c ac=>?_⟩;rw[ze]at ac⊢;rw[al.1];split at ac
 ·rename_i h;rw[av h];exact al.2 _ _ ac
 ·rename_i h;rw[an h];exact ak.2 _ _ ac
def VX(af:Rel S0 w0 n s a w){p:Prop}{x:ae}{u:aI}(ai:eu S0 w0 s a w (p,x) u)(am:p){i e size:Nat}{xs:List (List ag)}(h:hO s x=some (some i,some e,size,xs)) :
  (s i).aR=true/\(∀b,u.ownBlock=some b->bl (s i) (aL a i)=some b)/\(∀b,bl (s i) (aL a i)=some b->nq S0 w0.heap.size b) /\
   ∃us,w.iM 0 e size u xs.length us/\cO w (bO S0 w0.heap.size w s (aL a)) xs.flatten us/\(∀x∈xs,x.length=size)/\xs.length<=maxLen:=by
 unfold hO at h;split at h
 ·simp at h
 ·rename_i bL;split at h
  ·rename_i aK VY VZ hs;simp only[b9,cA]at h;obtain⟨rfl,rfl,rfl,rfl⟩:=h;obtain⟨rfl,_⟩:=dp.y1 (ai am) hs;have ah:=af.rep bL;rw[hs]at ah;obtain⟨us,bB,al,ge,hm,cY⟩:=ah;exact⟨by rw[hs];rfl,fun b ad=>by rw[hs];exact ad,fun b ad=>cY b (by rw[hs]at ad;exact ad),us,bB,al,ge,hm⟩
  ·rename_i g aK VY VZ hs;simp only[b9,cA]at h;obtain⟨rfl,rfl,rfl,rfl⟩:=h;obtain⟨aF,_⟩:=ai am;rw[hs]at aF;obtain rfl:u=g:=aF;have ah:=af.rep bL;rw[hs]at ah;obtain⟨us,bB,al,ge,hm,cY⟩:=ah;exact⟨by rw[hs];rfl,fun b ad=>by rw[hs];exact ad,fun b ad=>cY b (by rw[hs]at ad;exact ad),us,bB,al,ge,hm⟩
  ·cases h
 ·rename_i bL aO len;split at h
  ·rename_i aK VY VZ hs;simp only[b9,cA]at h;obtain⟨rfl,rfl,rfl,rfl⟩:=h;have zfw:=ai am;have ah:=af.rep bL;rw[hs]at ah;obtain⟨us,bB,al,ge,hm,cY⟩:=ah;obtain⟨zfx,uR,ar,_⟩:=OH hs zfw bB al ge;exact⟨by rw[hs];rfl,fun b ad=>by rw[hs];exact uR b ad,fun b ad=>cY b (by rw[hs]at ad;exact ad),_,zfx,ar,fun x ai=>ge x (v7 ai),by rw[e'];omega⟩
  ·cases h
 ·cases h
def zfy(af:Rel S0 w0 n s a w){t t' ty:aP}{x y:Prop×ae}{u v:aI}{d:Nat}(aA:S0.m<=d/\d<n)(ai:eu S0 w0 s a w x u)(aU:eu S0 w0 s a w y v)(am:(wq P s t t' x y).1) :
  ∃r w',(Builtin.append_ #[t,t'] ty #[u,v]).run P w=.ok r w'/\Rel S0 w0 n (Ab.put (wq P s t t' x y).2.1 d (wq P s t t' x y).2.2) (a.put (some d) r) w':=by
 unfold wq at am⊢;split at am
 ·rename_i e size d' cp;split at am
  ·rename_i bytes i cg fe xs aV ad fB nl;obtain⟨aa,ab,rfl,rfl,rfl,cS,d8⟩:=am;obtain⟨p,x⟩:=x;obtain⟨aB,uR,cY,us,bB,al,ge,hm⟩:=VX af ai aa fB;obtain⟨b,c,vs,rfl,eJ,tf,uS,zfz,ip⟩:=Om af aU ab nl;have Ph:vs.length=aV.length*fe:=by rw[tf.1,y8 uS]
   obtain⟨r,w',cP,lG,ay,cv⟩:=VV (P:=P) (ty:=ty) cp ad bB Ph eJ ip tf.zd d8 cS (cj _) (c:=c);refine⟨r,w',cP,?_⟩;have dO:w.grownBy w' (bl (s i) (aL a i)):=by refine⟨ay.os,ay.tape,ay.output,ay.size,fun k ak bY=>ay.block k ak (fun e=>bY ?_)⟩;exact(uR k e.symm).symm
   refine af.take aA aB dO (fun br cm=>?_) (fun j=>rfl) (fun s' tm' S bS=>?_)
   ·have xI:r.ownBlock=some br:=cm;rcases cv with h|h
    ·exact .inl (uR br (by rw[<-h];exact xI))
    ·right;rw[h]at xI;injection xI with xI
     omega
   ·have kD:∀c,bO S0 w0.heap.size w s (aL a) c->w'.heap[c]?=w.heap[c]?:=fun c ap=>ay.block c ap.2.1 (fun e=>ap.2.2 i (uR c e.symm));refine⟨us++vs,by rw[eG];exact lG,(VW al tf).mono bS kD,fun x ai=>?_,by rw[eG];exact d8,fun br cm=>?_⟩;rcases hg.1 ai with h|h
    ·exact ge x h
    ·exact uS x h
    ·rcases cv with h|h
     ·exact cY br (uR br (by rw[<-h];exact cm))
     ·rw[h]at cm;injection cm with cm;exact .inl (by have:=af.below.size;omega)
  ·rename_i bytes cg fe xs aV ad fB nl;obtain⟨aa,ab,rfl,cS,d8⟩:=am;obtain⟨p,x⟩:=x;unfold hO at fB;dsimp only at fB aa;split at fB
   ·obtain rfl:=te (ai aa);obtain⟨b,c,vs,rfl,eJ,tf,uS,zfz,ip⟩:=Om af aU ab nl;have Ph:vs.length=aV.length*size:=by rw[tf.1,y8 uS]
    obtain⟨r,w',cP,lG,ay,cv⟩:=VV (P:=P) (ty:=ty) cp ad (World.Dd w 0 e size) Ph eJ ip tf.zd (by simpa using d8) (by simpa using cS) (cj _) (c:=c);refine⟨r,w',cP,af.DE aA ay (by simpa using lG) tf uS d8 (fun br cm=>?_)⟩;rcases cv with h|h
    ·rw[h]at cm;simp[Value.ownBlock]at cm
    ·rw[h]at cm;injection cm with cm;omega
   ·split at fB<;>simp at fB
   ·split at fB<;>simp at fB
   ·simp at fB
  ·rename_i bytes cg fe xs ad fB nl;split at am
   ·rename_i k ak;obtain⟨aa,ab,au,aN,cS,d8⟩:=am;obtain⟨p,x⟩:=x;obtain⟨q,y⟩:=y;unfold hO at fB;dsimp only at fB aa ab ak;unfold KJ at ak;split at ak
    ·rename_i zw cq;injection ak with ak
     subst ak;obtain rfl:=jv (aU ab);obtain⟨m,rfl⟩:∃m:Nat,cq=m:=⟨cq.toNat,by omega⟩
     split at fB
     ·obtain rfl:=te (ai aa);obtain⟨r,w',us,cP,lG,al,ge,ay,cv⟩:=zfv (P:=P) (w:=w) (ty:=ty) cp ad au zw m (by omega) (by omega) (by rw[<-Int.natCast_mul]at cS;omega);refine⟨r,w',cP,af.DE aA ay lG (al _) ge (by simp;omega) (fun br cm=>?_)⟩;rw[cv]at cm;injection cm with cm;omega
     ·split at fB<;>simp at fB
     ·split at fB<;>simp at fB
     ·simp at fB
    ·cases ak
   ·exact am.elim
  ·exact am.elim
 ·exact am.elim
def xJ(P:aM)(s:aj)(t t':aP)(x:Prop×ae)(q:Prop)(l:aq):Prop×aj×ae:=
 match jy P t,hO s x.2 with
 |some (e,size,_),some (some i,some cg,fe,xs)=>(x.1/\q/\k1 P t'=true/\vQ P e=true/\cg=e/\fe=size/\size=1/\xs.length+l.length<=140737488355328,put s i .dead,.own e size (xs++bq l))
 |some (e,size,_),some (none,_,_,_)=>(x.1/\q/\k1 P t'=true/\vQ P e=true/\size=1/\l.length<=140737488355328,s,.own e size (bq l))
 |_,_=>(False,s,.dead)
def V0{t e size:Nat}{d':List ag}(h:jy P t=some (e,size,d')):P.underlying t=some (.slice e):=by obtain⟨i,z,aa,_⟩:=G0 (w:=default) h;exact aa
def zfA(af:Rel S0 w0 n s a w){t t' ty:aP}{x y:Prop×ae}{u v:aI}{l:aq}{d:Nat}(aA:S0.m<=d/\d<n)(ai:eu S0 w0 s a w x u)(aU:eu S0 w0 s a w y v)(uS:y.2=.x (.one (.str l)))(am:(xJ P s t t' x y.1 l).1) :
  ∃r w',(Builtin.append_ #[t,t'] ty #[u,v]).run P w=.ok r w'/\Rel S0 w0 n (Ab.put (xJ P s t t' x y.1 l).2.1 d (xJ P s t t' x y.1 l).2.2) (a.put (some d) r) w':=by
 obtain⟨q,y⟩:=y;dsimp only at uS am;subst uS;unfold xJ at am⊢;split at am
 ·rename_i e size d' i cg fe xs cp fB;obtain⟨aa,ab,au,aN,rfl,rfl,rfl,ei⟩:=am;obtain⟨rfl,D1⟩:=nt (aU ab);obtain⟨p,x⟩:=x;obtain⟨aB,uR,cY,us,bB,al,ge,hm⟩:=VX af ai aa fB;obtain⟨_,inf,g1,g2,g3,g4⟩:=J7 aN;have cB:(⟨l.toArray⟩:ByteArray).size=l.length:=by simp[ByteArray.size]
  obtain⟨r,w',cP,lG,ay,cv⟩:=Uo (P:=P) w 0 t t' ty cg inf (V0 cp) (uD au) g1 g2 g3 g4 u xs.length us bB ⟨l.toArray⟩ (by rw[cB];unfold maxLen;omega) (by rw[cB];exact ei) (cj _);rw[cB]at lG;refine⟨r,w',cP,?_⟩;have dO:w.grownBy w' (bl (s i) (aL a i)):=by refine⟨ay.os,ay.tape,ay.output,ay.size,fun k ak bY=>ay.block k ak (fun e=>bY ?_)⟩;exact(uR k e.symm).symm
  refine af.take aA aB dO (fun br cm=>?_) (fun j=>rfl) (fun s' tm' S bS=>?_)
  ·have xI:r.ownBlock=some br:=cm;rcases cv with h|h
   ·exact .inl (uR br (by rw[<-h];exact xI))
   ·right;rw[h]at xI;injection xI with xI
    omega
  ·have kD:∀c,bO S0 w0.heap.size w s (aL a) c->w'.heap[c]?=w.heap[c]?:=fun c ap=>ay.block c ap.2.1 (fun e=>ap.2.2 i (uR c e.symm));refine⟨us++Go.Lib.strCells ⟨l.toArray⟩,by rw[eG,GK];exact lG,(VW al (Ok _ l)).mono bS kD,fun x ai=>?_,by rw[eG,GK];unfold maxLen;omega,fun br cm=>?_⟩
   ·rcases hg.1 ai with h|h
    ·exact ge x h
    ·exact Ol l x h
   ·rcases cv with h|h
    ·exact cY br (uR br (by rw[<-h];exact cm))
    ·rw[h]at cm;injection cm with cm;exact .inl (by have:=af.below.size;omega)
 ·rename_i e size d' cg fe xs cp fB;obtain⟨aa,ab,au,aN,rfl,ei⟩:=am;obtain⟨rfl,D1⟩:=nt (aU ab);obtain⟨p,x⟩:=x;obtain⟨_,inf,g1,g2,g3,g4⟩:=J7 aN;have cB:(⟨l.toArray⟩:ByteArray).size=l.length:=by simp[ByteArray.size]
  unfold hO at fB;dsimp only at fB aa;split at fB
  ·obtain rfl:=te (ai aa);obtain⟨r,w',cP,lG,ay,cv⟩:=Uo (P:=P) w 0 t t' ty e inf (V0 cp) (uD au) g1 g2 g3 g4 (.slice none 0 0) 0 [] (World.Dd w 0 e 1) ⟨l.toArray⟩ (by rw[cB];unfold maxLen;omega) (by rw[cB];omega) (cj _);rw[cB]at lG;refine⟨r,w',cP,af.DE aA ay (by simpa using lG) (Ok _ l) (Ol l) (by rw[GK];unfold maxLen;omega) (fun br cm=>?_)⟩;rcases cv with h|h
   ·rw[h]at cm;simp[Value.ownBlock]at cm
   ·rw[h]at cm;injection cm with cm;omega
  ·split at fB<;>simp at fB
  ·split at fB<;>simp at fB
  ·simp at fB
 ·exact am.elim
def strOf:ae->Option (aq)
 |.x (.one (.str l))=>some l
 |_=>none
def V1{v:ae}{l:aq}(h:strOf v=some l):v=.x (.one (.str l)):=by
 unfold strOf at h;split at h
 ·injection h with h;subst h;rfl
 ·cases h
def ff(P:aM)(s:aj)(t t':aP)(x y:Prop×ae):Prop×aj×ae:=
 match strOf y.2 with
 |some l=>xJ P s t t' x y.1 l
 |none=>wq P s t t' x y
def zfB(af:Rel S0 w0 n s a w){t t' ty:aP}{x y:Prop×ae}{u v:aI}{d:Nat}(aA:S0.m<=d/\d<n)(ai:eu S0 w0 s a w x u)(aU:eu S0 w0 s a w y v)(am:(ff P s t t' x y).1) :
  ∃r w',(Builtin.append_ #[t,t'] ty #[u,v]).run P w=.ok r w'/\Rel S0 w0 n (Ab.put (ff P s t t' x y).2.1 d (ff P s t t' x y).2.2) (a.put (some d) r) w':=by
 unfold ff at am⊢;cases h:strOf y.2 with
 |some l=>rw[h]at am;exact zfA af aA ai aU (V1 h) am
 |none=>rw[h]at am;exact zfy af aA ai aU am
def Hl(P:aM)(src dst:aP)(x:Prop×ae):Prop×ae:=
 match strOf x.2,gM P dst with
 |some l,some (e,_)=>(x.1/\k1 P src=true/\vQ P e=true,.own e 1 (bq l))
 |_,_=>(False,.dead)
def Hm:ae->Bool
 |.own _ _ (_::_)=>true
 |_=>false
def mg(P:aM)(s:aj)(src dst:aP)(x:Prop×ae):Prop×ae:=
 match x.2 with
 |.alias i=>(x.1/\Hm (s i)=true/\src=dst/\vR P dst=true,.alias i)
 |_=>Hl P src dst x
def zfC{w:bb}{e:aP}{size m:Nat}{v:aI}{us:List aI}(h:w.iM 0 e size v m us)(hm:m≠0) :
  ∃g cap w',v=.slice (some ⟨g,0,none⟩) m cap/\(markStringish ⟨g,0,none⟩).run P w=.ok () w'/\w'.iM 0 e size v m us/\w.grownBy w' (some g)/\w'.heap.size=w.heap.size:=by
 obtain⟨al,⟨_,a1⟩|⟨g,cap,bN,rfl,ad,⟨dF,bo,aw⟩,rest⟩⟩:=h
 ·exact absurd a1 hm
 have hf:w.shape? g=some (e,bN.size):=by unfold World.shape?;rw[bo]
 obtain⟨f,aZ,vV⟩:∃f,(w.freeze ⟨g,bN.size,none⟩ 1).heap=w.heap.modify g f/\f (.cells bN e dF)=.cells bN e (if dF.1==dF.2 then (bN.size,bN.size+1)else (min dF.1 bN.size,max dF.2 (bN.size+1))):=by refine⟨fun|.cells c elem (aO,ah)=>.cells c elem (if aO==ah then (bN.size,bN.size+1)else (min aO bN.size,max ah (bN.size+1)))|o=>o,?_,rfl⟩;unfold World.freeze;rw[an (by decide)];rfl
 refine⟨g,cap,w.freeze ⟨g,bN.size,none⟩ 1,rfl,by simp[markStringish,hf],⟨al,.inr ⟨g,cap,bN,rfl,ad,⟨if dF.1==dF.2 then (bN.size,bN.size+1)else (min dF.1 bN.size,max dF.2 (bN.size+1)),?_,?_⟩,rest⟩⟩,⟨rfl,rfl,rfl,by rw[aZ,Array.size_modify];exact f_ _,fun k ak bY=>?_⟩,by rw[aZ,Array.size_modify]⟩
 ·rw[aZ,Of,av rfl,bo,<-vV];rfl
 ·split
  ·exact .inr (f_ _)
  ·rename_i aa;rcases aw with rfl|aw
   ·exact absurd rfl aa
   ·exact .inr (by simp only;omega)
 ·rw[aZ,Of,an (fun e=>bY (by rw[e]))]
def V2(af:Rel S0 w0 n s a w){src dst:aP}{x:Prop×ae}{u:aI}{d:Nat}(aA:S0.m<=d/\d<n)(ai:eu S0 w0 s a w x u)(am:(mg P s src dst x).1) :
  ∃r w',(convert src dst u).run P w=.ok r w'/\Rel S0 w0 n (Ab.put s d (mg P s src dst x).2) (a.put (some d) r) w':=by
 unfold mg at am⊢;split
 ·rename_i i Pi;rw[Pi]at am;obtain⟨aa,a_,rfl,GT⟩:=am;obtain⟨p,x⟩:=x;dsimp only at Pi aa;subst Pi;obtain⟨aF,tl⟩:=ai aa;have ah:=af.rep i;have gY:∃e z x r,s i=.own e z (x::r):=by
   unfold Hm at a_;split at a_
   ·rename_i e z x r h;exact⟨e,z,x,r,h⟩
   ·cases a_
  obtain⟨e,z,x,r,hs⟩:=gY;rw[hs]at ah aF;obtain⟨us,bB,al,ge,hm,cY⟩:=ah;obtain⟨g,cap,w',k_,cP,lG,ay,pf⟩:=zfC (P:=P) bB (by simp);have ew:bl (s i) (aL a i)=some g:=by rw[hs,k_];rfl
  have r':Rel S0 w0 n s a w':=by
   have:=af.write (i:=i) (r:=s i) (b:=g) (w':=w') ew ay pf ew (by rw[hs];rfl) rfl rfl rfl (fun s'=>by
    rw[hs];refine⟨us,lG,al.mono (fun _ h=>h) (fun c ap=>ay.block c ap.2.1 (fun e=>?_)),ge,hm,cY⟩;injection e with e
    subst e;exact ap.2.2 i ew) (fun j o d md ke gD=>by rw[hs]at gD;cases gD)
   rwa[show (fun j=>if j=i then s i else s j)=s from funext fun j=>by split<;>simp_all]at this
  have hu:u=.slice (some ⟨g,0,none⟩) (x::r).length cap:=aF.trans k_;obtain⟨el,aE,aQ⟩:=U1 GT;refine⟨u,w',by rw[hu];simp[convert,run_underlying aE,run_underlying aQ,cP],?_⟩;refine r'.put (r:=.alias i) aA (World.grownBy.refl w' none) (fun j ac=>?_) (show mI S0 w0 s a w' (.alias i) u from ⟨by rw[hs];exact aF,tl⟩) (fun b ad=>by cases ad) (fun b ad=>by cases ad);obtain rfl:i=j:=by simpa[ae.refs]using ac
  exact tl
 rename_i zfD;have am:(Hl P src dst x).1:=by
  revert am;split
  ·rename_i i h;exact absurd h (zfD i)
  ·exact id
 unfold Hl at am⊢;split at am
 ·rename_i l e z al gQ;obtain⟨_,hu,_⟩:=qP gQ;obtain⟨aa,ab,au⟩:=am;obtain⟨p,x⟩:=x;dsimp only at al aa;obtain rfl:=V1 al;obtain⟨rfl,D1⟩:=nt (ai aa);obtain⟨he,_⟩:=J7 au;have cB:(⟨l.toArray⟩:ByteArray).size=l.length:=by simp[ByteArray.size]
  obtain⟨r,w',cP,bB,ay,cv⟩:=zcR (P:=P) w 0 src dst e ⟨l.toArray⟩ (uD ab) hu he (by rw[cB];exact D1) (cj _) none;rw[cB]at bB;refine⟨r,w',cP,?_⟩;refine af.DE aA ay (by rw[GK];exact bB) (Ok _ l) (Ol l) (by rw[GK];exact D1) (fun br cm=>?_);rw[cv]at cm;injection cm with cm;omega
 ·exact am.elim
def xK(P:aM)(s:aj)(t:aP)(m k x:Prop×ae):Prop×aj:=
 match n8 P t,m,k,x with
 |some (cn,_),(p,.alias i),(q,.x cL),(r,.x eL)=>match s i with
  |.mp c bs es=>match fz cn cL es 0 with
   |some f=>(p/\q/\r/\kd cn cL=true,fun j=>if j=i then .mp (ic c bs es cL eL f).1 (ic c bs es cL eL f).2.1 (ic c bs es cL eL f).2.2 else s j)
   |none=>(False,s)
  |.gL b c bs es=>match fz cn cL es 0 with
   |some f=>(p/\q/\r/\kd cn cL=true,fun j=>if j=i then .gL b (ic c bs es cL eL f).1 (ic c bs es cL eL f).2.1 (ic c bs es cL eL f).2.2 else s j)
   |none=>(False,s)
  |_=>(False,s)
 |_,_,_,_=>(False,s)
def V3(g:Nat)(o:Obj):w.grownBy {w with heap:=w.heap.setIfInBounds g o} (some g)/\({w with heap:=w.heap.setIfInBounds g o}:bb).heap.size=w.heap.size:=by refine⟨⟨rfl,rfl,rfl,by simp,fun k _ ak=>?_⟩,by simp⟩;exact N5 (fun e=>ak (by rw[e]))
def zfE(af:Rel S0 w0 n s a w){t:aP}{m k x:Prop×ae}{D2 lD bP:aI}(hm:eu S0 w0 s a w m D2)(ak:eu S0 w0 s a w k lD)(ai:eu S0 w0 s a w x bP)(am:(xK P s t m k x).1) :
  ∃w',(Instr.mapUpdate t D2 lD bP).run P w=.ok () w'/\Rel S0 w0 n (xK P s t m k x).2 a w':=by
 obtain⟨p,m⟩:=m;obtain⟨q,k⟩:=k;obtain⟨r,x⟩:=x;unfold xK at am⊢;split at am
 ·rename_i cn e kz i eI cL cD eL cp ax aK cd;injection ax with rV rW;subst rV;subst rW
  injection aK with pS pT;subst pS;subst pT
  injection cd with zfF zfG;subst zfF;subst zfG
  split at am
  ·rename_i c bs es hs;split at am
   ·rename_i f aw;obtain⟨aa,ab,au,aN⟩:=am;obtain⟨ga,hu,GM⟩:=J2 cp;obtain⟨rfl,_⟩:=dp.JT (hm aa) hs;have ac:=af.rep i;rw[hs]at ac;obtain⟨b,ents,aF,bo,bk,he⟩:=ac;rw[aF];obtain⟨vY,c',cP,k9,Hn⟩:=UJ (P:=P) hu GM bo he (ak ab) aN (ai au) aw;refine⟨_,cP,?_⟩;subst k9;have ar:b<w.heap.size:=(jb.1 bo).1;obtain⟨ay,pf⟩:=V3 (w:=w) b (.map vY (ic c bs es cL eL f).1);refine af.write (r:=.mp (ic c bs es cL eL f).1 (ic c bs es cL eL f).2.1 (ic c bs es cL eL f).2.2) (b:=b) (by rw[hs,aF];rfl) ay pf (by rw[aF];rfl) rfl (by rw[hs];rfl) (by rw[hs];rfl) (by rw[hs];rfl) (fun s'=>?_) (fun j o d md ke gD=>by rw[hs]at gD;cases gD);have kD:∀z,bO S0 w0.heap.size w s (aL a) z->({w with heap:=w.heap.setIfInBounds b (.map vY (ic c bs es cL eL f).1)}:bb).heap[z]?=w.heap[z]?:=by
     intro z aZ;refine ay.block z aZ.2.1 (fun e=>?_);injection e with e
     subst e;exact aZ.2.2 i (by rw[hs,aF];rfl)
    exact⟨b,vY,aF,by simp[ar],bk,Hn.mono (fun _ h=>h) kD⟩
   ·exact am.elim
  ·rename_i b c bs es hs;split at am
   ·rename_i f aw;obtain⟨aa,ab,au,aN⟩:=am;obtain⟨ga,hu,GM⟩:=J2 cp;obtain⟨mS,_⟩:=hm aa;rw[hs]at mS;have mS:D2=.map (some b):=mS;subst mS;have ac:=af.rep i;rw[hs]at ac;obtain⟨ents,bo,bk,he⟩:=ac;obtain⟨vY,c',cP,k9,Hn⟩:=UJ (P:=P) hu GM bo he (ak ab) aN (ai au) aw;refine⟨_,cP,?_⟩;subst k9;have ar:b<w.heap.size:=(jb.1 bo).1;obtain⟨ay,pf⟩:=V3 (w:=w) b (.map vY (ic c bs es cL eL f).1);refine af.write (r:=.gL b (ic c bs es cL eL f).1 (ic c bs es cL eL f).2.1 (ic c bs es cL eL f).2.2) (b:=b) (by rw[hs];rfl) ay pf rfl rfl (by rw[hs];rfl) (by rw[hs];rfl) (by rw[hs];rfl) (fun s'=>?_) (fun j o d md ke gD=>by rw[hs]at gD;cases gD);have kD:∀z,bO S0 w0.heap.size w s (aL a) z->({w with heap:=w.heap.setIfInBounds b (.map vY (ic c bs es cL eL f).1)}:bb).heap[z]?=w.heap[z]?:=by
     intro z aZ;refine ay.block z aZ.2.1 (fun e=>?_);injection e with e
     subst e;exact aZ.2.2 i (by rw[hs];rfl)
    exact⟨vY,by simp[ar],bk,Hn.mono (fun _ h=>h) kD⟩
   ·exact am.elim
  ·exact am.elim
 ·exact am.elim
def Bo(P:aM)(s:aj)(t:aP)(x:Prop×ae):Prop×aj:=
 match jy P t,x with
 |some (_,size,d'),(p,.view i aO len _)=>match s i with
  |.own e fe xs=>(p/\fe=size,fun j=>if j=i then .own e fe (xs.take aO++List.replicate len d'++xs.drop (aO+len))else s j)
  |_=>(False,s)
 |_,_=>(False,s)
def zfH(af:Rel S0 w0 n s a w){t ty:aP}{x:Prop×ae}{u:aI}(ai:eu S0 w0 s a w x u)(am:(Bo P s t x).1) :
  ∃r w',(Builtin.clear_ #[t] ty #[u]).run P w=.ok r w'/\Rel S0 w0 n (Bo P s t x).2 a w':=by
 obtain⟨p,x⟩:=x;unfold Bo at am⊢;split at am
 ·rename_i cC size d' kz i aO len wh cp aK;injection aK with pS pT;subst pS;subst pT
  split at am
  ·rename_i e fe xs hs;obtain⟨aa,rfl⟩:=am;obtain⟨tl,cG,aF⟩:=ai aa;rw[hs]at cG;have pV:aO+len<=xs.length:=cG;have ah:=af.rep i;rw[hs]at ah;obtain⟨us,bB,al,ge,hm,cY⟩:=ah;obtain⟨it,z,hu,hit,cB,je,ti,b8,iS⟩:=G0 (w:=w) cp;have rO:z.cells.size=fe:=by have:=(b8 (fun _=>True)).1;rw[iS]at this;simpa using this
   by_cases a1:len=0
   ·subst a1;have kD:(fun j=>if j=i then ae.own e fe (xs.take aO++List.replicate 0 d'++xs.drop (aO+0))else s j)=s:=by
     funext j;split
     ·rename_i ac;subst ac;rw[hs];simp
     ·rfl
    rw[kD];rcases aF with⟨rfl,_⟩|⟨b,off,cap,rfl,_⟩
    ·exact⟨.tuple #[],w,by simp[Builtin.clear_,run_underlying hu],af⟩
    ·exact⟨.tuple #[],w,by simp[Builtin.clear_,run_underlying hu],af⟩
   ·rcases aF with⟨_,h⟩|⟨b,off,cap,rfl,ap,ht,ak,aZ,_⟩
    ·exact absurd h a1
    ·have lE:=aZ (by omega);rw[hs]at ak lE;have OG:off=aO*fe:=lE;subst OG;rcases bB.2 with⟨pX,_⟩|⟨g,OI,bN,aF,oZ,⟨dF,bo,kb⟩,rP,zfI,eD,gy⟩
     ·rw[pX]at ak;simp[bl,Value.ownBlock]at ak
     ·have ew:bl (ae.own e fe xs) (aL a i)=some g:=by rw[aF];rfl
      rw[ew]at ak;injection ak with ak
      subst ak;have V4:=Kl (b8 (bO S0 w0.heap.size w s (aL a))) len;have Ho:(Builtin.zeroCells z.cells len).toList.length=len*fe:=by simp[size_zeroCells,rO]
      have hmul:aO*fe+len*fe<=xs.length*fe:=by rw[<-l3];exact yX _ pV
      have hA:xs.length*fe<=OI*fe:=yX _ rP;have cu:=De P g (aO*fe) e dF (Builtin.zeroCells z.cells len).toList 0 bN w bo kb (by rw[Ho];omega) (cO.zd V4);simp only[xg]at cu;have qb:bN.toList.take (aO*fe)++(Builtin.zeroCells z.cells len).toList++bN.toList.drop (aO*fe+(Builtin.zeroCells z.cells len).toList.length)=cZ bN.toList (aO*fe) (Builtin.zeroCells z.cells len).toList:=rfl;rw[qb]at cu;obtain⟨o7,rfl⟩:∃k,len=k+1:=⟨len-1,by omega⟩
      refine⟨.tuple #[],w.setRow g (cZ bN.toList (aO*fe) (Builtin.zeroCells z.cells (o7+1)).toList).toArray,by simp[Builtin.clear_,run_underlying hu,ti,cu],?_⟩;obtain⟨ay,pf⟩:=DW (w:=w) g (cZ bN.toList (aO*fe) (Builtin.zeroCells z.cells (o7+1)).toList).toArray;have ma:(xs.take aO++List.replicate (o7+1) d'++xs.drop (aO+(o7+1))).length=xs.length:=by simp;omega
      refine af.write (r:=.own e fe (xs.take aO++List.replicate (o7+1) d'++xs.drop (aO+(o7+1)))) (b:=g) (by rw[hs];exact ew) ay pf (by rw[aF];rfl) rfl (by rw[hs];rfl) (by rw[hs];exact ma) (by rw[hs];rfl) (fun s'=>?_) (fun j o d md ke gD=>by rw[hs]at gD;cases gD);have kD:∀c,bO S0 w0.heap.size w s (aL a) c->(w.setRow g (cZ bN.toList (aO*fe) (Builtin.zeroCells z.cells (o7+1)).toList).toArray).heap[c]?=w.heap[c]?:=by
       intro c ap;refine ay.block c ap.2.1 (fun e=>?_);injection e with e
       subst e;exact ap.2.2 i (by rw[hs];exact ew)
      have O_:∀x∈xs.take aO++List.replicate (o7+1) d'++xs.drop (aO+(o7+1)),x.length=fe:=by
       intro x ai;rcases hg.1 ai with ai|ai
       ·rcases hg.1 ai with ai|ai
        ·exact ge x (v7 ai)
        ·rw[G2 ai,iS]
       ·exact ge x (vZ ai)
      have gB:(List.replicate (o7+1) d').flatten.length=(o7+1)*fe:=by rw[y8 (size:=fe) (fun x ai=>by rw[G2 ai,iS])];simp
      have G9:(xs.take aO++List.replicate (o7+1) d'++xs.drop (aO+(o7+1))).flatten=cZ xs.flatten (aO*fe) (List.replicate (o7+1) d').flatten:=by rw[KL,KL,Dz ge,GJ ge];unfold cZ;rw[gB,l3]
      refine⟨cZ us (aO*fe) (Builtin.zeroCells z.cells (o7+1)).toList,⟨?_,.inr ⟨g,OI,_,by rw[ma];exact aF,oZ,⟨dF,setRow_heap w g bN _ e _ bo,by rw[n3,xt _ _ _ (by rw[Ho];simp[eD];omega),l4];exact kb⟩,by rw[ma];exact rP,zfI,?_,?_⟩⟩,?_,O_,by rw[ma];exact hm,cY⟩
      ·have k3:us.length=xs.length*fe:=bB.1;rw[xt _ _ _ (by rw[Ho,k3];omega),ma];exact k3
      ·simp only[n3];rw[xt _ _ _ (by rw[Ho];simp[eD];omega)];simpa using eD
      ·rw[ma,<-gy];exact VF _ _ _ _ (by rw[Ho];omega) (by simp[eD];omega)
      ·rw[G9];exact(al.cZ V4 _).mono (fun _ h=>h) kD
  ·exact am.elim
 ·exact am.elim
def Rel.zfJ{d:Nat}(af:Rel S0 w0 n s a w)(aA:S0.m<=d/\d<n):Rel S0 w0 n (Ab.put s d (.mp 0 [] [])) (a.put (some d) (.map (some w.heap.size))) (w.alloc (.map #[] 0)):=by
 have he:∀(w':bb) (S:Nat->Prop),s7 w' S [] [] (#[]:Array MapEntry).toList:=fun _ _=>⟨rfl,rfl,fun j x ac=>by simp at ac⟩
 refine af.put aA (World.grownBy_alloc w _ none) (fun j h=>by cases h) ⟨_,#[],rfl,heap_alloc_new w _,.inl af.below.size,he _ _⟩ ?_ ?_
 ·intro b ad;have:w.heap.size=b:=by simpa[bl]using ad
  omega
 ·intro b ew;have:w.heap.size=b:=by simpa[bl]using ew
  subst this;exact⟨_,#[],rfl,heap_alloc_new w _,.inl af.below.size,he _ _⟩
def KM(p q:Prop)(n m:Int)(e:aP)(size:Nat)(z:List ag):Option Nat->Prop×ae
 |some b=>(p/\q/\0<=n/\m=n/\(b:Int)*n<=281474976710656/\n.toNat*size<=16777216,.own e size (List.replicate n.toNat z))
 |none=>(False,.dead)
def KN(P:aM)(p q:Prop)(n m:Int):Option (aP×Nat×List ag)->Prop×ae
 |some (e,size,z)=>KM p q n m e size z (nB P e)
 |none=>(False,.dead)
def xL(P:aM)(t:aP)(l c:Prop×ae):Prop×ae:=
 match l,c with
 |(p,.x (.one (.int _ n))),(q,.x (.one (.int _ m)))=>KN P p q n m (jy P t)
 |_,_=>(False,.dead)
def zfK{l c:aW}{t:aP}{d:Nat}{x y:Prop×ae}(af:Rel S0 w0 n s a w)(ai:eu S0 w0 s a w x (a.eval l))(aU:eu S0 w0 s a w y (a.eval c))(aA:S0.m<=d/\d<n)(am:(xL P t x y).1) :
  ∃v w',(Instr.makeSlice t (a.eval l) (a.eval c)).run P w=.ok v w'/\Rel S0 w0 n (Ab.put s d (xL P t x y).2) (a.put (some d) v) w':=by
 unfold xL at am⊢;split at am
 ·rename_i p k N q cq M;unfold KN at am⊢;split at am
  ·rename_i e size d' cp;unfold KM at am⊢;split at am;rotate_left
   ·exact am.elim
   rename_i zfL Bp;obtain⟨jf,jU,a1,rfl,ut,zex⟩:=am;have ai:=ai jf;have aU:=aU jU;obtain⟨i,z,hu,ah,hs,je,aZ,ti,iS⟩:=G0 (w:=w) cp;have G1:z.cells.size=size:=by have:=(ti (fun _=>True)).1;rw[iS]at this;simpa using this
   have b8:=Kl (ti (bO S0 w0.heap.size w s (aL a))) M.toNat;rw[G1]at b8;have ge:∀x∈List.replicate M.toNat d',x.length=size:=fun x ai=>by rw[G2 ai,iS]
   have hA:M.toNat<=maxLen:=by have:M.toNat*1<=M.toNat*size:=Nat.mul_le_mul_left _ je;simp only[maxLen];omega
   have zx:i.zero=some z:=by
    cases KK:i.zero with
    |none=>simp[zeroValue,typeInfo,ah,KK,Sem.run_bind]at aZ
    |some kA=>
     have:(zeroValue e).run P w=.ok kA w:=by simp[zeroValue,typeInfo,ah,KK]
     rw[this]at aZ;injection aZ with aZ
     rw[aZ]
   have zfM:i.bytes=zfL:=by unfold nB at Bp;rw[ah]at Bp;simpa using Bp
   have ao:=run_make (P:=P) w t e i z hu ah zx k cq M M a1 (Int.le_refl _) (by rw[zfM];exact ut) (by simp only[maxLen]at hA;omega);have zfN:a.eval l=.int k M:=by generalize a.eval l=zfO at ai;cases ai;rfl
   have zfP:a.eval c=.int cq M:=by generalize a.eval c=zfO at aU;cases aU;rfl
   rw[zfN,zfP];refine⟨_,_,ao,?_⟩;rw[hs];refine af.DE aA (World.grownBy_alloc w _ none) (us:=(madeCells z.cells (M.toNat*size)).toList) ⟨by simp[size_madeCells],.inr ⟨w.heap.size,M.toNat,_,by simp,cj _,⟨_,heap_alloc_new w _,.inl rfl⟩,by simp,hA,by simp[size_madeCells],?_⟩⟩ (by unfold madeCells;rw[G1];exact b8) ge (by simpa using hA) ?_
   ·rw[k4 (by simp[size_madeCells])]
   ·intro b ad;have:w.heap.size=b:=by simpa[Value.ownBlock]using ad
    omega
  ·exact am.elim
 ·exact am.elim
def zfQ{P:aM}{t:aP}{x y:Prop×ae}(j:Nat):(xL P t x y).2.refs j=false:=by
 unfold xL;split
 ·unfold KN;split
  ·unfold KM;split<;>rfl
  ·rfl
 ·rfl
end
end
end Go.Ab
