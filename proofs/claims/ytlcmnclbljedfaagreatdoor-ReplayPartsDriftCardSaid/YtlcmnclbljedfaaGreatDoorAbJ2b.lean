/- A part of the proof: lemmas and contracts of functions. -/
import Derived.Test.YtlcmnclbljedfaaGreatDoorAbJ2
set_option linter.all false
namespace Go.Ab
open Go Go.RowKit
variable [Amb]
def AV.bare:AV→Bool
 |.x _=>true
 |.box _=>true
 |.own _ _ _=>true
 |.mp _ _ _=>true
 |.gbox _ _=>true
 |.gown _ _ _ _=>true
 |.dead=>true
 |_=>false
theorem AV.zms{a:AV}(h:a.bare=true)(j:Nat):a.refs j=false:=by
 cases a<;>first | rfl | (simp[AV.bare] at h)
theorem zaQ.bare{w:World}{S S' O O':Nat→Prop}{s s':St}{tm tm':Nat→Value}{a:AV}{v:Value}(h:zaQ w S O s tm a v)(hb:a.bare=true)(hS:∀b,S b→S' b)(hO:∀b,zaf a v=some b→O b→O' b):zaQ w S' O' s' tm' a v:=by
 cases a with
 |dead=>trivial
 |x xv=>exact zbL.mono h hS (fun _ _=>rfl)
 |box cs =>
  obtain⟨b,arr,t,rfl,hh,hl,hB⟩:=h
  exact⟨b,arr,t,rfl,hh,hl.mono hS (fun _ _=>rfl),hO b rfl hB⟩
 |own e size xs =>
  obtain⟨us,hown,hl,hx,hm,hB⟩:=h
  exact⟨us,hown,hl.mono hS (fun _ _=>rfl),hx,hm,fun b hb=>hO b hb (hB b hb)⟩
 |mp c bs es =>
  obtain⟨b,ents,rfl,hh,hB,he⟩:=h
  exact⟨b,ents,rfl,hh,hO b rfl hB,he.mono hS (fun _ _=>rfl)⟩
 |gbox b cs =>
  obtain⟨arr,t,hh,hl,hB⟩:=h
  exact⟨arr,t,hh,hl.mono hS (fun _ _=>rfl),hO b rfl hB⟩
 |gown g e size xs =>
  obtain⟨us,hown,hl,hx,hm,hB⟩:=h
  exact⟨us,hown,hl.mono hS (fun _ _=>rfl),hx,hm,fun b hb=>hO b hb (hB b hb)⟩
 |_=>simp[AV.bare] at hb
abbrev zkd:St:=fun _=>.dead
abbrev zDA:Nat→Value:=fun _=>undef
def zbo(args:List AV):St:=fun i=>(args[i]?).getD .dead
def tmV(vs:Array Value):Nat→Value:=fun j=>(vs[j]?).getD undef
theorem zc7{vs:Array Value}{j:Nat}{u:Value}(h:vs[j]?=some u):tmV vs j=u:=by unfold tmV;rw[h];rfl
def zjc(args:List AV):AV→Bool
 |.ptr2 i _=>(zbo args i).zaa
 |.cloR _ caps=>caps.all fun c=>match c with
  |.inl _=>true
  |.inr p=>(zbo args p.1).zaa
 |a=>a.bare
theorem zuB{args:List AV}{a:AV}(h:a.bare=true):zjc args a=true:=by
 cases a<;>first | exact h | (simp[AV.bare] at h)
theorem zn9{args:List AV}{a:AV}(h:zjc args a=true){j:Nat}(hr:a.refs j=true):(zbo args j).zaa=true:=by
 cases a<;>first | (simp[AV.refs] at hr;done) | (simp[zjc,AV.bare] at h;done) | skip
 ·rename_i f caps
  simp only[AV.refs] at hr
  obtain⟨c,hc,hd⟩:=List.any_eq_true.1 hr
  simp only[zjc] at h
  have:=List.all_eq_true.1 h c hc
  cases c with
  |inl c=>cases hd
  |inr p =>
   obtain rfl:p.1=j:=by simpa[zcK] using hd
   exact this
 ·rename_i i off
  obtain rfl:i=j:=by simpa[AV.refs] using hr
  exact h
theorem ziY.mono'{w:World}{S S':Nat→Prop}{s:St}{tm:Nat→Value}{c:CV ⊕ (Nat×Nat)}{u:Value}(h:ziY w S s tm c u)(hS:∀b,S b→S' b):ziY w S' s tm c u:=by
 cases c with
 |inl c=>exact zaH.mono h hS (fun _ _=>rfl)
 |inr p =>
  rw[zbF] at h ⊢
  split at h
  ·rename_i hi;rw[if_pos hi];exact h
  ·rename_i hi;rw[if_neg hi];exact h.mono hS (fun _ _=>rfl) (fun _ h=>h)
theorem zaQ.zjc{w:World}{S S' O O':Nat→Prop}{s:St}{tm:Nat→Value}{args:List AV}{a:AV}{v:Value}(h:zaQ w S O s tm a v)(ha:Ab.zjc args a=true)(hS:∀b,S b→S' b)(hO:∀b,zaf a v=some b→O b→O' b):zaQ w S' O' s tm a v:=by
 cases hb:a.bare with
 |true=>exact h.bare hb hS hO
 |false =>
  cases a<;>first | (simp[AV.bare] at hb;done) | (simp[Ab.zjc,AV.bare] at ha;done) | skip
  ·obtain⟨us,hv,hl,hc⟩:=h
   exact⟨us,hv,hl,fun j c hj=>let ⟨u,hu,hr⟩:=hc j c hj;⟨u,hu,hr.mono' hS⟩⟩
  ·exact Ind.mono h hS (fun _ _=>rfl) (fun _ h=>h)
structure zut(w:World)(E:Env)(args:List AV)(vs:Array Value):Prop where
 size:vs.size≤args.length
 rep:∀(j:Nat) (a:AV),args[j]?=some a→zjc args a=true∧zaQ w E.rd E.lent (zbo args) (tmV vs) a (tmV vs j)
 inj:∀(i j:Nat) (x y:AV) (b:Nat),args[i]?=some x→zaf x (tmV vs i)=some b→args[j]?=some y→zaf y (tmV vs j)=some b→i=j
 all:∀b,E.lent b→∃(j:Nat) (x:AV),args[j]?=some x∧zaf x (tmV vs j)=some b
def zlL(outs:List AV)(vs:Array Value)(b:Nat):Prop:=∃(j:Nat) (o:AV),outs[j]?=some o∧zaf o (tmV vs j)=some b
def After(w w':World)(E:Env)(outs:List AV)(vs:Array Value):Nat→Prop:=
 fun b=>(E.rd b∨E.lent b∨(w.heap.size≤b∧b<w'.heap.size))∧¬zlL outs vs b
def zau:AV→AV→Bool
 |.x _,.dead=>true
 |.box _,.box _=>true
 |.box _,.dead=>true
 |.own _ _ _,.own _ _ _=>true
 |.own _ _ _,.x _=>true
 |.own _ _ _,.dead=>true
 |.mp _ _ _,.mp _ _ _=>true
 |.mp _ _ _,.dead=>true
 |.gbox b _,.gbox b' _=>b==b'
 |.gbox _ _,.dead=>true
 |.cloR _ _,.dead=>true
 |.ptr2 _ _,.dead=>true
 |_,_=>false
def zaU:List AV→List AV→Bool
 |[],[]=>true
 |a::r,o::q=>zau a o&&zaU r q
 |_,_=>false
def zbI:AV→AV→Bool
 |.own _ _ _,.gown _ _ _ _=>true
 |.gown _ _ _ _,.gown _ _ _ _=>true
 |a,o=>zau a o
theorem zfX{a o:AV}(h:zau a o=true):zbI a o=true:=by
 cases a<;>cases o<;>first | rfl | exact h
theorem zbe:∀{args outs:List AV},zaU args outs=true→args.length=outs.length∧∀(j:Nat) (a o:AV),args[j]?=some a→outs[j]?=some o→zau a o=true
 |[],[],_=>⟨rfl,fun j a o h=>by simp at h⟩
 |a::r,o::q,h=>by
  simp only[zaU,Bool.and_eq_true] at h
  obtain⟨h1,h2⟩:=zbe h.2
  refine⟨by simp[h1],fun j a' o' ha ho=>?_⟩
  cases j with
  |zero=>simp at ha ho;subst ha;subst ho;exact h.1
  |succ j=>simp at ha ho;exact h2 j a' o' ha ho
def zat(P:Program)(f:FuncId)(args:List AV)(r:RV)(outs:List AV):Prop:=
 zea P f∧zaU args outs=true∧∀(w:World) (E:Env) (vs:Array Value),Base E w→zut w E args vs →
  Calls P f vs w fun e w'=>∃v,e=.returned v∧Kept E.lent w w'∧zkq w' (After w w' E outs vs) r v∧(∀b,r.blk v=some b→After w w' E outs vs b∧¬E.rd b) ∧
   ∀(j:Nat) (o:AV),outs[j]?=some o→zaQ w' (fun b=>After w w' E outs vs b∧r.blk v≠some b) E.lent zkd zDA o (tmV vs j)
theorem zwj{a o:AV}{u:Value}{b:Nat}{w:World}{S O:Nat→Prop}{s:St}{tm:Nat→Value}(hf:zau a o=true)(hr:zaQ w S O s tm a u)(h:zaf o u=some b):zaf a u=some b:=by
 cases a with
 |box cs=>cases o with
  |box cs'=>obtain⟨b',arr,t,rfl,_⟩:=hr;exact h
  |dead=>cases h
  |_=>simp[zau] at hf
 |mp c bs es=>cases o with
  |mp c' bs' es'=>obtain⟨b',ents,rfl,_⟩:=hr;exact h
  |dead=>cases h
  |_=>simp[zau] at hf
 |own e z xs=>cases o with
  |own e' z' xs'=>exact h
  |dead=>cases h
  |x v=>cases h
  |_=>simp[zau] at hf
 |gbox b1 cs=>cases o with
  |gbox b2 cs'=>obtain rfl:b1=b2:=by simpa[zau] using hf
                exact h
  |dead=>cases h
  |_=>simp[zau] at hf
 |_=>cases o<;>first | (simp[zau] at hf;done) | (cases h)
theorem zxp{a o:AV}{u:Value}{b:Nat}{w:World}{S O:Nat→Prop}{s:St}{tm:Nat→Value}(hf:zau a o=true)(ho:o.zaa=true)(hr:zaQ w S O s tm a u)(h:zaf a u=some b):zaf o u=some b:=by
 cases a with
 |box cs=>cases o with
  |box cs'=>obtain⟨b',arr,t,rfl,_⟩:=hr;exact h
  |dead=>cases ho
  |_=>simp[zau] at hf
 |mp c bs es=>cases o with
  |mp c' bs' es'=>obtain⟨b',ents,rfl,_⟩:=hr;exact h
  |dead=>cases ho
  |_=>simp[zau] at hf
 |own e z xs=>cases o with
  |own e' z' xs'=>exact h
  |dead=>cases ho
  |x v=>cases ho
  |_=>simp[zau] at hf
 |gbox b1 cs=>cases o with
  |gbox b2 cs'=>obtain rfl:b1=b2:=by simpa[zau] using hf
                exact h
  |dead=>cases ho
  |_=>simp[zau] at hf
 |_=>cases o<;>first | (simp[zau] at hf;done) | (cases ho)
theorem zns{a o:AV}(hn:∀g e z xs,o≠.gown g e z xs)(h:zbI a o=true):zau a o=true:=by
 cases o<;>first | (cases a<;>exact h) | exact absurd rfl (hn _ _ _ _)
theorem zHM{a o:AV}{u:Value}{b:Nat}{w:World}{S O:Nat→Prop}{s:St}{tm:Nat→Value}(hf:zbI a o=true)(ho:o.zaa=true)(hv:o.valOf=a.valOf)(hr:zaQ w S O s tm a u)(h:zaf a u=some b):zaf o u=some b:=by
 cases a with
 |own e z xs=>cases o with
  |gown g e' z' xs' =>
   have h1:g=Value.bool true:=congrFun hv (.bool true)
   have h2:g=Value.bool false:=congrFun hv (.bool false)
   rw[h1] at h2;cases h2
  |_=>exact zxp (a:=.own e z xs) (zns (by rintro _ _ _ _ ⟨⟩) hf) ho hr h
 |gown g e z xs=>cases o with
  |gown g' e' z' xs' =>
   have h1:g'=g:=congrFun hv undef
   rw[h1];exact h
  |_=>exact zxp (a:=.gown g e z xs) (zns (by rintro _ _ _ _ ⟨⟩) hf) ho hr h
 |_ =>
  refine zxp ?_ ho hr h
  cases o<;>first | exact hf | skip
section
variable {P:Program}{S0:Env}{w0 w:World}{n:Nat}{s:St}{a:Act}
def zvs(s:St)(x:Operand):Prop×Option (AV×Option Nat):=
 match sv s x with
 |(p,.x xv)=>(p,some (.x xv,none))
 |(p,.alias i)=>match s i with
  |.own e z xs=>(p,some (.own e z xs,some i))
  |.mp c bs es=>(p,some (.mp c bs es,some i))
  |_=>(False,none)
 |(p,.ptr i 0)=>match s i with
  |.box cs=>(p,some (.box cs,some i))
  |_=>(False,none)
 |(p,.cloR f caps)=>(p,some (.cloR f caps,none))
 |(p,.ptr2 i off)=>(p,some (.ptr2 i off,none))
 |_=>(False,none)
def zeE(s:St):List Operand→Prop×Option (List (AV×Option Nat))
 |[]=>(True,some [])
 |x::r=>match zvs s x,zeE s r with
  |(p,some v),(q,some vs)=>(p∧q,some (v::vs))
  |_,_=>(False,none)
def zwD(s:St):CV ⊕ (Nat×Nat)→Option (AV×Option Nat)
 |.inl c=>some (.x (.one c),none)
 |.inr (i,0)=>match s i with
  |.box cs=>some (.box cs,some i)
  |_=>none
 |.inr (i,off)=>bif decide (1000000≤off) then some (.ptr2 i (off-1000000),none) else none
def ze4(s:St):List (CV ⊕ (Nat×Nat))→Option (List (AV×Option Nat))
 |[]=>some []
 |c::r=>match zwD s c,ze4 s r with
  |some x,some xs=>some (x::xs)
  |_,_=>none
def fnM(s:St):AV→Option (FuncId×List (AV×Option Nat))
 |.cloR f caps=>(ze4 s caps).map fun xs=>(f,xs)
 |a=>(zkD a).map fun p=>(p.1,p.2.map fun x=>(.x x,none))
def zaZ(s:St)(f:Operand)(args:List Operand):Prop×Option (FuncId×List (AV×Option Nat)):=
 match sv s f,zeE s args with
 |(p,a),(q,some xs)=>match fnM s a with
  |some (g,caps)=>(p∧q,some (g,xs++caps))
  |none=>(False,none)
 |_,_=>(False,none)
def zht(s:St)(i:Nat)(o:AV):St:=
 match o with
 |.box _=>fun j=>if j=i then o else s j
 |.mp _ _ _=>fun j=>if j=i then o else s j
 |_=>fun j=>if j=i then o else if (s j).refs i then .dead else s j
def zaI(s:St):List (AV×Option Nat)→List AV→St
 |(_,some i)::l,o::outs=>zaI (zht s i o) l outs
 |(_,none)::l,_::outs=>zaI s l outs
 |_,_=>s
def slotsOf(l:List (AV×Option Nat)):List Nat:=l.filterMap (·.2)
def zfM(xs:List (AV×Option Nat)):Bool:=xs.all fun y=>y.1.told
theorem zta{cs:List CV}(h:(AV.box cs).told=true){j:Nat}(hj:cs[j]?=some .any):False:=by
 simp only[AV.told,Bool.not_eq_true'] at h
 rw[List.any_eq_false] at h
 exact h _ (List.mem_of_getElem? hj) rfl
theorem zv1{x:AV}{cs:List CV}(hx:x.zfQ=some cs)(h:x.told=true){j:Nat}(hj:cs[j]?=some .any):False:=by
 cases x with
 |box c =>
  obtain rfl:c=cs:=by simpa[AV.zfQ] using hx
  exact zta h hj
 |gbox b c =>
  obtain rfl:c=cs:=by simpa[AV.zfQ] using hx
  exact zta (cs:=c) h hj
 |_=>cases hx
def AV.zUN:AV→Bool
 |.cloR _ _=>true
 |.ptr2 _ _=>true
 |_=>false
def zjk(S0:Env)(w0:World)(s:St)(a:Act)(w:World)(x:AV×Option Nat)(u:Value):Prop:=
 match x.2 with
 |none=>((∃xv,x.1=.x xv)∨x.1.zUN=true)∧zgd S0 w0 s a w x.1 u
 |some i=>s i=x.1∧x.1.bare=true∧x.1.zaa=true∧u=zai a i
theorem zIL(hR:Rel S0 w0 n s a w){x:Operand}{p:Prop}{y:AV×Option Nat}(h:zvs s x=(p,some y))(hp:p):zjk S0 w0 s a w y (a.eval x):=by
 have hsv:=hR.sv x
 unfold zvs at h
 split at h
 ·rename_i q xv e
  simp only[Prod.mk.injEq,Option.some.injEq] at h
  obtain⟨rfl,rfl⟩:=h
  rw[e] at hsv
  exact⟨.inl ⟨xv,rfl⟩,hsv hp⟩
 ·rename_i q i e
  rw[e] at hsv
  split at h
  ·rename_i hs
   simp only[Prod.mk.injEq,Option.some.injEq] at h
   obtain⟨rfl,rfl⟩:=h
   exact⟨hs,rfl,rfl,(zaQ.zdO (hsv hp) hs).1⟩
  ·rename_i hs
   simp only[Prod.mk.injEq,Option.some.injEq] at h
   obtain⟨rfl,rfl⟩:=h
   exact⟨hs,rfl,rfl,(zaQ.zk1 (hsv hp) hs).1⟩
  ·simp at h
 ·rename_i q i e
  rw[e] at hsv
  split at h
  ·rename_i cs hs
   simp only[Prod.mk.injEq,Option.some.injEq] at h
   obtain⟨rfl,rfl⟩:=h
   obtain⟨b,hv,hk⟩:=hsv hp
   have hi:=hR.rep i
   rw[hs] at hi hk
   obtain⟨b',arr,t,hv',_⟩:=hi
   rw[hv'] at hk
   obtain rfl:b'=b:=by simpa[zaf] using hk
   exact⟨hs,rfl,rfl,by rw[hv,hv']⟩
  ·simp at h
 ·rename_i q f caps e
  simp only[Prod.mk.injEq,Option.some.injEq] at h
  obtain⟨rfl,rfl⟩:=h
  rw[e] at hsv
  exact⟨.inr rfl,hsv hp⟩
 ·rename_i q i off e
  simp only[Prod.mk.injEq,Option.some.injEq] at h
  obtain⟨rfl,rfl⟩:=h
  rw[e] at hsv
  exact⟨.inr rfl,hsv hp⟩
 ·simp at h
theorem zsX(hR:Rel S0 w0 n s a w):∀{args:List Operand} {p:Prop} {ys:List (AV×Option Nat)},zeE s args=(p,some ys)→p→ys.length=args.length∧∀(j:Nat) (y:AV×Option Nat),ys[j]?=some y→∃u,(args.map a.eval)[j]?=some u∧zjk S0 w0 s a w y u:=by
 intro args
 induction args with
 |nil =>
  intro p ys h _
  simp only[zeE,Prod.mk.injEq,Option.some.injEq] at h
  obtain⟨_,rfl⟩:=h
  exact⟨rfl,fun j y hj=>by simp at hj⟩
 |cons x r ih =>
  intro p ys h hp
  simp only[zeE] at h
  split at h
  ·rename_i q v q' vs e1 e2
   simp only[Prod.mk.injEq,Option.some.injEq] at h
   obtain⟨rfl,rfl⟩:=h
   obtain⟨h1,h2⟩:=ih e2 hp.2
   refine⟨by simp[h1],fun j y hj=>?_⟩
   cases j with
   |zero=>simp at hj;subst hj;exact⟨_,rfl,zIL hR e1 hp.1⟩
   |succ j=>simp at hj;simpa using h2 j y hj
  ·simp at h
theorem ztp:∀{caps:List (CV ⊕ (Nat×Nat))} {us:List Value} {ys:List (AV×Option Nat)},Rel S0 w0 n s a w→us.length=caps.length →
  (∀(j:Nat) (c:CV ⊕ (Nat×Nat)),caps[j]?=some c→∃u,us[j]?=some u∧ziY w (Shared S0 w0.heap.size w s (zai a)) s (zai a) c u)→ze4 s caps=some ys→ys.length=us.length∧∀(j:Nat) (y:AV×Option Nat),ys[j]?=some y→∃u,us[j]?=some u∧zjk S0 w0 s a w y u
 |[],us,ys,_,hl,_,h=>by
  simp only[ze4,Option.some.injEq] at h
  subst h
  exact⟨by simpa using hl.symm,fun j y hj=>by simp at hj⟩
 |c::caps,us,ys,hR,hl,hc,h=>by
  cases us with
  |nil=>simp at hl
  |cons u us =>
   simp only[ze4] at h
   split at h
   ·rename_i x xs e1 e2
    injection h with h
    subst h
    obtain⟨h1,h2⟩:=ztp (us:=us) hR (by simpa using hl) (fun j c hj=>by simpa using hc (j+1) c (by simpa using hj)) e2
    refine⟨by simp[h1],fun j y hj=>?_⟩
    cases j with
    |succ j=>simp at hj;simpa using h2 j y hj
    |zero =>
     simp at hj;subst hj
     obtain⟨u',hu,hcu⟩:=hc 0 c rfl
     simp at hu;subst hu
     refine⟨u,rfl,?_⟩
     unfold zwD at e1
     split at e1
     ·injection e1 with e1;subst e1
      exact⟨.inl ⟨_,rfl⟩,hcu⟩
     ·rename_i i
      split at e1
      ·rename_i cs hs
       injection e1 with e1;subst e1
       rw[zbF,if_pos (by simp)] at hcu
       obtain⟨b,hv,hk⟩:=hcu
       have hi:=hR.rep i
       dsimp only at hk
       rw[hs] at hi hk
       obtain⟨b',arr,t,hv',_⟩:=hi
       rw[hv'] at hk
       obtain rfl:b'=b:=by simpa[zaf] using hk
       exact⟨hs,rfl,rfl,by rw[hv,hv']⟩
      ·cases e1
     ·rename_i i off _
      by_cases hoff:1000000≤off
      ·simp only[hoff,decide_true,cond_true,Option.some.injEq] at e1
       subst e1
       rw[zbF,if_neg (by simp only;omega)] at hcu
       exact⟨.inr rfl,hcu⟩
      ·simp[hoff] at e1
   ·cases h
structure zcp(s s1:St)(L:List (Nat×AV)):Prop where
 new:∀i o,(i,o)∈L→s1 i=o
 old:∀j,(∀o,(j,o)∉L)→s1 j=s j∨(s1 j=.dead∧∃k,(s j).refs k=true)
 ref:∀j k,(s1 j).refs k=true→s1 j=s j∧(∀o,(k,o)∈L→o.zaa=true∧o.size=(s k).size∧o.len=(s k).len∧o.valOf=(s k).valOf)∧((∀o,(k,o)∉L)→s1 k=s k)
theorem zcp.nil(s:St):zcp s s []:=
 ⟨fun i o h=>(by cases h),fun j _=>.inl rfl,fun j k h=>⟨rfl,fun o h=>(by cases h),fun _=>rfl⟩⟩
theorem zp8{s:St}{i:Nat}{o:AV}(hwf:∀i j,(s i).refs j=true→(s j).zaa=true)(hf:zbI (s i) o=true)(hso:(s i).zaa=true)(hb:o.bare=true):zcp s (zht s i o) [(i,o)]:=by
 have hown:∀j,(s j).refs i=true→j≠i:=by
  rintro j h rfl
  rw[zaP h] at hso;cases hso
 have plain:(o.zaa=true∧o.size=(s i).size∧o.len=(s i).len∧o.valOf=(s i).valOf)→zcp s (fun j=>if j=i then o else s j) [(i,o)]:=by
  intro hk
  refine⟨fun i' o' h=>?_,fun j h=>.inl ?_,fun j k h=>?_⟩
  ·simp at h;obtain⟨rfl,rfl⟩:=h;simp
  ·have:j≠i:=by rintro rfl;exact h o (by simp)
   simp[this]
  ·by_cases hj:j=i
   ·subst hj;simp only[if_pos] at h;rw[AV.zms hb] at h;cases h
   ·simp only[if_neg hj] at h ⊢
    refine⟨trivial,fun o' ho=>?_,fun hk'=>?_⟩
    ·simp at ho;obtain⟨rfl,rfl⟩:=ho;exact hk
    ·have:k≠i:=by rintro rfl;exact hk' o (by simp)
     simp[this]
 have kill:zcp s (fun j=>if j=i then o else if (s j).refs i then .dead else s j) [(i,o)]:=by
  refine⟨fun i' o' h=>?_,fun j h=>?_,fun j k h=>?_⟩
  ·simp at h;obtain⟨rfl,rfl⟩:=h;simp
  ·have:j≠i:=by rintro rfl;exact h o (by simp)
   simp only[if_neg this]
   cases hr:(s j).refs i with
   |true=>exact .inr ⟨by simp,i,hr⟩
   |false=>exact .inl (by simp)
  ·by_cases hj:j=i
   ·subst hj;simp only[if_pos] at h;rw[AV.zms hb] at h;cases h
   ·simp only[if_neg hj] at h ⊢
    cases hr:(s j).refs i with
    |true=>rw[hr] at h;cases h
    |false =>
     rw[hr] at h
     simp only[Bool.false_eq_true,if_false] at h ⊢
     have hki:k≠i:=by rintro rfl;rw[hr] at h;cases h
     refine⟨trivial,fun o' ho=>?_,fun _=>?_⟩
     ·simp at ho;exact absurd ho.1 hki
     ·simp only[if_neg hki]
      have hko:=hwf j k h
      cases hr2:(s k).refs i with
      |true=>rw[zaP hr2] at hko;cases hko
      |false=>simp
 unfold zht
 cases o with
 |box cs =>
  refine plain ⟨rfl,?_⟩
  cases hs:s i<;>rw[hs] at hf<;>first | exact⟨rfl,rfl,rfl⟩ | (simp[zbI,zau] at hf)
 |mp c bs es =>
  refine plain ⟨rfl,?_⟩
  cases hs:s i<;>rw[hs] at hf<;>first | exact⟨rfl,rfl,rfl⟩ | (simp[zbI,zau] at hf)
 |_=>exact kill
theorem zcp.wf{s s1:St}{L:List (Nat×AV)}(h:zcp s s1 L)(hwf:∀i j,(s i).refs j=true→(s j).zaa=true):∀i j,(s1 i).refs j=true→(s1 j).zaa=true:=by
 intro i j hij
 obtain⟨h1,h2,h3⟩:=h.ref i j hij
 by_cases hj:∃o,(j,o)∈L
 ·obtain⟨o,ho⟩:=hj
  rw[h.new j o ho];exact(h2 o ho).1
 ·rw[h3 (fun o ho=>hj ⟨o,ho⟩)]
  rw[h1] at hij
  exact hwf i j hij
theorem zcp.trans{s s' s1:St}{i:Nat}{o:AV}{L:List (Nat×AV)}(h:zcp s s' [(i,o)])(k:zcp s' s1 L)(hb:o.bare=true)(hi:∀o',(i,o')∉L):zcp s s1 ((i,o)::L):=by
 have hsi:s' i=o:=h.new i o (by simp)
 have hs1i:s1 i=o:=by
  rcases k.old i hi with e | ⟨_,m,e⟩
  ·rw[e,hsi]
  ·rw[hsi,AV.zms hb] at e;cases e
 refine⟨fun j o' hj=>?_,fun j hj=>?_,fun j m hjm=>?_⟩
 ·rcases List.mem_cons.1 hj with e | e
  ·injection e with e1 e2;subst e1;subst e2;exact hs1i
  ·exact k.new j o' e
 ·have hji:j≠i:=by rintro rfl;exact hj o (by simp)
  have hjL:∀o',(j,o')∉L:=fun o' h'=>hj o' (by simp[h'])
  rcases h.old j (fun o' h'=>by simp at h';exact hji h'.1) with e | ⟨e1,m,e2⟩
  ·rcases k.old j hjL with e' | ⟨e1,m,e2⟩
   ·exact .inl (by rw[e',e])
   ·exact .inr ⟨e1,m,by rw[←e];exact e2⟩
  ·rcases k.old j hjL with e' | ⟨e3,_⟩
   ·exact .inr ⟨by rw[e',e1],m,e2⟩
   ·exact .inr ⟨e3,m,e2⟩
 ·obtain⟨h1,h2,h3⟩:=k.ref j m hjm
  obtain⟨h4,h5,h6⟩:=h.ref j m (by rw[←h1];exact hjm)
  refine⟨by rw[h1,h4],fun o' ho=>?_,fun ho=>?_⟩
  ·rcases List.mem_cons.1 ho with e | e
   ·injection e with e1 e2;subst e1;subst e2;exact h5 _ (by simp)
   ·have hmi:m≠i:=by rintro rfl;exact hi o' e
    have:=h2 o' e
    rw[h6 (fun o'' h'=>by simp at h';exact hmi h'.1)] at this
    exact this
  ·have hmi:m≠i:=by rintro rfl;exact ho o (by simp)
   rw[h3 (fun o' h'=>ho o' (by simp[h'])),h6 (fun o'' h'=>by simp at h';exact hmi h'.1)]
def pairs:List (AV×Option Nat)→List AV→List (Nat×AV)
 |(_,some i)::l,o::outs=>(i,o)::pairs l outs
 |(_,none)::l,_::outs=>pairs l outs
 |_,_=>[]
theorem zdk:∀{l:List (AV×Option Nat)} {outs:List AV} {i:Nat} {o:AV},(i,o)∈pairs l outs→∃(j:Nat) (x:AV),l[j]?=some (x,some i)∧outs[j]?=some o
 |[],_,i,o,h=>by simp[pairs] at h
 |(x,none)::l,[],i,o,h=>by simp[pairs] at h
 |(x,some k)::l,[],i,o,h=>by simp[pairs] at h
 |(x,none)::l,q::outs,i,o,h=>by
  simp only[pairs] at h
  obtain⟨j,y,h1,h2⟩:=zdk h
  exact⟨j+1,y,by simpa using h1,by simpa using h2⟩
 |(x,some k)::l,q::outs,i,o,h=>by
  simp only[pairs] at h
  rcases List.mem_cons.1 h with e | e
  ·injection e with e1 e2;subst e1;subst e2;exact⟨0,x,rfl,rfl⟩
  ·obtain⟨j,y,h1,h2⟩:=zdk e
   exact⟨j+1,y,by simpa using h1,by simpa using h2⟩
theorem zji:∀{l:List (AV×Option Nat)} {outs:List AV} {i j:Nat} {x o:AV},l[j]?=some (x,some i)→outs[j]?=some o→(i,o)∈pairs l outs
 |[],_,i,j,x,o,h,_=>by simp at h
 |p::l,[],i,j,x,o,_,h=>by simp at h
 |(y,q)::l,p::outs,i,0,x,o,h,k=>by
  simp at h k
  obtain⟨rfl,rfl⟩:=h
  subst k
  simp[pairs]
 |(y,q)::l,p::outs,i,j+1,x,o,h,k=>by
  simp at h k
  have:=zji h k
  cases q with
  |none=>simpa[pairs] using this
  |some m=>simp[pairs,this]
theorem zdR{l:List (AV×Option Nat)}{i j:Nat}{x:AV}(h:l[j]?=some (x,some i)):i∈slotsOf l:=by
 unfold slotsOf
 rw[List.mem_filterMap]
 exact⟨_,List.mem_of_getElem? h,rfl⟩
theorem zo3:∀{l:List (AV×Option Nat)} {i j k:Nat} {x y:AV},(slotsOf l).Nodup→l[j]?=some (x,some i)→l[k]?=some (y,some i)→j=k
 |[],i,j,k,x,y,_,h,_=>by simp at h
 |p::l,i,0,0,x,y,_,_,_=>rfl
 |(p,q)::l,i,0,k+1,x,y,hn,h,h'=>by
  simp at h h'
  obtain⟨rfl,rfl⟩:=h
  simp only[slotsOf,List.filterMap_cons] at hn
  exact absurd (zdR h') (List.nodup_cons.1 hn).1
 |(p,q)::l,i,j+1,0,x,y,hn,h,h'=>by
  simp at h h'
  obtain⟨rfl,rfl⟩:=h'
  simp only[slotsOf,List.filterMap_cons] at hn
  exact absurd (zdR h) (List.nodup_cons.1 hn).1
 |(p,q)::l,i,j+1,k+1,x,y,hn,h,h'=>by
  simp at h h'
  have hn':(slotsOf l).Nodup:=by
   cases q with
   |none=>simpa[slotsOf] using hn
   |some m=>simp only[slotsOf,List.filterMap_cons] at hn;exact(List.nodup_cons.1 hn).2
  rw[zo3 hn' h h']
theorem zdh:∀(l:List (AV×Option Nat)) (outs:List AV) (s:St),(∀i j,(s i).refs j=true→(s j).zaa=true)→(slotsOf l).Nodup→l.length=outs.length →
  (∀(j:Nat) (x:AV) (i:Nat) (o:AV),l[j]?=some (x,some i)→outs[j]?=some o→zbI (s i) o=true∧(s i).zaa=true∧o.bare=true)→zcp s (zaI s l outs) (pairs l outs)
 |[],outs,s,hwf,_,_,_=>by cases outs<;>exact zcp.nil s
 |(x,q)::l,[],s,_,_,h,_=>by simp at h
 |(x,none)::l,o::outs,s,hwf,hn,hl,h=>by
  simp only[zaI,pairs]
  exact zdh l outs s hwf (by simpa[slotsOf] using hn) (by simpa using hl) (fun j y i o' h1 h2=>h (j+1) y i o' (by simpa using h1) (by simpa using h2))
 |(x,some i)::l,o::outs,s,hwf,hn,hl,h=>by
  simp only[zaI,pairs]
  obtain⟨h1,h2,h3⟩:=h 0 x i o rfl rfl
  have hA:=zp8 hwf h1 h2 h3
  simp only[slotsOf,List.filterMap_cons] at hn
  have hni:=(List.nodup_cons.1 hn).1
  have hkeep:∀j,j∈slotsOf l→(s j).zaa=true→zht s i o j=s j:=by
   intro j hj ho
   have hji:j≠i:=by rintro rfl;exact hni hj
   rcases hA.old j (fun o' h'=>by simp at h';exact hji h'.1) with e | ⟨_,k,e⟩
   ·exact e
   ·rw[zaP e] at ho;cases ho
  refine hA.trans (zdh l outs _ (hA.wf hwf) (List.nodup_cons.1 hn).2 (by simpa using hl) (fun j y m o' k1 k2=>?_)) h3 (fun o' h'=>?_)
  ·obtain⟨e1,e2,e3⟩:=h (j+1) y m o' (by simpa using k1) (by simpa using k2)
   rw[hkeep m (zdR k1) e2]
   exact⟨e1,e2,e3⟩
  ·obtain⟨j,y,h4,_⟩:=zdk h'
   exact hni (zdR h4)
theorem Rel.zV3{X:Nat→Prop}{d:Nat}{r:AV}{v:Value}(hd:S0.m≤d∧d<n)(hpin:∀j,j<S0.m→zai a j=S0.val j)(hdef:a.defers=[])(hsz:a.tmps.size=n)(hbel:Kept S0.lent w0 w)(hlt:Base S0 w0)
  (hrep:∀i,zaQ w (fun b=>Shared S0 w0.heap.size w s (zai a) b∧¬X b) (OwnB S0 w0.heap.size) s (zai a) (s i) (zai a i))
  (hinj:∀i j b,zaf (s i) (zai a i)=some b→zaf (s j) (zai a j)=some b→i=j)(hout:∀i,n≤i→(s i).apart=true)(hwf:∀i j,(s i).refs j=true→(s j).zaa=true)
  (hrr:∀j,r.refs j=false)(hr:zaQ w (fun b=>Shared S0 w0.heap.size w s (zai a) b∧¬X b) (OwnB S0 w0.heap.size) s (zai a) r v)(hX:∀b,zaf r v=some b→X b)(hXo:∀i b,zaf (s i) (zai a i)=some b→¬X b) :
  Rel S0 w0 n (Ab.put s d r) (a.put (some d) v) w:=by
 have hdt:d<a.tmps.size:=by rw[hsz];exact hd.2
 have htm:=zfC a d v hdt
 have htmo:∀i,i≠d→zai (a.put (some d) v) i=zai a i:=fun i hi=>by rw[htm,if_neg hi]
 have htmd:zai (a.put (some d) v) d=v:=by rw[htm,if_pos rfl]
 have hblk:∀i b,zaf (Ab.put s d r i) (zai (a.put (some d) v) i)=some b→(i=d∧zaf r v=some b)∨(i≠d∧zaf (s i) (zai a i)=some b):=by
  intro i b hb
  by_cases hi:i=d
  ·subst hi
   rw[htmd,zbb (hrr i)] at hb
   exact .inl ⟨rfl,hb⟩
  ·rw[htmo i hi] at hb
   exact .inr ⟨hi,zvU hi hb⟩
 have hsub:∀b,(Shared S0 w0.heap.size w s (zai a) b∧¬X b)→Shared S0 w0.heap.size w (Ab.put s d r) (zai (a.put (some d) v)) b:=by
  rintro b ⟨⟨h1,h2,h3⟩,hx⟩
  refine⟨h1,h2,fun i hi=>?_⟩
  rcases hblk i b hi with⟨_,h⟩ | ⟨_,h⟩
  ·exact hx (hX b h)
  ·exact h3 i h
 refine⟨hdef,by simp[Act.put,hsz],hbel,hlt,fun i=>?_,fun i j b hbi hbj=>?_,fun i hi=>?_,za3 hwf (fun j hj=>by rw[hrr] at hj;cases hj),fun j hj=>by rw[htmo j (by omega)];exact hpin j hj⟩
 ·by_cases hi:i=d
  ·subst hi
   rw[htmd,zbb (hrr i)]
   refine hr.mono hsub (fun _ _=>rfl) (fun _ _=>rfl) (fun j hj=>?_) (fun i' _ _ _ _ hl _ _=>by have:=(AV.zaO hl).1;rw[hrr] at this;cases this)
   have:=hrr j
   rw[AV.zaL hj] at this;cases this
  ·rw[htmo i hi]
   rcases zbK (s:=s) (v:=r) hi with hp | ⟨_,_,hp⟩
   ·rw[hp]
    have hjd:∀j,(s i).refs j=true→j≠d:=by
     rintro j hjr rfl
     have:Ab.put s j r i=.dead:=zfg hi (hwf i j hjr) hjr
     rw[hp] at this
     rw[this] at hjr;cases hjr
    refine(hrep i).mono hsub (fun _ _=>rfl) (fun _ _=>rfl) (fun j hj=>?_) (fun i' off d' cs b hl hs' _=>⟨⟨cs,by rw[zbn (hjd i' (AV.zaO hl).1) (AV.zba hs')];exact hs',rfl⟩,rfl⟩)
    have hjr:=AV.zaL hj
    have hjo:=hwf i j hjr
    have hjd:=hjd j hjr
    exact⟨htmo j hjd,fun _=>by rw[zbn hjd hjo];exact⟨hjo,rfl,rfl,rfl⟩,fun b hb=>by rw[zbn hjd hjo];exact hb⟩
   ·rw[hp];trivial
 ·rcases hblk i b hbi with⟨hi,h1⟩ | ⟨hi,h1⟩<;>rcases hblk j b hbj with⟨hj,h2⟩ | ⟨hj,h2⟩
  ·rw[hi,hj]
  ·exact absurd (hX b h1) (hXo j b h2)
  ·exact absurd (hX b h2) (hXo i b h1)
  ·exact hinj i j b h1 h2
 ·have hid:i≠d:=by omega
  rcases zbK (s:=s) (v:=r) hid with hp | ⟨_,_,hp⟩
  ·rw[hp];exact hout i hi
  ·rw[hp];rfl
theorem Rel.zsM(hR:Rel S0 w0 n s a w){ys:List (AV×Option Nat)}{outs:List AV}{vs:Array Value}{r:RV}{v:Value}{w':World}{s1:St}{d:Nat}{E:Env}(hd:S0.m≤d∧d<n)
  (hvs:∀(j:Nat) (y:AV×Option Nat),ys[j]?=some y→∃u,vs[j]?=some u∧zjk S0 w0 s a w y u)(hl:ys.length=outs.length)(hfit':∀(j:Nat) (x:AV×Option Nat) (o:AV),ys[j]?=some x→outs[j]?=some o→zbI x.1 o=true)(hnl:∀(j i off d:Nat),(s j).zco i off d→i∈slotsOf ys→False)
  (hinj:∀(i j:Nat) (x y:AV) (b:Nat),outs[i]?=some x→zaf x (tmV vs i)=some b→outs[j]?=some y→zaf y (tmV vs j)=some b→i=j)
  (hErd:E.rd=Shared S0 w0.heap.size w s (zai a))(hElent:∀b,E.lent b↔∃i,i∈slotsOf ys∧zaf (s i) (zai a i)=some b)
  (hk:Kept E.lent w w')(hr:zkq w' (After w w' E outs vs) r v)(hrb:∀b,r.blk v=some b→After w w' E outs vs b∧¬E.rd b)
  (hout:∀(j:Nat) (o:AV),outs[j]?=some o→zaQ w' (fun b=>After w w' E outs vs b∧r.blk v≠some b) (fun b=>E.lent b∨w.heap.size≤b) zkd zDA o (tmV vs j))
  (hA:zcp s s1 (pairs ys outs)):Rel S0 w0 n (Ab.put s1 d r.av) (a.put (some d) v) w':=by
 have hslot:∀i,i∈slotsOf ys→∃(j:Nat) (x:AV) (o:AV),ys[j]?=some (x,some i)∧outs[j]?=some o∧vs[j]?=some (zai a i)∧s i=x∧x.bare=true∧x.zaa=true∧zbI x o=true:=by
  intro i hi
  unfold slotsOf at hi
  rw[List.mem_filterMap] at hi
  obtain⟨⟨x,q⟩,hm,hq⟩:=hi
  dsimp only at hq
  subst hq
  obtain⟨j,hj⟩:=List.getElem?_of_mem hm
  have hlt:j<outs.length:=by rw[←hl];exact(List.getElem?_eq_some_iff.1 hj).1
  obtain⟨u,hu,hs,hb,ho,rfl⟩:=hvs j _ hj
  exact⟨j,x,outs[j],hj,List.getElem?_eq_getElem hlt,hu,hs,hb,ho,hfit' j _ _ hj (List.getElem?_eq_getElem hlt)⟩
 have hpair:∀i o,(i,o)∈pairs ys outs→i∈slotsOf ys∧∃(j:Nat),outs[j]?=some o∧vs[j]?=some (zai a i)∧(s i).bare=true∧(s i).zaa=true∧zbI (s i) o=true:=by
  intro i o h
  obtain⟨j,x,h1,h2⟩:=zdk h
  obtain⟨u,hu,hs,hb,ho,rfl⟩:=hvs j _ h1
  dsimp only at hs hb ho
  subst hs
  exact⟨zdR h1,j,h2,hu,hb,ho,hfit' j _ o h1 h2⟩
 have hkey:∀i,i∈slotsOf ys→∃o,(i,o)∈pairs ys outs:=by
  intro i hi
  obtain⟨j,x,o,h1,h2,_⟩:=hslot i hi
  exact⟨o,zji h1 h2⟩
 have hbareO:∀{x o:AV},zbI x o=true→o.bare=true:=by
  intro x o h
  cases x<;>cases o<;>first | rfl | (simp[zbI,zau] at h)
 have hnew:∀j o b,(j,o)∈pairs ys outs→zaf o (zai a j)=some b→E.lent b∨w.heap.size≤b:=by
  intro j o b ho hb
  obtain⟨_,k,h1,h2,_,_,hf⟩:=hpair j o ho
  have hoj:=hout k o h1
  rw[zc7 h2] at hoj
  exact(hoj.zbk hb).1
 have hblk1:∀j b,zaf (s1 j) (zai a j)=some b→(∃o,(j,o)∈pairs ys outs∧zaf o (zai a j)=some b)∨((∀o,(j,o)∉pairs ys outs)∧zaf (s j) (zai a j)=some b):=by
  intro j b hb
  by_cases hj:∃o,(j,o)∈pairs ys outs
  ·obtain⟨o,ho⟩:=hj
   rw[hA.new j o ho] at hb
   exact .inl ⟨o,ho,hb⟩
  ·have hno:∀o,(j,o)∉pairs ys outs:=fun o ho=>hj ⟨o,ho⟩
   rcases hA.old j hno with e | ⟨e,_⟩<;>rw[e] at hb
   ·exact .inr ⟨hno,hb⟩
   ·cases hb
 have howned:∀b,zlL outs vs b→E.lent b∨w.heap.size≤b:=by
  rintro b ⟨j,o,h1,h3⟩
  exact((hout j o h1).zbk h3).1
 have hown1:∀i o b,(i,o)∈pairs ys outs→zaf o (zai a i)=some b→zlL outs vs b:=by
  intro i o b h hb
  obtain⟨_,j,h1,h2,_⟩:=hpair i o h
  exact⟨j,o,h1,by rw[zc7 h2];exact hb⟩
 have hlentO:∀b,E.lent b→OwnB S0 w0.heap.size b∧b<w.heap.size:=by
  intro b hb
  obtain⟨i,_,hi⟩:=(hElent b).1 hb
  exact(hR.rep i).zbk hi
 have hafter:∀b,After w w' E outs vs b→Shared S0 w0.heap.size w' s1 (zai a) b:=by
  rintro b ⟨h,hno⟩
  have hnone:∀i,zaf (s1 i) (zai a i)=some b→(∀o,(i,o)∉pairs ys outs)∧zaf (s i) (zai a i)=some b:=by
   intro i hi
   rcases hblk1 i b hi with⟨o,ho,hb⟩ | h
   ·exact absurd (hown1 i o b ho hb) hno
   ·exact h
  rcases h with h | h | ⟨h1,h2⟩
  ·rw[hErd] at h
   exact⟨h.1,Nat.lt_of_lt_of_le h.2.1 hk.size,fun i hi=>h.2.2 i (hnone i hi).2⟩
  ·obtain⟨k1,k2⟩:=hlentO b h
   refine⟨.inr k1,Nat.lt_of_lt_of_le k2 hk.size,fun i hi=>?_⟩
   obtain⟨h3,h4⟩:=hnone i hi
   obtain⟨m,hm,hmb⟩:=(hElent b).1 h
   have:=hR.inj i m b h4 hmb
   subst this
   obtain⟨o,ho⟩:=hkey i hm
   exact h3 o ho
  ·refine⟨.inr (.inl (Nat.le_trans hR.below.size h1)),h2,fun i hi=>?_⟩
   have:=((hR.rep i).zbk (hnone i hi).2).2
   omega
 have hsh:∀b,Shared S0 w0.heap.size w s (zai a) b→Shared S0 w0.heap.size w' s1 (zai a) b∧¬r.blk v=some b:=by
  intro b hb
  refine⟨hafter b ⟨.inl (by rw[hErd];exact hb),fun ho=>?_⟩,fun h=>(hrb b h).2 (by rw[hErd];exact hb)⟩
  rcases howned b ho with h | h
  ·obtain⟨i,_,hi⟩:=(hElent b).1 h
   exact hb.2.2 i hi
  ·have:=hb.2.1;omega
 have hnlent:∀b,Shared S0 w0.heap.size w s (zai a) b→¬E.lent b:=by
  intro b hb hl
  obtain⟨i,_,hi⟩:=(hElent b).1 hl
  exact hb.2.2 i hi
 have hrep:∀i,zaQ w' (fun b=>Shared S0 w0.heap.size w' s1 (zai a) b∧¬r.blk v=some b) (OwnB S0 w0.heap.size) s1 (zai a) (s1 i) (zai a i):=by
  intro i
  by_cases hi:∃o,(i,o)∈pairs ys outs
  ·obtain⟨o,ho⟩:=hi
   obtain⟨_,j,h1,h2,_,_,hf⟩:=hpair i o ho
   rw[hA.new i o ho]
   have hoj:=hout j o h1
   rw[zc7 h2] at hoj
   refine hoj.bare (hbareO hf) (fun b hb=>⟨hafter b hb.1,hb.2⟩) (fun b _ hb=>hb.elim (fun h=>(hlentO b h).1) (fun h=>.inl (Nat.le_trans hR.below.size h)))
  ·have hno:∀o,(i,o)∉pairs ys outs:=fun o ho=>hi ⟨o,ho⟩
   rcases hA.old i hno with e | ⟨e,_⟩
   ·rw[e]
    refine(hR.rep i).mono hsh (fun b hb=>hk.block b hb.2.1 (hnlent b hb)) (fun b hb=>?_) (fun k hkr=>?_) (fun i' off d' cs b hl hs' hb'=>?_)
    rotate_right
    ·have hnp:∀o,(i',o)∉pairs ys outs:=by
      intro o ho
      exact hnl i i' off d' hl (hpair i' o ho).1
     obtain⟨_,_,h3⟩:=hA.ref i i' (by rw[e];exact(AV.zaO hl).1)
     refine⟨⟨cs,by rw[h3 hnp];exact hs',rfl⟩,World.cell?_of_block (hk.block b ((hR.rep i').zbk hb').2 (fun hlb=>?_))⟩
     obtain⟨m,hm,hmb⟩:=(hElent b).1 hlb
     have:=hR.inj i' m b hb' hmb
     subst this
     obtain⟨o,ho⟩:=hkey i' hm
     exact hnp o ho
    ·refine hk.block b ((hR.rep i).zbk hb).2 (fun hl=>?_)
     obtain⟨m,hm,hmb⟩:=(hElent b).1 hl
     have:=hR.inj i m b hb hmb
     subst this
     exact hi (hkey i hm)
    ·obtain⟨_,h2,h3⟩:=hA.ref i k (by rw[e];exact AV.zaL hkr)
     by_cases hkL:∃o,(k,o)∈pairs ys outs
     ·obtain⟨o,ho⟩:=hkL
      have h4:=h2 o ho
      rw[hA.new k o ho]
      refine⟨rfl,fun _=>h4,fun b hb=>?_⟩
      obtain⟨_,j,k1,k2,kb,ko,kf⟩:=hpair k o ho
      have hrk:=(hR.rep k).bare (S':=fun _=>True) (O':=fun _=>True) (s':=zkd) (tm':=zDA) kb (fun _ _=>trivial) (fun _ _ _=>trivial)
      exact zHM kf h4.1 h4.2.2.2 hrk hb
     ·have h4:=h3 (fun o ho=>hkL ⟨o,ho⟩)
      exact⟨rfl,fun h=>by rw[h4];exact⟨h,rfl,rfl,rfl⟩,fun b hb=>by rw[h4];exact hb⟩
   ·rw[e];trivial
 have hbel:Kept S0.lent w0 w':=by
  refine⟨hk.os.trans hR.below.os,hk.tape.trans hR.below.tape,hk.output.trans hR.below.output,Nat.le_trans hR.below.size hk.size,fun b hb hn=>?_⟩
  rw[hk.block b (Nat.lt_of_lt_of_le hb hR.below.size) (fun hl=>?_)]
  ·exact hR.below.block b hb hn
  ·rcases (hlentO b hl).1 with h | h
   ·omega
   ·exact hn h
 have hout1:∀i,n≤i→(s1 i).apart=true:=by
  intro i hi
  have hsi:=hR.out i hi
  by_cases hL:∃o,(i,o)∈pairs ys outs
  ·obtain⟨o,ho⟩:=hL
   obtain⟨_,_,_,_,_,hown,hf⟩:=hpair i o ho
   rw[hA.new i o ho]
   rcases zlV hsi hown with⟨_,_,_,_,e⟩ | ⟨_,_,_,_,e⟩<;>rw[e] at hf
   ·cases o<;>first | rfl | (simp[zbI,zau] at hf)
   ·cases o<;>first | rfl | (simp[zbI,zau] at hf)
  ·rcases hA.old i (fun o ho=>hL ⟨o,ho⟩) with e | ⟨e,_⟩
   ·rw[e,hsi]
   ·rw[e];rfl
 have hXo:∀i b,zaf (s1 i) (zai a i)=some b→¬r.blk v=some b:=by
  intro i b hb hrv
  exact(hafter b (hrb b hrv).1).2.2 i hb
 have hav:zaQ w' (fun b=>Shared S0 w0.heap.size w' s1 (zai a) b∧¬r.blk v=some b) (OwnB S0 w0.heap.size) s1 (zai a) r.av v:=by
  cases r with
  |x xv=>exact zbL.mono hr (fun b hb=>⟨hafter b hb,fun h=>by cases h⟩) (fun _ _=>rfl)
  |tup us=>exact⟨hr.choose,hr.choose_spec.1,hr.choose_spec.2.1,fun j x hj=>let ⟨u,hu,hx⟩:=hr.choose_spec.2.2 j x hj;⟨u,hu,zbL.mono hx (fun b hb=>⟨hafter b hb,fun h=>by cases h⟩) (fun _ _=>rfl)⟩⟩
  |own e z xs =>
   obtain⟨us,hown,hl',hx,hm,hB⟩:=hr
   refine⟨us,hown,hl'.mono (fun b hb=>⟨hafter b hb.1,hb.2⟩) (fun _ _=>rfl),hx,hm,fun b hb=>?_⟩
   obtain⟨h1,h2⟩:=hrb b hb
   rcases h1.1 with h | h | h
   ·exact absurd h h2
   ·exact(hlentO b h).1
   ·exact .inl (Nat.le_trans hR.below.size h.1)
 have hinj1:∀i j b,zaf (s1 i) (zai a i)=some b→zaf (s1 j) (zai a j)=some b→i=j:=by
  have mix:∀i j o b,(i,o)∈pairs ys outs→zaf o (zai a i)=some b→(∀o,(j,o)∉pairs ys outs)→zaf (s j) (zai a j)=some b→False:=by
   intro i j o b ho hb hno hj
   rcases hnew i o b ho hb with h | h
   ·obtain⟨m,hm,hmb⟩:=(hElent b).1 h
    have:=hR.inj j m b hj hmb
    subst this
    obtain⟨o',ho'⟩:=hkey j hm
    exact hno o' ho'
   ·have:=((hR.rep j).zbk hj).2;omega
  intro i j b hi hj
  rcases hblk1 i b hi with⟨o,ho,hb⟩ | ⟨hno,hb⟩<;>rcases hblk1 j b hj with⟨o',ho',hb'⟩ | ⟨hno',hb'⟩
  ·obtain⟨k1,x1,e1,e2⟩:=zdk ho
   obtain⟨k2,x2,f1,f2⟩:=zdk ho'
   obtain⟨u1,hu1,_,_,_,rfl⟩:=hvs k1 _ e1
   obtain⟨u2,hu2,_,_,_,rfl⟩:=hvs k2 _ f1
   have:=hinj k1 k2 o o' b e2 (by rw[zc7 hu1];exact hb) f2 (by rw[zc7 hu2];exact hb')
   subst this
   rw[e1] at f1
   simp only[Option.some.injEq,Prod.mk.injEq] at f1
   exact f1.2
  ·exact(mix i j o b ho hb hno' hb').elim
  ·exact(mix j i o' b ho' hb' hno hb).elim
  ·exact hR.inj i j b hb hb'
 refine Rel.zV3 (X:=fun b=>r.blk v=some b) hd hR.pin hR.defers hR.size hbel hR.lt hrep hinj1 hout1 (hA.wf hR.wf) (fun j=>by cases r<;>rfl) hav (fun b hb=>?_) hXo
 cases r with
 |own e z xs=>exact hb
 |_=>cases hb
def posOf(i:Nat):List (AV×Option Nat)→Nat→Option Nat
 |[],_=>none
 |(_,some k)::l,j=>bif k==i then some j else posOf i l (j+1)
 |(_,none)::l,j=>posOf i l (j+1)
def trC(L:List (AV×Option Nat)):List (CV ⊕ (Nat×Nat))→Option (List (CV ⊕ (Nat×Nat)))
 |[]=>some []
 |.inl c::r=>match trC L r with
  |some cs=>some (.inl c::cs)
  |none=>none
 |.inr (i,off)::r=>match posOf i L 0,trC L r with
  |some j,some cs=>some (.inr (j,off)::cs)
  |_,_=>none
def trA(L:List (AV×Option Nat)):AV→AV
 |.cloR f caps=>match trC L caps with
  |some cs=>.cloR f cs
  |none=>.dead
 |.ptr2 i off=>match posOf i L 0 with
  |some j=>.ptr2 j off
  |none=>.dead
 |a=>a
def zhd(L:List (AV×Option Nat)):List (AV×Option Nat)→List AV
 |[]=>[]
 |y::r=>trA L y.1::zhd L r
theorem zh7(L:List (AV×Option Nat)):∀(l:List (AV×Option Nat)) (j:Nat),(zhd L l)[j]?=(l[j]?).map fun y=>trA L y.1
 |[],j=>by simp[zhd]
 |y::r,0=>rfl
 |y::r,j+1=>by simpa[zhd] using zh7 L r j
def AV.zcn:AV→List Nat
 |.cloR _ caps=>caps.filterMap zcq
 |.ptr2 i _=>[i]
 |_=>[]
def addN(l:List Nat):List Nat→List Nat→List Nat
 |[],r=>r
 |i::t,r=>bif l.contains i then addN l t r else i::addN l t r
def zgQ(l:List Nat):List (AV×Option Nat)→List Nat
 |[]=>[]
 |(x,_)::r=>addN l x.zcn (zgQ l r)
def ghost(s:St)(xs:List (AV×Option Nat)):Option (Nat×List CV):=
 match zgQ (slotsOf xs) xs with
 |[]=>none
 |i::_=>match s i with
  |.box cs=>some (i,cs)
  |_=>none
def zul(P:Program)(g:FuncId)(xs:List (AV×Option Nat))(k:List (AV×Option Nat)→RV→List AV→Prop):Option (Nat×List CV)→Prop
 |none=>∃r outs,zat P g (zhd xs xs) r outs∧k xs r outs
 |some (i,cs)=>(AV.box cs).told=true∧(slotsOf (xs++[(.box cs,some i)])).Nodup∧∃r outs co,(∀b,zat P g (zhd (xs++[(.box cs,some i)]) xs++[.gbox b cs]) r (outs++[.gbox b co]))∧k (xs++[(.box cs,some i)]) r (outs++[.box co])
def zfS(P:Program)(s:St)(c:Prop×Option (FuncId×List (AV×Option Nat)))(k:List (AV×Option Nat)→RV→List AV→Prop):Prop:=
 match c with
 |(p,some (g,xs))=>p∧zfM xs=true∧(slotsOf xs).Nodup∧zul P g xs k (ghost s xs)
 |_=>False
def zlY(P:Program)(s:St)(c:Prop×Option (FuncId×List (AV×Option Nat)))(zs:List (AV×Option Nat))(r:RV)(outs:List AV):Prop:=
 match c with
 |(p,some (g,xs))=>p∧zfM xs=true∧(slotsOf xs).Nodup∧((ghost s xs=none∧zs=xs∧zat P g (zhd xs xs) r outs) ∨
   ∃i cs,ghost s xs=some (i,cs)∧zs=xs++[(.box cs,some i)]∧(AV.box cs).told=true∧(slotsOf zs).Nodup∧∃outs' co,outs=outs'++[.box co]∧∀b,zat P g (zhd zs xs++[.gbox b cs]) r (outs'++[.gbox b co]))
 |_=>False
theorem zdT{P:Program}{s:St}{c:Prop×Option (FuncId×List (AV×Option Nat))}{k:List (AV×Option Nat)→RV→List AV→Prop}:zfS P s c k↔∃zs r outs,zlY P s c zs r outs∧k zs r outs:=by
 unfold zfS zlY
 obtain⟨p,q⟩:=c
 cases q with
 |none=>exact⟨fun h=>h.elim,fun ⟨_,_,_,h,_⟩=>h.elim⟩
 |some q =>
  obtain⟨g,xs⟩:=q
  dsimp only
  cases hg:ghost s xs with
  |none =>
   constructor
   ·rintro⟨h1,h2,h3,r,outs,h4,h5⟩
    exact⟨xs,r,outs,⟨h1,h2,h3,.inl ⟨rfl,rfl,h4⟩⟩,h5⟩
   ·rintro⟨zs,r,outs,⟨h1,h2,h3,⟨_,rfl,h4⟩ | ⟨i,cs,h,_⟩⟩,h5⟩
    ·exact⟨h1,h2,h3,r,outs,h4,h5⟩
    ·cases h
  |some q =>
   obtain⟨i,cs⟩:=q
   constructor
   ·rintro⟨h1,h2,h3,h4,h5,r,outs,co,h6,h7⟩
    exact⟨_,r,_,⟨h1,h2,h3,.inr ⟨i,cs,rfl,rfl,h4,h5,outs,co,rfl,h6⟩⟩,h7⟩
   ·rintro⟨zs,r,outs,⟨h1,h2,h3,⟨h,_⟩ | ⟨i',cs',h,rfl,h4,h5,outs',co,rfl,h6⟩⟩,h7⟩
    ·cases h
    ·simp only[Option.some.injEq,Prod.mk.injEq] at h
     obtain⟨rfl,rfl⟩:=h
     exact⟨h1,h2,h3,h4,h5,r,outs',co,h6,h7⟩
theorem zt9{P:Program}{s:St}{c:Prop×Option (FuncId×List (AV×Option Nat))}{k k':List (AV×Option Nat)→RV→List AV→Prop}(h:zfS P s c k)(hk:∀zs r outs,k zs r outs→k' zs r outs):zfS P s c k':=by
 obtain⟨zs,r,outs,h1,h2⟩:=zdT.1 h
 exact zdT.2 ⟨zs,r,outs,h1,hk _ _ _ h2⟩
theorem zjx:∀{args outs:List AV},args.length=outs.length→(∀(j:Nat) (a o:AV),args[j]?=some a→outs[j]?=some o→zau a o=true)→zaU args outs=true
 |[],[],_,_=>rfl
 |a::r,[],h,_=>by simp at h
 |[],o::q,h,_=>by simp at h
 |a::r,o::q,h,k=>by
  simp only[zaU,Bool.and_eq_true]
  exact⟨k 0 a o rfl rfl,zjx (by simpa using h) (fun j a' o' h1 h2=>k (j+1) a' o' (by simpa using h1) (by simpa using h2))⟩
theorem zd3(L:List (AV×Option Nat)):∀(l:List (AV×Option Nat)),(zhd L l).length=l.length
 |[]=>rfl
 |_::r=>by simp[zhd,zd3 L r]
theorem ztz{L:List (AV×Option Nat)}{x o:AV}(h:zau (trA L x) o=true):zau x o=true:=by
 cases x<;>first | exact h | skip
 ·simp only[trA] at h
  split at h
  ·cases o<;>first | rfl | (simp[zau] at h)
  ·simp[zau] at h
 ·simp only[trA] at h
  split at h
  ·cases o<;>first | rfl | (simp[zau] at h)
  ·simp[zau] at h
theorem zhc{P:Program}{s:St}{c:Prop×Option (FuncId×List (AV×Option Nat))}{zs:List (AV×Option Nat)}{r:RV}{outs:List AV}(h:zlY P s c zs r outs):zaU (zs.map (·.1)) outs=true∧(slotsOf zs).Nodup∧∃p g xs,c=(p,some (g,xs))∧(zs=xs∨∃i cs,ghost s xs=some (i,cs)∧zs=xs++[(.box cs,some i)]):=by
 have one:∀{L xs:List (AV×Option Nat)} {outs:List AV},zaU (zhd L xs) outs=true→zaU (xs.map (·.1)) outs=true:=by
  intro L xs outs h
  obtain⟨h1,h2⟩:=zbe h
  refine zjx (by simpa[zd3] using h1) (fun j a o ha ho=>?_)
  rw[List.getElem?_map] at ha
  cases hy:xs[j]? with
  |none=>rw[hy] at ha;cases ha
  |some y =>
   rw[hy] at ha
   injection ha with ha
   dsimp only at ha
   subst ha
   exact ztz (h2 j _ o (by rw[zh7,hy];rfl) ho)
 have app:∀{xs outs:List AV} {x o:AV},zaU (xs++[x]) (outs++[o])=true→xs.length=outs.length→zaU xs outs=true:=by
  intro xs
  induction xs with
  |nil=>intro outs x o _ h;cases outs with | nil=>rfl | cons _ _=>simp at h
  |cons y ys ih =>
   intro outs x o h hl
   cases outs with
   |nil=>simp at hl
   |cons q qs =>
    simp only[List.cons_append,zaU,Bool.and_eq_true] at h ⊢
    exact⟨h.1,ih h.2 (by simpa using hl)⟩
 have app2:∀{xs outs:List AV} {x o:AV},zaU xs outs=true→zau x o=true→zaU (xs++[x]) (outs++[o])=true:=by
  intro xs
  induction xs with
  |nil=>intro outs x o h k;cases outs with | nil=>simp[zaU,k] | cons _ _=>simp[zaU] at h
  |cons y ys ih =>
   intro outs x o h k
   cases outs with
   |nil=>simp[zaU] at h
   |cons q qs =>
    simp only[List.cons_append,zaU,Bool.and_eq_true] at h ⊢
    exact⟨h.1,ih h.2 k⟩
 unfold zlY at h
 split at h
 ·rename_i p g xs
  obtain⟨_,_,h3,⟨_,rfl,h4⟩ | ⟨i,cs,hg,rfl,_,h5,outs',co,rfl,h6⟩⟩:=h
  ·exact⟨one h4.2.1,h3,p,g,_,rfl,.inl rfl⟩
  ·refine⟨?_,h5,p,g,xs,rfl,.inr ⟨i,cs,hg,rfl⟩⟩
   have hf:=(h6 0).2.1
   have hl:(zhd (xs++[(AV.box cs,some i)]) xs).length=outs'.length:=by
    have:=(zbe hf).1
    simpa using this
   rw[List.map_append]
   exact app2 (one (app hf hl)) rfl
 ·exact h.elim
theorem zfj{i:Nat}:∀{L:List (AV×Option Nat)} {k j:Nat},posOf i L k=some j→k≤j∧∃x,L[j-k]?=some (x,some i)
 |[],k,j,h=>by cases h
 |(x,none)::l,k,j,h=>by
  obtain⟨h1,y,h2⟩:=zfj (L:=l) h
  refine⟨by omega,y,?_⟩
  rw[show j-k=(j-(k+1))+1 by omega]
  simpa using h2
 |(x,some m)::l,k,j,h=>by
  simp only[posOf] at h
  cases hm:m==i with
  |true =>
   rw[hm] at h
   simp only[cond_true,Option.some.injEq] at h
   subst h
   rw[beq_iff_eq] at hm
   subst hm
   exact⟨Nat.le_refl _,x,by simp⟩
  |false =>
   rw[hm] at h
   obtain⟨h1,y,h2⟩:=zfj (L:=l) h
   refine⟨by omega,y,?_⟩
   rw[show j-k=(j-(k+1))+1 by omega]
   simpa using h2
theorem zpp{L:List (AV×Option Nat)}:∀{caps cs:List (CV ⊕ (Nat×Nat))},trC L caps=some cs→cs.length=caps.length∧∀(m:Nat) (c:CV ⊕ (Nat×Nat)),cs[m]?=some c →
  (∃x,c=.inl x∧caps[m]?=some (.inl x))∨∃i j off x,c=.inr (j,off)∧caps[m]?=some (.inr (i,off))∧L[j]?=some (x,some i)
 |[],cs,h=>by
  simp only[trC,Option.some.injEq] at h
  subst h
  exact⟨rfl,fun m c hm=>by simp at hm⟩
 |.inl x::r,cs,h=>by
  simp only[trC] at h
  split at h
  ·rename_i cs' e
   injection h with h
   subst h
   obtain⟨h1,h2⟩:=zpp e
   refine⟨by simp[h1],fun m c hm=>?_⟩
   cases m with
   |zero=>simp at hm;subst hm;exact .inl ⟨x,rfl,rfl⟩
   |succ m=>simp at hm;simpa using h2 m c hm
  ·cases h
 |.inr (i,off)::r,cs,h=>by
  simp only[trC] at h
  split at h
  ·rename_i j cs' e1 e
   injection h with h
   subst h
   obtain⟨h1,h2⟩:=zpp e
   refine⟨by simp[h1],fun m c hm=>?_⟩
   cases m with
   |zero =>
    simp at hm;subst hm
    obtain⟨_,x,hx⟩:=zfj e1
    exact .inr ⟨i,j,off,x,rfl,rfl,by simpa using hx⟩
   |succ m=>simp at hm;simpa using h2 m c hm
  ·cases h
theorem zCT(hR:Rel S0 w0 n s a w){v:AV}{u:Value}{g:FuncId}{caps:List (AV×Option Nat)}(h:zgd S0 w0 s a w v u)(hf:fnM s v=some (g,caps)) :
  ∃us:Array Value,u=.func (.func g) #[] us∧us.size=caps.length∧∀(j:Nat) (y:AV×Option Nat),caps[j]?=some y→∃x,us[j]?=some x∧zjk S0 w0 s a w y x:=by
 have plain:∀{q:FuncId×List XV},zkD v=some q→g=q.1→caps=q.2.map (fun x=>(AV.x x,none))→∃us:Array Value,u=.func (.func g) #[] us∧us.size=caps.length∧∀(j:Nat) (y:AV×Option Nat),caps[j]?=some y→∃x,us[j]?=some x∧zjk S0 w0 s a w y x:=by
  rintro⟨g',xs⟩ hq rfl rfl
  obtain⟨us,h1,h2,h3⟩:=zmC h hq
  refine⟨us,h1,by simp[h2],fun j y hj=>?_⟩
  rw[List.getElem?_map] at hj
  cases hx:xs[j]? with
  |none=>rw[hx] at hj;cases hj
  |some x =>
   rw[hx] at hj
   injection hj with hj
   subst hj
   obtain⟨z,hz,hr⟩:=h3 j x hx
   exact⟨z,hz,.inl ⟨x,rfl⟩,hr⟩
 cases v with
 |cloR f cs =>
  obtain⟨us,rfl,hl,hc⟩:=h
  simp only[fnM] at hf
  cases hcm:ze4 s cs with
  |none=>rw[hcm] at hf;cases hf
  |some ys =>
   rw[hcm] at hf
   simp only[Option.map_some,Option.some.injEq,Prod.mk.injEq] at hf
   obtain⟨rfl,rfl⟩:=hf
   obtain⟨h1,h2⟩:=ztp (us:=us.toList) hR (by simpa using hl) (fun j c hj=>by simpa using hc j c hj) hcm
   exact⟨us,rfl,by simpa using h1.symm,fun j y hj=>by simpa using h2 j y hj⟩
 |_ =>
  simp only[fnM] at hf
  cases hq:zkD _ with
  |none=>rw[hq] at hf;cases hf
  |some q =>
   rw[hq] at hf
   simp only[Option.map_some,Option.some.injEq,Prod.mk.injEq] at hf
   exact plain hq hf.1.symm hf.2.symm
structure zL7(S0:Env)(w0:World)(s:St)(a:Act)(w:World)(zs:List (AV×Option Nat))(vz:Array Value)(args:List AV)(vs:Array Value):Prop where
 val:∀(j:Nat) (y:AV×Option Nat),zs[j]?=some y→∃u,vz[j]?=some u∧zjk S0 w0 s a w y u
 len:args.length=zs.length
 size:vs.size≤zs.length
 at_:∀(j:Nat) (y:AV×Option Nat),zs[j]?=some y→(args[j]?=some (trA zs y.1)∧tmV vs j=tmV vz j)∨(∃cs b,y.1=.box cs∧args[j]?=some (.gbox b cs)∧tmV vz j=.pointer (some ⟨b,0,none⟩)) ∨
  (∃g e z xs,(y.1=.own e z xs∨∃g',y.1=.gown g' e z xs)∧args[j]?=some (.gown g e z xs)∧g=y.1.valOf (tmV vz j))
theorem zL7.rep(hR:Rel S0 w0 n s a w){zs:List (AV×Option Nat)}{vz:Array Value}{args:List AV}{vs:Array Value}(h:zL7 S0 w0 s a w zs vz args vs)(hnd:(slotsOf zs).Nodup){E:Env}(hErd:E.rd=Shared S0 w0.heap.size w s (zai a))(hElent:∀b,E.lent b↔∃i,i∈slotsOf zs∧zaf (s i) (zai a i)=some b):zut w E args vs:=by
 have hslot:∀{i j:Nat} {x:AV},zs[j]?=some (x,some i)→∃y,args[j]?=some y∧(y.zaa=true∧zjc args y=true)∧(∀b,zaf (s i) (zai a i)=some b↔zaf y (tmV vs j)=some b)∧zaQ w E.rd E.lent (zbo args) (tmV vs) y (tmV vs j):=by
  intro i j x hj
  obtain⟨u,hu,hs,hbr,hown,hut⟩:=h.val j _ hj
  dsimp only at hs hbr hown
  have huv:tmV vz j=zai a i:=by rw[zc7 hu,hut]
  have hrep:=hR.rep i
  have hl:∀b,zaf (s i) (zai a i)=some b→E.lent b:=fun b hb=>(hElent b).2 ⟨i,zdR hj,hb⟩
  rcases h.at_ j _ hj with⟨h1,h2⟩ | ⟨cs,b',h1,h2,h3⟩ | ⟨g,e,z,xs',h1,h2,h3⟩
  ·have:trA zs x=x:=by cases x<;>first | rfl | (simp[AV.bare] at hbr)
   dsimp only at h1
   rw[this] at h1
   refine⟨x,h1,⟨hown,zuB hbr⟩,fun b=>by rw[h2,huv,hs],?_⟩
   rw[h2,huv,←hs]
   rw[←hs] at hbr
   exact hrep.bare hbr (fun b hb=>by rw[hErd];exact hb) (fun b hb _=>hl b hb)
  ·dsimp only at h1
   rw[huv] at h3
   rw[hs,h1,h3] at hrep hl
   refine⟨_,h2,⟨rfl,rfl⟩,fun b=>by rw[hs,h1,h3];rfl,?_⟩
   obtain⟨b2,arr,t,e,hh,hrl,hO⟩:=hrep
   obtain rfl:b2=b':=by simpa using e.symm
   exact⟨arr,t,hh,hrl.mono (fun b hb=>by rw[hErd];exact hb) (fun _ _=>rfl),hl _ rfl⟩
  ·dsimp only at h1 h3
   rw[huv] at h3
   refine⟨_,h2,⟨rfl,rfl⟩,fun b=>?_,?_⟩
   ·rw[hs]
    rcases h1 with h1 | ⟨g',h1⟩
    ·rw[h1] at h3 ⊢
     rw[h3];exact Iff.rfl
    ·rw[h1] at h3 ⊢
     rw[h3];exact Iff.rfl
   ·rw[hs] at hrep hl
    rcases h1 with h1 | ⟨g',h1⟩
    ·rw[h1] at h3 hrep hl
     obtain rfl:g=zai a i:=h3
     obtain⟨us,hown',hrl,hx,hm,hO⟩:=hrep
     exact⟨us,hown',hrl.mono (fun b hb=>by rw[hErd];exact hb) (fun _ _=>rfl),hx,hm,fun b hb=>hl b hb⟩
    ·rw[h1] at h3 hrep hl
     obtain rfl:g=g':=h3
     obtain⟨us,hown',hrl,hx,hm,hO⟩:=hrep
     exact⟨us,hown',hrl.mono (fun b hb=>by rw[hErd];exact hb) (fun _ _=>rfl),hx,hm,fun b hb=>hl b hb⟩
 have hbox:∀{i j:Nat} {x:AV} {b:Nat},zs[j]?=some (x,some i)→zaf (s i) (zai a i)=some b→(zbo args j).zaa=true∧zaf (zbo args j) (tmV vs j)=some b:=by
  intro i j x b hj hb
  obtain⟨y,h1,h2,h3,_⟩:=hslot hj
  have e:zbo args j=y:=by unfold zbo;rw[h1];rfl
  rw[e]
  exact⟨h2.1,(h3 b).1 hb⟩
 have hsome:∀{j:Nat} {x:AV},args[j]?=some x→∃y,zs[j]?=some y:=fun hj=>⟨_,List.getElem?_eq_getElem (by rw[←h.len];exact(List.getElem?_eq_some_iff.1 hj).1)⟩
 have hflat:∀{j:Nat} {x y:AV} {u:Value},zs[j]?=some (y,none)→args[j]?=some x→zaf x u=none:=by
  intro j x y u hy hx
  obtain⟨u',hu,hi⟩:=h.val j _ hy
  rcases h.at_ j _ hy with⟨h1,_⟩ | ⟨cs,b,h1,_⟩ | ⟨g,e,z,xs',h1,_⟩
  ·rw[h1] at hx
   injection hx with hx
   subst hx
   rcases hi.1 with⟨xv,hx⟩ | hx
   ·dsimp only at hx ⊢
    rw[hx];rfl
   ·dsimp only at hx ⊢
    cases y<;>first | (cases hx;done) | skip
    ·simp only[trA];split<;>rfl
    ·simp only[trA];split<;>rfl
  ·rcases hi.1 with⟨xv,hx⟩ | hx
   ·rw[h1] at hx;cases hx
   ·rw[h1] at hx;cases hx
  ·dsimp only at h1
   rcases hi.1 with⟨xv,hx⟩ | hx<;>dsimp only at hx
   ·rw[hx] at h1;rcases h1 with h1 | ⟨_,h1⟩<;>cases h1
   ·rcases h1 with h1 | ⟨_,h1⟩<;>rw[h1] at hx<;>cases hx
 have hslot':∀{j:Nat} {x:AV} {b:Nat},args[j]?=some x→zaf x (tmV vs j)=some b→∃i y,zs[j]?=some (y,some i)∧zaf (s i) (zai a i)=some b:=by
  intro j x b hj hb
  obtain⟨⟨y,q⟩,hy⟩:=hsome hj
  cases q with
  |none=>rw[hflat hy hj] at hb;cases hb
  |some i =>
   obtain⟨y',h1,_,h3,_⟩:=hslot hy
   rw[hj] at h1
   injection h1 with h1
   subst h1
   exact⟨i,y,hy,(h3 b).2 hb⟩
 refine⟨by rw[h.len];exact h.size,fun j x hj=>?_,fun i j x y b h1 h3 h4 h6=>?_,fun b hb=>?_⟩
 ·obtain⟨⟨y,q⟩,hy⟩:=hsome hj
  cases q with
  |some i =>
   obtain⟨y',h1,h2,_,h4⟩:=hslot hy
   rw[hj] at h1
   injection h1 with h1
   subst h1
   exact⟨h2.2,h4⟩
  |none =>
   obtain⟨u,hu,hi⟩:=h.val j _ hy
   rcases h.at_ j _ hy with⟨h1,h2⟩ | ⟨cs,b,h1,_⟩ | ⟨g,e,z,xs',h1,_⟩
   ·rw[h1] at hj
    injection hj with hj
    subst hj
    rw[h2,zc7 hu]
    obtain⟨hk,hr⟩:=hi
    dsimp only at hk hr ⊢
    rcases hk with⟨xv,hx⟩ | hx
    ·subst hx
     exact⟨rfl,zbL.mono hr (fun b hb=>by rw[hErd];exact hb) (fun _ _=>rfl)⟩
    ·cases y<;>first | (cases hx;done) | skip
     ·rename_i f caps
      simp only[trA]
      cases hc:trC zs caps with
      |none=>exact⟨rfl,trivial⟩
      |some cs =>
       obtain⟨us,hv,hl,hcap⟩:=hr
       obtain⟨k1,k2⟩:=zpp hc
       have hown:∀{i:Nat} {off:Nat} {u':Value},ziY w (Shared S0 w0.heap.size w s (zai a)) s (zai a) (.inr (i,off)) u'→∃b,zaf (s i) (zai a i)=some b:=by
        intro i off u' hc
        rw[zbF] at hc
        split at hc
        ·obtain⟨b,_,e⟩:=hc;exact⟨b,e⟩
        ·obtain⟨_,b,_,_,_,e⟩:=hc;exact⟨b,e⟩
       refine⟨?_,us,hv,by rw[hl,k1],fun m c hm=>?_⟩
       ·simp only[zjc]
        rw[List.all_eq_true]
        intro c hc'
        obtain⟨m,hm⟩:=List.getElem?_of_mem hc'
        rcases k2 m c hm with⟨x,rfl,_⟩ | ⟨i,j',off,x,rfl,hm2,hz⟩
        ·rfl
        ·obtain⟨u',_,hu'⟩:=hcap m _ hm2
         obtain⟨b,hb⟩:=hown hu'
         exact(hbox hz hb).1
       ·rcases k2 m c hm with⟨x,rfl,hm2⟩ | ⟨i,j',off,x,rfl,hm2,hz⟩
        ·obtain⟨u',h5,h6⟩:=hcap m _ hm2
         exact⟨u',h5,zaH.mono h6 (fun b hb=>by rw[hErd];exact hb) (fun _ _=>rfl)⟩
        ·obtain⟨u',h5,h6⟩:=hcap m _ hm2
         refine⟨u',h5,?_⟩
         rw[zbF] at h6 ⊢
         split at h6
         ·rename_i hi
          rw[if_pos hi]
          obtain⟨b,e1,e2⟩:=h6
          exact⟨b,e1,(hbox hz e2).2⟩
         ·rename_i hi
          rw[if_neg hi]
          obtain⟨b1,b,e1,e2,e3,e4⟩:=h6
          exact⟨b1,b,e1,by rw[hErd];exact e2,e3,(hbox hz e4).2⟩
     ·rename_i i off
      simp only[trA]
      cases hc:posOf i zs 0 with
      |none=>exact⟨rfl,trivial⟩
      |some j' =>
       obtain⟨_,x,hz⟩:=zfj hc
       obtain⟨b1,b,e1,e2,e3,e4⟩:=hr
       exact⟨(hbox hz e4).1,b1,b,e1,by rw[hErd];exact e2,e3,(hbox hz e4).2⟩
   ·rcases hi.1 with⟨xv,hx⟩ | hx
    ·rw[h1] at hx;cases hx
    ·rw[h1] at hx;cases hx
   ·dsimp only at h1
    rcases hi.1 with⟨xv,hx⟩ | hx<;>dsimp only at hx
    ·rw[hx] at h1;rcases h1 with h1 | ⟨_,h1⟩<;>cases h1
    ·rcases h1 with h1 | ⟨_,h1⟩<;>rw[h1] at hx<;>cases hx
 ·obtain⟨i1,y1,e1,e2⟩:=hslot' h1 h3
  obtain⟨i2,y2,f1,f2⟩:=hslot' h4 h6
  have:=hR.inj i1 i2 b e2 f2
  subst this
  exact zo3 hnd e1 f1
 ·obtain⟨i,hi,hb'⟩:=(hElent b).1 hb
  unfold slotsOf at hi
  rw[List.mem_filterMap] at hi
  obtain⟨⟨x,q⟩,hm,hq⟩:=hi
  dsimp only at hq
  subst hq
  obtain⟨j,hj⟩:=List.getElem?_of_mem hm
  obtain⟨y,h1,_,h3,_⟩:=hslot hj
  exact⟨j,y,h1,(h3 b).1 hb'⟩
structure zwH(zs:List (AV×Option Nat))(vz:Array Value)(args:List AV)(vs:Array Value)(outs outsC:List AV):Prop where
 len:outs.length=outsC.length
 at_:∀(j:Nat) (o:AV) (y:AV×Option Nat),outs[j]?=some o→zs[j]?=some y→(outsC[j]?=some o∧args[j]?=some (trA zs y.1)∧tmV vs j=tmV vz j) ∨
  (∃cs b co,y.1=.box cs∧args[j]?=some (.gbox b cs)∧tmV vz j=.pointer (some ⟨b,0,none⟩)∧o=.box co∧outsC[j]?=some (.gbox b co))
theorem zn2(hR:Rel S0 w0 n s a w){g:FuncId}{zs:List (AV×Option Nat)}{vz:Array Value}{args:List AV}{vs:Array Value}{r:RV}{outs outsC:List AV}{d:Nat}(hA:zL7 S0 w0 s a w zs vz args vs)(hnd:(slotsOf zs).Nodup)(hnl:zfM zs=true)
  (hC:zat P g args r outsC)(hO:zwH zs vz args vs outs outsC)(hd:S0.m≤d∧d<n) :
  Calls P g vs w fun e w'=>∃v,e=.returned v∧Rel S0 w0 n (Ab.put (zaI s zs outs) d r.av) (a.put (some d) v) w':=by
 obtain⟨_,hfit,hcalls⟩:=hC
 obtain⟨hl1,hfa⟩:=zbe hfit
 have hzl:zs.length=outs.length:=by rw[hO.len,←hl1,hA.len]
 let E:Env:=⟨Shared S0 w0.heap.size w s (zai a),fun b=>∃i,i∈slotsOf zs∧zaf (s i) (zai a i)=some b,0,fun _=>undef⟩
 have hE:Base E w:=by
  refine⟨fun b hb=>hb.2.1,fun b ⟨i,_,hi⟩=>((hR.rep i).zbk hi).2,fun b hb ⟨i,_,hi⟩=>hb.2.2 i hi,hR.lt.zJY hR.below,fun b hb ⟨i,_,hi⟩=>?_⟩
  rcases ((hR.rep i).zbk hi).1 with h | h
  ·have:=Amb.lt hR.lt.amb hb;omega
  ·exact hR.lt.far b hb h
 have hfit':zaU (zs.map (·.1)) outs=true:=by
  refine zjx (by simpa using hzl) (fun j x o h1 h2=>?_)
  rw[List.getElem?_map] at h1
  cases hy:zs[j]? with
  |none=>rw[hy] at h1;cases h1
  |some y =>
   rw[hy] at h1
   injection h1 with h1
   dsimp only at h1
   rcases hO.at_ j o y h2 hy with⟨k1,k2,_⟩ | ⟨cs,b,co,k1,_,_,rfl,_⟩
   ·have:=hfa j _ o k2 k1
    rw[h1] at this
    cases x<;>first | exact this | skip
    ·simp only[trA] at this
     split at this
     ·cases o<;>first | rfl | (simp[zau] at this)
     ·simp[zau] at this
    ·simp only[trA] at this
     split at this
     ·cases o<;>first | rfl | (simp[zau] at this)
     ·simp[zau] at this
   ·rw[←h1,k1];rfl
 have howned:∀b,zlL outsC vs b↔zlL outs vz b:=by
  have hz:∀{j:Nat} {o:AV},outs[j]?=some o→∃y,zs[j]?=some y:=fun h=>⟨_,List.getElem?_eq_getElem (by rw[hzl];exact(List.getElem?_eq_some_iff.1 h).1)⟩
  refine fun b=>⟨fun ⟨j,oC,h1,h2⟩=>?_,fun ⟨j,o,h1,h2⟩=>?_⟩
  ·obtain⟨o,ho⟩:∃o,outs[j]?=some o:=⟨_,List.getElem?_eq_getElem (by rw[hO.len];exact(List.getElem?_eq_some_iff.1 h1).1)⟩
   obtain⟨y,hy⟩:=hz ho
   refine⟨j,o,ho,?_⟩
   rcases hO.at_ j o y ho hy with⟨k1,_,k3⟩ | ⟨cs,b',co,_,_,k3,rfl,k5⟩
   ·rw[h1] at k1
    injection k1 with k1
    rw[←k1,←k3];exact h2
   ·rw[h1] at k5
    injection k5 with k5
    subst k5
    rw[k3];exact h2
  ·obtain⟨y,hy⟩:=hz h1
   rcases hO.at_ j o y h1 hy with⟨k1,_,k3⟩ | ⟨cs,b',co,_,_,k3,rfl,k5⟩
   ·exact⟨j,o,k1,by rw[k3];exact h2⟩
   ·rw[k3] at h2
    exact⟨j,_,k5,h2⟩
 have haft:∀w',After w w' E outsC vs=After w w' E outs vz:=by
  intro w'
  funext b
  simp only[After,howned b]
 refine(hcalls w E vs hE (hA.rep hR hnd rfl (fun b=>Iff.rfl))).mono ?_
 rintro e w' ⟨v,rfl,hkept,hr,hrb,hout⟩
 rw[haft w'] at hr hrb hout
 refine⟨v,rfl,?_⟩
 have hAs:zcp s (zaI s zs outs) (pairs zs outs):=by
  refine zdh zs outs s hR.wf hnd hzl (fun j x i o h1 h2=>?_)
  obtain⟨u,hu,hs,hb,ho,_⟩:=hA.val j _ h1
  dsimp only at hs hb ho
  subst hs
  have hf:=(zbe hfit').2 j _ o (by rw[List.getElem?_map,h1];rfl) h2
  refine⟨zfX hf,ho,?_⟩
  revert hf
  dsimp only
  generalize s i=z
  intro hf
  cases z<;>cases o<;>first | rfl | (simp[zau] at hf)
 have hvz:∀{j:Nat} {o:AV} {b:Nat},outs[j]?=some o→zaf o (tmV vz j)=some b→∃i x,zs[j]?=some (x,some i)∧zaf (s i) (zai a i)=some b:=by
  intro j o b h1 h2
  obtain⟨⟨x,q⟩,hy⟩:∃y,zs[j]?=some y:=⟨_,List.getElem?_eq_getElem (by rw[hzl];exact(List.getElem?_eq_some_iff.1 h1).1)⟩
  have hf:=(zbe hfit').2 j x o (by rw[List.getElem?_map,hy];rfl) h1
  obtain⟨u,hu,hq⟩:=hA.val j _ hy
  cases q with
  |none =>
   have:o=.dead:=by
    rcases hq.1 with⟨xv,hx⟩ | hx
    ·dsimp only at hx
     subst hx
     cases o<;>first | rfl | (simp[zau] at hf)
    ·cases x<;>first | (cases hx;done) | (cases o<;>first | rfl | (simp[zau] at hf))
   rw[this] at h2;cases h2
  |some i =>
   obtain⟨hs,hb,ho,rfl⟩:=hq
   dsimp only at hs
   rw[zc7 hu] at h2
   refine⟨i,x,hy,?_⟩
   subst hs
   exact zwj hf (hR.rep i) h2
 have hinj:∀(i j:Nat) (x y:AV) (b:Nat),outs[i]?=some x→zaf x (tmV vz i)=some b→outs[j]?=some y→zaf y (tmV vz j)=some b→i=j:=by
  intro i j x y b h1 h2 h3 h4
  obtain⟨i1,x1,e1,e2⟩:=hvz h1 h2
  obtain⟨i2,x2,f1,f2⟩:=hvz h3 h4
  have:=hR.inj i1 i2 b e2 f2
  subst this
  exact zo3 hnd e1 f1
 refine hR.zsM hd hA.val hzl (fun j x o h1 h2=>zfX ((zbe hfit').2 j x.1 o (by rw[List.getElem?_map,h1];rfl) h2)) (fun j i off d hl hi=>?_) hinj rfl (fun b=>Iff.rfl) hkept hr hrb (fun j o ho=>?_) hAs
 ·obtain⟨_,cs2,b2,k1,k2,_⟩:=(hR.rep j).zgK hl
  unfold slotsOf at hi
  rw[List.mem_filterMap] at hi
  obtain⟨⟨x,q⟩,hm,hq⟩:=hi
  dsimp only at hq
  subst hq
  obtain⟨j',hj'⟩:=List.getElem?_of_mem hm
  obtain⟨u,hu,hs,_⟩:=hA.val j' _ hj'
  dsimp only at hs
  have ht:=List.all_eq_true.1 hnl _ hm
  dsimp only at ht
  rw[←hs] at ht
  exact zv1 k1 ht k2
 obtain⟨y,hy⟩:∃y,zs[j]?=some y:=⟨_,List.getElem?_eq_getElem (by rw[hzl];exact(List.getElem?_eq_some_iff.1 ho).1)⟩
 rcases hO.at_ j o y ho hy with⟨k1,_,k3⟩ | ⟨cs,b',co,_,_,k3,rfl,k5⟩
 ·rw[←k3]
  have:=hout j o k1
  refine this.bare ?_ (fun _ h=>h) (fun b _ h=>.inl h)
  have hf:=(zbe hfit').2 j y.1 o (by rw[List.getElem?_map,hy];rfl) ho
  revert hf
  generalize y.1=z
  intro hf
  cases z<;>cases o<;>first | rfl | (simp[zau] at hf)
 ·rw[k3]
  obtain⟨arr,t,hh,hl,hB⟩:=hout j _ k5
  exact⟨b',arr,t,rfl,hh,hl,.inl hB⟩
theorem znr{s:St}{xs:List (AV×Option Nat)}{i:Nat}{cs:List CV}(h:ghost s xs=some (i,cs)):s i=.box cs:=by
 unfold ghost at h
 split at h
 ·cases h
 ·split at h
  ·rename_i hs
   simp only[Option.some.injEq,Prod.mk.injEq] at h
   obtain⟨rfl,rfl⟩:=h
   exact hs
  ·cases h
theorem zo2(hR:Rel S0 w0 n s a w){f:Operand}{args:Array Operand}{d:Nat}{K:St→Prop}(hc:zfS P s (zaZ s f args.toList) (fun xs r outs=>d<n∧K (Ab.put (zaI s xs outs) d r.av)))
  {o:Oper}(ho:∃ts,o.op=.call { callee:=.value f,args:=args,argTypes:=ts })(hdst:o.dst=some d)(hdm:S0.m≤d){K':Act→World→Prop}{Q:Exit→Act→World→Prop}
  (hK:∀s' a' w',Rel S0 w0 n s' a' w'→K s'→K' a' w'):o.wp P a w K' Q:=by
 obtain⟨ts,hop⟩:=ho
 unfold zfS at hc
 split at hc
 ·rename_i pp g ys e0
  obtain⟨hpp,hnlk,hnd,hcn⟩:=hc
  obtain⟨caps,xs,p,q,fv,ef,e2,e1,rfl,rfl⟩:∃caps xs p q fv,sv s f=(p,fv)∧zeE s args.toList=(q,some xs)∧fnM s fv=some (g,caps)∧pp=(p∧q)∧ys=xs++caps:=by
   unfold zaZ at e0
   split at e0
   ·rename_i p fv q xs ef e2
    split at e0
    ·rename_i g' caps e1
     simp only[Prod.mk.injEq,Option.some.injEq] at e0
     obtain⟨rfl,rfl,rfl⟩:=e0
     exact⟨caps,xs,p,q,fv,ef,e2,e1,rfl,rfl⟩
    ·simp at e0
   ·simp at e0
  obtain⟨hpf,hp⟩:=hpp
  have hsvf:=hR.sv f (by rw[ef];exact hpf)
  rw[ef] at hsvf
  obtain⟨us,hfv,hul,hcap⟩:=zCT hR hsvf e1
  obtain⟨hal,harg⟩:=zsX hR e2 hp
  have hm:args.map a.eval=(args.toList.map a.eval).toArray:=by apply Array.ext';simp
  have hvs:∀(j:Nat) (y:AV×Option Nat),(xs++caps)[j]?=some y→∃u,((args.toList.map a.eval).toArray++us)[j]?=some u∧zjk S0 w0 s a w y u:=by
   intro j y hj
   by_cases hlt:j<xs.length
   ·rw[List.getElem?_append_left hlt] at hj
    obtain⟨u,hu,hi⟩:=harg j y hj
    refine⟨u,?_,hi⟩
    rw[Array.getElem?_append_left (by simp[←hal];exact hlt)]
    simpa using hu
   ·rw[List.getElem?_append_right (by omega)] at hj
    obtain⟨u,hu,hi⟩:=hcap _ y hj
    refine⟨u,?_,hi⟩
    rw[Array.getElem?_append_right (by simp[←hal];omega)]
    simpa[hal] using hu
  have hsz:((args.toList.map a.eval).toArray++us).size=(xs++caps).length:=by simp[hal,hul]
  have fin:zea P g→(Calls P g ((args.toList.map a.eval).toArray++us) w fun e w'=>∃v s',e=.returned v∧K s'∧Rel S0 w0 n s' (a.put (some d) v) w')→o.wp P a w K' Q:=by
   rintro⟨fn,hfn,hname,hbody⟩ hcalls
   have hrun:(execOp a.eval o).run P w=.ok (.enter g (args.map a.eval++us)) w:=by
    simp only[execOp,hop,resolve,hfv,Deferred.ofValue,Sem.run_bind,Sem.run_pure,Result.andThen_ok,invoke,callFunc,run_program,hfn,hname,hbody,Bool.false_eq_true,if_false]
    simp
   unfold Oper.wp
   rw[hrun]
   simp only[Oper.upon]
   rw[hm,hdst]
   refine hcalls.mono ?_
   rintro e w' ⟨v,s',rfl,hk,hR'⟩
   exact hK _ _ _ hR' hk
  generalize ((args.toList.map a.eval).toArray++us)=vs at hvs hsz fin
  generalize xs++caps=ys at hvs hsz hnlk hnd hcn
  cases hgh:ghost s ys with
  |none =>
   rw[hgh] at hcn
   obtain⟨r,outs,hC,hd,hk⟩:=hcn
   have hA:zL7 S0 w0 s a w ys vs (zhd ys ys) vs:=⟨hvs,by
    have h1:∀(L l:List (AV×Option Nat)),(zhd L l).length=l.length:=fun L l=>by induction l<;>simp_all [zhd]
    exact h1 _ _,by omega,fun j y hy=>.inl ⟨by rw[zh7,hy];rfl,rfl⟩⟩
   refine fin hC.1 ((zn2 hR hA hnd hnlk hC ⟨rfl,fun j o y h1 h2=>.inl ⟨h1,by rw[zh7,h2];rfl,rfl⟩⟩ ⟨hdm,hd⟩).mono ?_)
   rintro e w' ⟨v,rfl,hR'⟩
   exact⟨v,_,rfl,hk,hR'⟩
  |some q =>
   obtain⟨i,cs⟩:=q
   have hsi:=znr hgh
   rw[hgh] at hcn
   obtain⟨hst,hnd',r,outs,co,hC,hd,hk⟩:=hcn
   have hrep:=hR.rep i
   rw[hsi] at hrep
   obtain⟨b,arr,t,htm,hh,hl,hB⟩:=hrep
   have hCb:=hC b
   have h1:∀(L l:List (AV×Option Nat)),(zhd L l).length=l.length:=fun L l=>by induction l<;>simp_all [zhd]
   have hzv:∀(j:Nat) (y:AV×Option Nat),(ys++[(AV.box cs,some i)])[j]?=some y→∃u,(vs.push (zai a i))[j]?=some u∧zjk S0 w0 s a w y u:=by
    intro j y hj
    by_cases hlt:j<ys.length
    ·rw[List.getElem?_append_left hlt] at hj
     obtain⟨u,hu,hi⟩:=hvs j y hj
     exact⟨u,by rw[Array.getElem?_push_lt (by omega)];rw[Array.getElem?_eq_getElem (by omega)] at hu;exact hu,hi⟩
    ·rw[List.getElem?_append_right (by omega)] at hj
     have hj0:j-ys.length=0:=by
      have:=(List.getElem?_eq_some_iff.1 hj).1
      simp at this;omega
     rw[hj0] at hj
     simp only[List.getElem?_cons_zero,Option.some.injEq] at hj
     subst hj
     refine⟨zai a i,?_,hsi,rfl,rfl,rfl⟩
     rw[show j=vs.size by omega]
     simp
   have hcase:∀(j:Nat) (y:AV×Option Nat),(ys++[(AV.box cs,some i)])[j]?=some y→(j<ys.length∧ys[j]?=some y)∨(j=ys.length∧y=(.box cs,some i)):=by
    intro j y hj
    by_cases hlt:j<ys.length
    ·rw[List.getElem?_append_left hlt] at hj;exact .inl ⟨hlt,hj⟩
    ·rw[List.getElem?_append_right (by omega)] at hj
     have hj0:j-ys.length=0:=by
      have:=(List.getElem?_eq_some_iff.1 hj).1
      simp at this;omega
     rw[hj0] at hj
     simp only[List.getElem?_cons_zero,Option.some.injEq] at hj
     exact .inr ⟨by omega,hj.symm⟩
   have hleft:∀(j:Nat) (y:AV×Option Nat),j<ys.length→ys[j]?=some y→(zhd (ys++[(AV.box cs,some i)]) ys++[AV.gbox b cs])[j]?=some (trA (ys++[(AV.box cs,some i)]) y.1)∧tmV vs j=tmV (vs.push (zai a i)) j:=by
    intro j y hlt hy
    refine⟨by rw[List.getElem?_append_left (by rw[h1];exact hlt),zh7,hy];rfl,?_⟩
    unfold tmV
    rw[Array.getElem?_push_lt (by omega),Array.getElem?_eq_getElem (by omega)]
   have hright:(zhd (ys++[(AV.box cs,some i)]) ys++[AV.gbox b cs])[ys.length]?=some (.gbox b cs)∧tmV (vs.push (zai a i)) ys.length=.pointer (some ⟨b,0,none⟩):=by
    refine⟨by rw[List.getElem?_append_right (by rw[h1];omega),h1];simp,?_⟩
    unfold tmV
    rw[show ys.length=vs.size by omega]
    simp[htm]
   have hA:zL7 S0 w0 s a w (ys++[(.box cs,some i)]) (vs.push (zai a i)) (zhd (ys++[(.box cs,some i)]) ys++[.gbox b cs]) vs:=by
    refine⟨hzv,by simp[h1],by simp;omega,fun j y hy=>?_⟩
    rcases hcase j y hy with⟨k1,k2⟩ | ⟨rfl,rfl⟩
    ·exact .inl (hleft j y k1 k2)
    ·exact .inr (.inl ⟨cs,b,rfl,hright.1,hright.2⟩)
   have hlo:outs.length=ys.length:=by
    have:=(zbe hCb.2.1).1
    simp[h1] at this
    omega
   have hO:zwH (ys++[(.box cs,some i)]) (vs.push (zai a i)) (zhd (ys++[(.box cs,some i)]) ys++[.gbox b cs]) vs (outs++[.box co]) (outs++[.gbox b co]):=by
    refine⟨by simp,fun j o y ho hy=>?_⟩
    rcases hcase j y hy with⟨k1,k2⟩ | ⟨rfl,rfl⟩
    ·rw[List.getElem?_append_left (by omega)] at ho
     exact .inl ⟨by rw[List.getElem?_append_left (by omega)];exact ho,hleft j y k1 k2⟩
    ·rw[List.getElem?_append_right (by omega)] at ho
     simp only[hlo,Nat.sub_self,List.getElem?_cons_zero,Option.some.injEq] at ho
     exact .inr ⟨cs,b,co,rfl,hright.1,hright.2,ho.symm,by rw[List.getElem?_append_right (by omega)];simp[hlo]⟩
   have hnl':zfM (ys++[(AV.box cs,some i)])=true:=by
    unfold zfM at hnlk ⊢
    rw[List.all_append,hnlk]
    simp[hst]
   refine fin hCb.1 ((zn2 hR hA hnd' hnl' hCb hO ⟨hdm,hd⟩).mono ?_)
   rintro e w' ⟨v,rfl,hR'⟩
   exact⟨v,_,rfl,hk,hR'⟩
 ·exact hc.elim
end
end Go.Ab
namespace Go.Ab
open Go Go.RowKit
variable [Amb]
section
variable {P:Program}{S0:Env}{w0 w:World}{n:Nat}{s:St}{a:Act}
theorem za5{α:Type}(cs vs:List α)(o j:Nat)(h:o+vs.length≤cs.length) :
  (zae cs o vs)[j]?=if j<o then cs[j]? else if j<o+vs.length then vs[j-o]? else cs[j]?:=by
 simp only[zae,List.append_assoc]
 rw[List.getElem?_append]
 simp only[List.length_take]
 by_cases h1:j<o
 ·rw[if_pos (by omega),if_pos h1,List.getElem?_take,if_pos h1]
 ·rw[if_neg (by omega),if_neg h1,List.getElem?_append]
  by_cases h2:j<o+vs.length
  ·rw[if_pos (by omega),if_pos h2];congr 1;omega
  ·rw[if_neg (by omega),if_neg h2,List.getElem?_drop];congr 1;omega
theorem zl8{α:Type}(f c:List α)(o size off:Nat)(h:o+size≤f.length)(hc:off+c.length≤size) :
  zae f o (zae ((f.drop o).take size) off c)=zae f (o+off) c:=by
 have hl:((f.drop o).take size).length=size:=by rw[List.length_take,List.length_drop];omega
 apply List.ext_getElem?
 intro j
 have hsl:(zae ((f.drop o).take size) off c).length=size:=by rw[zbM _ _ _ (by omega),hl]
 rw[za5 f _ o j (by omega),za5 ((f.drop o).take size) c off (j-o) (by omega),za5 f c (o+off) j (by omega),hsl]
 have hA:((f.drop o).take size)[j-o]?=if j-o<size then f[o+(j-o)]? else none:=by
  rw[List.getElem?_take];split<;>simp
 rw[hA]
 repeat' split
 all_goals first | rfl | (exfalso;omega) | (congr 1;omega)
theorem zi3{α:Type}(f c:List α)(o m:Nat)(h:o+c.length≤m)(hm:m≤f.length):(zae f o c).take m=zae (f.take m) o c:=by
 apply List.ext_getElem?
 intro j
 have hl:(f.take m).length=m:=by rw[List.length_take];omega
 rw[List.getElem?_take,za5 _ _ _ _ (by omega),za5 _ _ _ _ (by omega)]
 by_cases h1:j<m
 ·rw[if_pos h1]
  simp only[List.getElem?_take,if_pos h1]
 ·rw[if_neg h1,if_neg (by omega),if_neg (by omega),List.getElem?_take,if_neg h1]
def TK.cells:TK→Option Nat
 |.one=>some 1
 |.agg n=>some n
 |.bad=>none
def zcs(P:Program)(s:St)(t:TypeId)(addr x:Prop×AV):Prop×St:=
 match addr,x,(tk P t).cells with
 |(p,.ptr i off),(q,.x xv),some m=>match s i with
  |.box cs=>(p∧q∧xv.cells.length=m∧off+m≤cs.length,match zej cs off m with
   |false=>fun j=>if j=i then .box (zae cs off xv.cells) else s j
   |true=>fun j=>if j=i then .box (zae cs off xv.cells) else unlink s i off m j)
  |.gbox b cs=>(p∧q∧xv.cells.length=m∧off+m≤cs.length,match zej cs off m with
   |false=>fun j=>if j=i then .gbox b (zae cs off xv.cells) else s j
   |true=>fun j=>if j=i then .gbox b (zae cs off xv.cells) else unlink s i off m j)
  |_=>(False,s)
 |(p,.eptr i k off),(q,.x xv),some m=>match s i with
  |.own e size xs=>(p∧q∧xv.cells.length=m∧k<xs.length∧off+m≤size,fun j=>if j=i then .own e size (xs.set k (zae (xs.getD k []) off xv.cells)) else s j)
  |_=>(False,s)
 |_,_,_=>(False,s)
theorem ziC{t:TypeId}{m:Nat}(h:(tk P t).cells=some m)(hs:∀i,P.info? t=some i→tk P t=.one→i.size=1):(sizeOf t).run P w=.ok m w:=by
 cases hk:tk P t with
 |bad=>rw[hk] at h;cases h
 |agg k =>
  rw[hk] at h
  injection h with h
  subst h
  obtain⟨i,hi,hsz,_⟩:=zwl (w:=w) hk
  rw[run_sizeOf hi,hsz]
 |one =>
  rw[hk] at h
  injection h with h
  subst h
  have:∃ty,P.underlying t=some ty:=by
   unfold tk at hk
   split at hk<;>first | cases hk | skip
   rename_i ty hu _ _ _ _
   exact⟨ty,hu⟩
  obtain⟨ty,hu⟩:=this
  obtain⟨i,hi⟩:=info_of_underlying hu
  rw[run_sizeOf hi,hs i hi hk]
def zdQ(P:Program)(t:TypeId):Bool:=
 match P.info? t,tk P t with
 |some i,.one=>i.size==1
 |_,_=>true
theorem zfi{t:TypeId}(h:zdQ P t=true):∀i,P.info? t=some i→tk P t=.one→i.size=1:=by
 intro i hi hk
 unfold zdQ at h
 rw[hi,hk] at h
 simpa using h
theorem zet(t:TypeId)(g o:Nat)(ty:TypeId)(cur:Array Value)(v:Value){m:Nat}(hsz:(sizeOf t).run P w=.ok m w)(hm:v.cells.size=m)
  {fz:Nat×Nat}(hg:w.heap[g]?=some (.cells cur ty fz))(hfz:zli fz cur.size)(hl:o+m≤cur.size)(h1:∀u∈v.cells.toList,u.oneCell'=true) :
  (Instr.storeAt t (.pointer (some ⟨g,o,none⟩)) v).run P w=.ok () (w.setRow g (zae cur.toList o v.cells.toList).toArray):=by
 have hst:=zbG P g o ty fz v.cells.toList 0 cur w hg hfz (by simp;omega) h1
 simp only[Nat.add_zero] at hst
 simp only[Instr.storeAt,Instr.sureAddr,storeVar,Sem.run_bind,Sem.run_pure,Result.andThen_ok,hsz,hm,ne_eq,not_true_eq_false,if_false,hst,zae]
theorem zcJ(g:Nat)(cs:Array Value):w.grownBy (w.setRow g cs) (some g)∧(w.setRow g cs).heap.size=w.heap.size:=by
 refine⟨⟨rfl,rfl,rfl,by simp[World.setRow],fun k _ hk=>setRow_other w g k cs (fun e=>hk (by rw[e]))⟩,by simp[World.setRow]⟩
theorem zmE(hR:Rel S0 w0 n s a w){t:TypeId}{x y:Prop×AV}{u v:Value}(hx:Knows S0 w0 s a w x u)(hy:Knows S0 w0 s a w y v)(ht:zdQ P t=true)(hp:(zcs P s t x y).1) :
  ∃w',(Instr.storeAt t u v).run P w=.ok () w'∧Rel S0 w0 n (zcs P s t x y).2 a w':=by
 obtain⟨p,x⟩:=x
 obtain⟨q,y⟩:=y
 unfold zcs at hp ⊢
 split at hp
 ·rename_i p' i off q' xv m e1 e2 e3
  injection e1 with e1 e1';subst e1;subst e1'
  injection e2 with e2 e2';subst e2;subst e2'
  split at hp
  ·rename_i cs hs
   obtain⟨h1,h2,h3,h4⟩:=hp
   have hsz:=ziC (P:=P) (w:=w) e3 (zfi ht)
   obtain⟨b,rfl,hb⟩:=hx h1
   have hrep:=zbL.cells (hy h2)
   have hi:=hR.rep i
   rw[hs] at hi hb
   obtain⟨b',arr,ty,hv,hh,hl1,hB⟩:=hi
   rw[hv] at hb
   obtain rfl:b'=b:=by simpa[zaf] using hb
   have hl:=hl1
   have hvs:v.cells.size=m:=by have:=hrep.1;rw[h3] at this;simpa using this
   have harr:arr.size=cs.length:=by have:=hl.1;simpa using this
   refine⟨_,zet t b' off ty arr v hsz hvs hh (.inl rfl) (by omega) hrep.zeJ,?_⟩
   obtain⟨hg,hgs⟩:=zcJ (w:=w) b' (zae arr.toList off v.cells.toList).toArray
   have key:∀s1:St,Rel S0 w0 n s1 a w→s1 i=.box cs→(∀c,Shared S0 w0.heap.size w s1 (zai a) c↔Shared S0 w0.heap.size w s (zai a) c)→(∀j o d,(s1 j).zco i o d→o<off∨off+m≤o) →
     Rel S0 w0 n (fun j=>if j=i then .box (zae cs off xv.cells) else s1 j) a (w.setRow b' (zae arr.toList off v.cells.toList).toArray):=by
    intro s1 hR1 hs1 hsh hlk
    refine hR1.write (r:=.box (zae cs off xv.cells)) (b:=b') (by rw[hs1,hv];rfl) hg hgs (by rw[hv];rfl) rfl (by rw[hs1];rfl) (by rw[hs1];rfl) (by rw[hs1];rfl) (fun s'=>?_) (fun j o d cs2 hl hs2=>?_)
    ·have hsame:∀c,Shared S0 w0.heap.size w s1 (zai a) c→(w.setRow b' (zae arr.toList off v.cells.toList).toArray).heap[c]?=w.heap[c]?:=by
      intro c hc
      refine hg.block c hc.2.1 (fun e=>?_)
      injection e with e
      subst e
      exact hc.2.2 i (by rw[hs1,hv];rfl)
     refine⟨b',_,ty,hv,setRow_heap w b' arr _ ty _ hh,?_,hB⟩
     exact(hl1.zae hrep off).mono (fun b hb=>(hsh b).2 hb) (fun b hb=>hsame b ((hsh b).2 hb))
    ·rw[hs1] at hs2
     obtain rfl:cs=cs2:=by simpa[AV.zfQ] using hs2
     have ho:=hlk j o d hl
     have hne:∀{α:Type} (l c:List α),off+c.length≤l.length→c.length=m→(zae l off c)[o]?=l[o]?:=by
      intro α l c h1 h2
      rw[za5 _ _ _ _ h1]
      rcases ho with ho | ho
      ·rw[if_pos ho]
      ·rw[if_neg (by omega),if_neg (by omega)]
     refine⟨⟨_,rfl,hne _ _ (by rw[h3];exact h4) h3⟩,?_⟩
     rw[cell_of_row w b' o arr ty (0,0) hh,cell_of_row _ b' o _ ty (0,0) (setRow_heap w b' arr _ ty _ hh)]
     have:=hne arr.toList v.cells.toList (by simp[harr,hvs];omega) (by simp[hvs])
     simpa using this
   cases hany:zej cs off m with
   |false =>
    refine key s hR hs (fun _=>Iff.rfl) (fun j o d hl=>?_)
    obtain⟨_,cs2,b2,k1,k2,_⟩:=(hR.rep j).zgK hl
    rw[hs] at k1
    obtain rfl:cs=cs2:=by simpa[AV.zfQ] using k1
    exact zmw hany k2
   |true =>
    have hsi:unlink s i off m i=.box cs:=by rw[zav (by rw[hs];rfl),hs]
    have hown:∀j,(s j).zaa=true→unlink s i off m j=s j:=fun j=>zav
    refine key _ (hR.forget (fun j=>zay s i off m j) (fun j k hjk=>?_)) hsi (fun c=>?_) (fun j o d hl=>?_)
    ·have e:(s j).refs k=true:=by
      rcases zay s i off m j with e | e<;>rw[e] at hjk
      ·exact hjk
      ·cases hjk
     exact hown k (hR.wf j k e)
    ·constructor
     ·rintro⟨k1,k2,k3⟩
      refine⟨k1,k2,fun j hj=>k3 j ?_⟩
      have ho:(s j).zaa=true:=by
       cases h:(s j).zaa with
       |true=>rfl
       |false=>rw[zao h] at hj;cases hj
      rw[hown j ho];exact hj
     ·rintro⟨k1,k2,k3⟩
      refine⟨k1,k2,fun j hj=>k3 j ?_⟩
      rcases zay s i off m j with e | e<;>rw[e] at hj
      ·exact hj
      ·cases hj
    ·rcases Nat.lt_or_ge o off with h | h
     ·exact .inl h
     ·rcases Nat.lt_or_ge o (off+m) with h' | h'
      ·exfalso
       have h2:unlink s i off m j=.dead:=by
        unfold unlink
        have:(s j).zdm i off m=true:=by
         rcases zay s i off m j with e | e
         ·rw[e] at hl;exact AV.zed hl h h'
         ·rw[e] at hl;exact hl.elim
        rw[this]
       rw[h2] at hl;exact hl.elim
      ·exact .inr h'
  ·rename_i b cs hs
   obtain⟨h1,h2,h3,h4⟩:=hp
   have hsz:=ziC (P:=P) (w:=w) e3 (zfi ht)
   obtain⟨b',rfl,hb⟩:=hx h1
   have hrep:=zbL.cells (hy h2)
   have hi:=hR.rep i
   rw[hs] at hi hb
   obtain⟨arr,ty,hh,hl,hB⟩:=hi
   obtain rfl:b=b':=by simpa[zaf] using hb
   have hvs:v.cells.size=m:=by have:=hrep.1;rw[h3] at this;simpa using this
   have harr:arr.size=cs.length:=by have:=hl.1;simpa using this
   refine⟨_,zet t b off ty arr v hsz hvs hh (.inl rfl) (by omega) hrep.zeJ,?_⟩
   obtain⟨hg,hgs⟩:=zcJ (w:=w) b (zae arr.toList off v.cells.toList).toArray
   have key:∀s1:St,Rel S0 w0 n s1 a w→s1 i=.gbox b cs→(∀c,Shared S0 w0.heap.size w s1 (zai a) c↔Shared S0 w0.heap.size w s (zai a) c)→(∀j o d,(s1 j).zco i o d→o<off∨off+m≤o) →
     Rel S0 w0 n (fun j=>if j=i then .gbox b (zae cs off xv.cells) else s1 j) a (w.setRow b (zae arr.toList off v.cells.toList).toArray):=by
    intro s1 hR1 hs1 hsh hlk
    refine hR1.write (r:=.gbox b (zae cs off xv.cells)) (b:=b) (by rw[hs1];rfl) hg hgs rfl rfl (by rw[hs1];rfl) (by rw[hs1];rfl) (by rw[hs1];rfl) (fun s'=>?_) (fun j o d cs2 hl hs2=>?_)
    ·have hsame:∀c,Shared S0 w0.heap.size w s1 (zai a) c→(w.setRow b (zae arr.toList off v.cells.toList).toArray).heap[c]?=w.heap[c]?:=by
      intro c hc
      refine hg.block c hc.2.1 (fun e=>?_)
      injection e with e
      subst e
      exact hc.2.2 i (by rw[hs1];rfl)
     refine⟨_,ty,setRow_heap w b arr _ ty _ hh,?_,hB⟩
     exact(hl.zae hrep off).mono (fun b hb=>(hsh b).2 hb) (fun b hb=>hsame b ((hsh b).2 hb))
    ·rw[hs1] at hs2
     obtain rfl:cs=cs2:=by simpa[AV.zfQ] using hs2
     have ho:=hlk j o d hl
     have hne:∀{α:Type} (l c:List α),off+c.length≤l.length→c.length=m→(zae l off c)[o]?=l[o]?:=by
      intro α l c h1 h2
      rw[za5 _ _ _ _ h1]
      rcases ho with ho | ho
      ·rw[if_pos ho]
      ·rw[if_neg (by omega),if_neg (by omega)]
     refine⟨⟨_,rfl,hne _ _ (by rw[h3];exact h4) h3⟩,?_⟩
     rw[cell_of_row w b o arr ty (0,0) hh,cell_of_row _ b o _ ty (0,0) (setRow_heap w b arr _ ty _ hh)]
     have:=hne arr.toList v.cells.toList (by simp[harr,hvs];omega) (by simp[hvs])
     simpa using this
   cases hany:zej cs off m with
   |false =>
    refine key s hR hs (fun _=>Iff.rfl) (fun j o d hl=>?_)
    obtain⟨_,cs2,b2,k1,k2,_⟩:=(hR.rep j).zgK hl
    rw[hs] at k1
    obtain rfl:cs=cs2:=by simpa[AV.zfQ] using k1
    exact zmw hany k2
   |true =>
    have hsi:unlink s i off m i=.gbox b cs:=by rw[zav (by rw[hs];rfl),hs]
    have hown:∀j,(s j).zaa=true→unlink s i off m j=s j:=fun j=>zav
    refine key _ (hR.forget (fun j=>zay s i off m j) (fun j k hjk=>?_)) hsi (fun c=>?_) (fun j o d hl=>?_)
    ·have e:(s j).refs k=true:=by
      rcases zay s i off m j with e | e<;>rw[e] at hjk
      ·exact hjk
      ·cases hjk
     exact hown k (hR.wf j k e)
    ·constructor
     ·rintro⟨k1,k2,k3⟩
      refine⟨k1,k2,fun j hj=>k3 j ?_⟩
      have ho:(s j).zaa=true:=by
       cases h:(s j).zaa with
       |true=>rfl
       |false=>rw[zao h] at hj;cases hj
      rw[hown j ho];exact hj
     ·rintro⟨k1,k2,k3⟩
      refine⟨k1,k2,fun j hj=>k3 j ?_⟩
      rcases zay s i off m j with e | e<;>rw[e] at hj
      ·exact hj
      ·cases hj
    ·rcases Nat.lt_or_ge o off with h | h
     ·exact .inl h
     ·rcases Nat.lt_or_ge o (off+m) with h' | h'
      ·exfalso
       have h2:unlink s i off m j=.dead:=by
        unfold unlink
        have:(s j).zdm i off m=true:=by
         rcases zay s i off m j with e | e
         ·rw[e] at hl;exact AV.zed hl h h'
         ·rw[e] at hl;exact hl.elim
        rw[this]
       rw[h2] at hl;exact hl.elim
      ·exact .inr h'
  ·exact hp.elim
 ·rename_i p' i k off q' xv m e1 e2 e3
  injection e1 with e1 e1';subst e1;subst e1'
  injection e2 with e2 e2';subst e2;subst e2'
  split at hp
  ·rename_i e size xs hs
   obtain⟨h1,h2,h3,h4,h5⟩:=hp
   have hsz:=ziC (P:=P) (w:=w) e3 (zfi ht)
   obtain⟨b,rfl,hb⟩:=hx h1
   have hrep:=zbL.cells (hy h2)
   have hi:=hR.rep i
   rw[hs] at hi hb
   obtain⟨us,hown,hl,hxs,hm,hO⟩:=hi
   have hvs:v.cells.size=m:=by have:=hrep.1;rw[h3] at this;simpa using this
   rcases hown.2 with⟨hnil,_⟩ | ⟨g,cap,cur,hv,hbg,⟨fz,hh,hfz⟩,hnc,hcm,hcs,htake⟩
   ·rw[hnil] at hb;simp[zaf,Value.ownBlock] at hb
   ·have hbb:zaf (AV.own e size xs) (zai a i)=some g:=by rw[hv];rfl
    rw[hbb] at hb
    injection hb with hb
    subst hb
    have hsi:(s i).size=size:=by rw[hs];rfl
    have hkl:(xs.getD k []).length=size:=zzA hxs h4
    have hin:k*size+size≤xs.length*size:=by
     have:(k+1)*size≤xs.length*size:=Nat.mul_le_mul_right _ h4
     rw[Nat.add_mul] at this;omega
    have hcap:xs.length*size≤cap*size:=Nat.mul_le_mul_right _ hnc
    refine⟨_,zet t g _ e cur v hsz hvs hh hfz (by rw[hsi];omega) hrep.zeJ,?_⟩
    obtain⟨hg,hgs⟩:=zcJ (w:=w) g (zae cur.toList (k*(s i).size+off) v.cells.toList).toArray
    refine hR.write (r:=.own e size (xs.set k (zae (xs.getD k []) off xv.cells))) (b:=g) (by rw[hs];exact hbb) hg hgs (by rw[hv];rfl) rfl (by rw[hs];rfl) (by rw[hs];simp[AV.len]) (by rw[hs];rfl) (fun s'=>?_) (fun j o d cs2 hl2 hs2=>by rw[hs] at hs2;cases hs2)
    have hsame:∀c,Shared S0 w0.heap.size w s (zai a) c→(w.setRow g (zae cur.toList (k*(s i).size+off) v.cells.toList).toArray).heap[c]?=w.heap[c]?:=by
     intro c hc
     refine hg.block c hc.2.1 (fun e=>?_)
     injection e with e
     subst e
     exact hc.2.2 i (by rw[hs];exact hbb)
    have hxs':∀x∈xs.set k (zae (xs.getD k []) off xv.cells),x.length=size:=by
     intro x hx
     rcases List.mem_or_eq_of_mem_set hx with hx | hx
     ·exact hxs x hx
     ·rw[hx,zbM _ _ _ (by rw[hkl,h3];exact h5),hkl]
    have hflat:(xs.set k (zae (xs.getD k []) off xv.cells)).flatten=zae xs.flatten (k*size+off) xv.cells:=by
     rw[zmA hxs h4 (by rw[zbM _ _ _ (by rw[hkl,h3];exact h5),hkl])]
     have hfl:=zbv hxs
     have hdrop:(xs.flatten.drop (k*size)).take size=xs.getD k []:=by
      apply List.ext_getElem?
      intro j
      by_cases hj:j<size
      ·rw[List.getElem?_take,if_pos hj,List.getElem?_drop]
       exact zj1 hxs (c:=(xs.getD k [])[j]'(by omega)) (List.getElem?_eq_getElem (by omega)) |>.trans (List.getElem?_eq_getElem (by omega)).symm
      ·rw[List.getElem?_eq_none (by simp;omega),List.getElem?_eq_none (by omega)]
     rw[←hdrop]
     exact zl8 _ _ _ _ _ (by omega) (by omega)
    refine⟨zae us (k*size+off) v.cells.toList,⟨?_,.inr ⟨g,cap,_,by rw[List.length_set];exact hv,hbg,⟨fz,setRow_heap w g cur _ e _ hh,by rw[List.size_toArray,zbM _ _ _ (by simp[hvs];rw[hsi];omega),Array.length_toList];exact hfz⟩,by simpa using hnc,hcm,?_,?_⟩⟩,?_,hxs',by simpa using hm,hO⟩
    ·have hul:us.length=xs.length*size:=by have:=hown.1;exact this
     rw[zbM _ _ _ (by simp[hvs,hul];omega)]
     simpa using hown.1
    ·simp only[List.size_toArray]
     rw[zbM _ _ _ (by simp[hvs];rw[hsi];omega)]
     simpa using hcs
    ·rw[hsi]
     simp only[List.length_set]
     rw[←htake]
     exact zi3 _ _ _ _ (by simp[hvs];omega) (by simp[hcs];omega)
    ·rw[hflat]
     exact(hl.zae hrep _).mono (fun _ h=>h) hsame
  ·exact hp.elim
 ·exact hp.elim
def zbc(s:St)(addr x:Prop×AV):Option (Prop×Nat×Nat×Nat):=
 match x with
 |(q,.alias d)=>match addr with
  |(p,.ptr i off)=>match s MARK with
   |.res l=>match l.contains (i,off) with
    |true=>some (p∧q,i,off,d)
    |false=>none
   |_=>none
  |_=>none
 |_=>none
def AV.tight:AV→Bool
 |.box _=>true
 |.own _ _ _=>true
 |.mp _ _ _=>true
 |_=>false
theorem AV.zcD{a:AV}(h:a.tight=true):a.zaa=true:=by cases a<;>first | rfl | cases h
def zar(P:Program)(s:St)(t:TypeId)(i off d:Nat):Prop×St:=
 match tk P t,s i with
 |.one,.box cs=>(off<cs.length∧(s d).tight=true∧(s (LK i off)).free=true,fun j=>if j=i then .box (cs.set off .any) else if j=LK i off then .link i off d else unlink s i off 1 j)
 |.one,.gbox b cs=>(off<cs.length∧(s d).tight=true∧(s (LK i off)).free=true,fun j=>if j=i then .gbox b (cs.set off .any) else if j=LK i off then .link i off d else unlink s i off 1 j)
 |_,_=>(False,s)
theorem zc9{s:St}{addr x:Prop×AV}{p:Prop}{i off d:Nat}(h:zbc s addr x=some (p,i,off,d)):∃p1 q,addr=(p1,.ptr i off)∧x=(q,.alias d)∧p=(p1∧q):=by
 unfold zbc at h
 split at h
 ·split at h
  ·split at h
   ·split at h
    ·simp only[Option.some.injEq,Prod.mk.injEq] at h
     obtain⟨rfl,rfl,rfl,rfl⟩:=h
     exact⟨_,_,rfl,rfl,rfl⟩
    ·cases h
   ·cases h
  ·cases h
 ·cases h
theorem Rel.zlQ{k i off d b:Nat}{cs:List CV}(hR:Rel S0 w0 n s a w)(hk:(s k).free=true)(hd:(s d).zaa=true)(hs:(s i).zfQ=some cs)(hc:cs[off]?=some .any)(hb:zaf (s i) (zai a i)=some b)(hv:w.cell? ⟨b,off,none⟩=some ((s d).valOf (zai a d))) :
  Rel S0 w0 n (fun j=>if j=k then .link i off d else s j) a w:=by
 have hko:∀j,(s j).zaa=true→j≠k:=by rintro j h rfl;rw[zcS hk] at h;cases h
 have hblk:∀j c,zaf (if j=k then AV.link i off d else s j) (zai a j)=some c→j≠k∧zaf (s j) (zai a j)=some c:=by
  intro j c hj
  by_cases hjk:j=k
  ·rw[if_pos hjk] at hj;cases hj
  ·rw[if_neg hjk] at hj;exact⟨hjk,hj⟩
 have hsub:∀c,Shared S0 w0.heap.size w s (zai a) c→Shared S0 w0.heap.size w (fun j=>if j=k then .link i off d else s j) (zai a) c:=fun c hc=>⟨hc.1,hc.2.1,fun j hj=>hc.2.2 j (hblk j c hj).2⟩
 have hik:=hko i (AV.zba hs)
 refine⟨hR.defers,hR.size,hR.below,hR.lt,fun j=>?_,fun j m c hj hm=>hR.inj j m c (hblk j c hj).2 (hblk m c hm).2,fun j hj=>?_,fun j m hjm=>?_,hR.pin⟩
 ·by_cases hjk:j=k
  ·subst hjk
   simp only[if_pos]
   refine⟨?_,cs,b,?_,hc,?_,by simp only[if_neg (hko d hd)];exact hv⟩
   ·simp only[if_neg (hko d hd)];exact hd
   ·simp only[if_neg hik];exact hs
   ·simp only[if_neg hik];exact hb
  ·simp only[if_neg hjk]
   refine(hR.rep j).mono hsub (fun _ _=>rfl) (fun _ _=>rfl) (fun m hm=>?_) (fun i' off' d' cs' b' hl hs' _=>⟨⟨cs',by simp only[if_neg (hko i' (AV.zba hs'))];exact hs',rfl⟩,rfl⟩)
   have hmk:=hko m ((hR.rep j).leads hm)
   simp only[if_neg hmk]
   exact⟨trivial,fun h=>⟨h,trivial,trivial,trivial⟩,fun c hc=>hc⟩
 ·by_cases hjk:j=k
  ·simp only[if_pos hjk];rfl
  ·simp only[if_neg hjk];exact hR.out j hj
 ·by_cases hjk:j=k
  ·simp only[if_pos hjk] at hjm
   simp only[AV.refs,Bool.or_eq_true,beq_iff_eq] at hjm
   rcases hjm with rfl | rfl
   ·simp only[if_neg hik];exact AV.zba hs
   ·simp only[if_neg (hko _ hd)];exact hd
  ·simp only[if_neg hjk] at hjm
   have:=hR.wf j m hjm
   simp only[if_neg (hko m this)]
   exact this
theorem zeK{α:Type}(l:List α)(o:Nat)(x:α)(h:o<l.length):l.set o x=zae l o [x]:=by
 apply List.ext_getElem?
 intro j
 rw[za5 _ _ _ _ (by simp;omega),List.getElem?_set]
 simp only[List.length_singleton]
 by_cases h1:o=j
 ·subst h1;simp[h]
 ·rw[if_neg h1]
  by_cases h2:j<o
  ·rw[if_pos h2]
  ·rw[if_neg h2,if_neg (by omega)]
theorem zrj(hR:Rel S0 w0 n s a w){t:TypeId}{p q:Prop}{i off d:Nat}{u v:Value}(hx:Knows S0 w0 s a w (p,.ptr i off) u)(hy:Knows S0 w0 s a w (q,.alias d) v)(ht:zdQ P t=true)(hpq:p∧q)(hp:(zar P s t i off d).1) :
  ∃w',(Instr.storeAt t u v).run P w=.ok () w'∧Rel S0 w0 n (zar P s t i off d).2 a w':=by
 unfold zar at hp ⊢
 split at hp
 ·rename_i cs hk hs
  obtain⟨hlt,hdo,hfree⟩:=hp
  have hdo':=AV.zcD hdo
  have hval:∀u,(s d).valOf u=u:=fun u=>by cases hsd:s d<;>rw[hsd] at hdo<;>first | rfl | cases hdo
  obtain⟨hv,_⟩:=hy hpq.2
  rw[hval] at hv
  have hone:v.oneCell'=true:=by
   have h:=hR.rep d
   rw[hv]
   cases hsd:s d<;>rw[hsd] at h hdo<;>first | (cases hdo;done) | skip
   ·obtain⟨b,arr,ty,e,_⟩:=h;rw[e];rfl
   ·obtain⟨us,hown,_⟩:=h
    rcases hown.2 with⟨e,_⟩ | ⟨g,cap,cur,e,_⟩<;>rw[e]<;>rfl
   ·obtain⟨b,ents,e,_⟩:=h;rw[e];rfl
  obtain⟨w',h1,h2⟩:=zmE (P:=P) hR (t:=t) (x:=(p,.ptr i off)) (y:=(True,.x (.one .any))) (u:=u) (v:=v) hx (fun _=>zaH.any v hone) ht (by
   unfold zcs
   simp only[hk,TK.cells,hs]
   exact⟨hpq.1,trivial,rfl,by omega⟩)
  refine⟨w',h1,?_⟩
  obtain⟨b,hub,hbi⟩:=hx hpq.1
  have hbx:=hR.rep i
  rw[hs] at hbx hbi
  obtain⟨b',arr,ty,hv2,hh,hl,hB⟩:=hbx
  rw[hv2] at hbi
  obtain rfl:b'=b:=by simpa[zaf] using hbi
  have harr:arr.size=cs.length:=by have:=hl.1;simpa using this
  have hvc:v.cells=#[v]:=by cases v<;>first | rfl | (simp[Value.oneCell'] at hone)
  have hw:w'=w.setRow b' (zae arr.toList off [v]).toArray:=by
   have hsz:=ziC (P:=P) (w:=w) (t:=t) (m:=1) (by rw[hk];rfl) (zfi ht)
   have:=zet (P:=P) t b' off ty arr v hsz (by rw[hvc];rfl) hh (.inl rfl) (by omega) (by rw[hvc];simpa using hone)
   rw[hub,this] at h1
   injection h1 with _ h1
   rw[←h1,hvc]
  have hcell:w'.cell? ⟨b',off,none⟩=some v:=by
   rw[hw,cell_of_row _ b' off _ ty (0,0) (setRow_heap w b' arr _ ty _ hh)]
   rw[←zeK _ _ _ (by simpa[harr] using hlt)]
   simp[harr,hlt]
  have hset:zae cs off [CV.any]=cs.set off .any:=(zeK cs off .any hlt).symm
  have huo:∀j,(s j).zaa=true→unlink s i off 1 j=s j:=fun j=>zav
  have hdi:d≠i∨d=i:=by omega
  have h3:Rel S0 w0 n (fun j=>if j=i then .box (cs.set off .any) else unlink s i off 1 j) a w':=by
   unfold zcs at h2
   simp only[hk,TK.cells,hs,XV.cells,hset] at h2
   cases hany:zej cs off 1 with
   |true=>rw[hany] at h2;exact h2
   |false =>
    rw[hany] at h2
    refine h2.forget (fun j=>?_) (fun j m hjm=>?_)
    ·by_cases hj:j=i
     ·simp only[if_pos hj];exact .inl trivial
     ·simp only[if_neg hj];exact zay s i off 1 j
    ·by_cases hm:m=i
     ·simp only[if_pos hm]
     ·simp only[if_neg hm]
      refine huo m ?_
      by_cases hj:j=i
      ·simp only[if_pos hj] at hjm;cases hjm
      ·simp only[if_neg hj] at hjm
       rcases zay s i off 1 j with e | e<;>rw[e] at hjm
       ·exact hR.wf j m hjm
       ·cases hjm
  have hLK:LK i off≠i:=by
   intro e
   rw[e,hs] at hfree;cases hfree
  have h4:=h3.zlQ (k:=LK i off) (i:=i) (off:=off) (d:=d) (b:=b') (cs:=cs.set off .any) (by
    simp only[if_neg hLK]
    rcases zay s i off 1 (LK i off) with e | e<;>rw[e]
    ·exact hfree
    ·rfl) (by
    by_cases hd:d=i
    ·simp only[if_pos hd];rfl
    ·simp only[if_neg hd];rw[huo d hdo'];exact hdo') (by simp[AV.zfQ]) (by simp[hlt]) (by simp only[if_pos];rw[hv2];rfl) (by
    rw[hcell,hv]
    by_cases hd:d=i
    ·subst hd;simp only[if_pos];rfl
    ·simp only[if_neg hd];rw[huo d hdo',hval])
  have e:(fun j=>if j=LK i off then AV.link i off d else if j=i then AV.box (cs.set off .any) else unlink s i off 1 j)=(fun j=>if j=i then .box (cs.set off .any) else if j=LK i off then .link i off d else unlink s i off 1 j):=by
   funext j
   by_cases hj:j=i
   ·subst hj;simp[hLK.symm]
   ·simp[hj]
  rw[e] at h4
  exact h4
 ·rename_i b' cs hk hs
  obtain⟨hlt,hdo,hfree⟩:=hp
  have hdo':=AV.zcD hdo
  have hval:∀u,(s d).valOf u=u:=fun u=>by cases hsd:s d<;>rw[hsd] at hdo<;>first | rfl | cases hdo
  obtain⟨hv,_⟩:=hy hpq.2
  rw[hval] at hv
  have hone:v.oneCell'=true:=by
   have h:=hR.rep d
   rw[hv]
   cases hsd:s d<;>rw[hsd] at h hdo<;>first | (cases hdo;done) | skip
   ·obtain⟨b,arr,ty,e,_⟩:=h;rw[e];rfl
   ·obtain⟨us,hown,_⟩:=h
    rcases hown.2 with⟨e,_⟩ | ⟨g,cap,cur,e,_⟩<;>rw[e]<;>rfl
   ·obtain⟨b,ents,e,_⟩:=h;rw[e];rfl
  obtain⟨w',h1,h2⟩:=zmE (P:=P) hR (t:=t) (x:=(p,.ptr i off)) (y:=(True,.x (.one .any))) (u:=u) (v:=v) hx (fun _=>zaH.any v hone) ht (by
   unfold zcs
   simp only[hk,TK.cells,hs]
   exact⟨hpq.1,trivial,rfl,by omega⟩)
  refine⟨w',h1,?_⟩
  obtain⟨b,hub,hbi⟩:=hx hpq.1
  have hbx:=hR.rep i
  rw[hs] at hbx hbi
  obtain⟨arr,ty,hh,hl,hB⟩:=hbx
  obtain rfl:b'=b:=by simpa[zaf] using hbi
  have harr:arr.size=cs.length:=by have:=hl.1;simpa using this
  have hvc:v.cells=#[v]:=by cases v<;>first | rfl | (simp[Value.oneCell'] at hone)
  have hw:w'=w.setRow b' (zae arr.toList off [v]).toArray:=by
   have hsz:=ziC (P:=P) (w:=w) (t:=t) (m:=1) (by rw[hk];rfl) (zfi ht)
   have:=zet (P:=P) t b' off ty arr v hsz (by rw[hvc];rfl) hh (.inl rfl) (by omega) (by rw[hvc];simpa using hone)
   rw[hub,this] at h1
   injection h1 with _ h1
   rw[←h1,hvc]
  have hcell:w'.cell? ⟨b',off,none⟩=some v:=by
   rw[hw,cell_of_row _ b' off _ ty (0,0) (setRow_heap w b' arr _ ty _ hh)]
   rw[←zeK _ _ _ (by simpa[harr] using hlt)]
   simp[harr,hlt]
  have hset:zae cs off [CV.any]=cs.set off .any:=(zeK cs off .any hlt).symm
  have huo:∀j,(s j).zaa=true→unlink s i off 1 j=s j:=fun j=>zav
  have hdi:d≠i∨d=i:=by omega
  have h3:Rel S0 w0 n (fun j=>if j=i then .gbox b' (cs.set off .any) else unlink s i off 1 j) a w':=by
   unfold zcs at h2
   simp only[hk,TK.cells,hs,XV.cells,hset] at h2
   cases hany:zej cs off 1 with
   |true=>rw[hany] at h2;exact h2
   |false =>
    rw[hany] at h2
    refine h2.forget (fun j=>?_) (fun j m hjm=>?_)
    ·by_cases hj:j=i
     ·simp only[if_pos hj];exact .inl trivial
     ·simp only[if_neg hj];exact zay s i off 1 j
    ·by_cases hm:m=i
     ·simp only[if_pos hm]
     ·simp only[if_neg hm]
      refine huo m ?_
      by_cases hj:j=i
      ·simp only[if_pos hj] at hjm;cases hjm
      ·simp only[if_neg hj] at hjm
       rcases zay s i off 1 j with e | e<;>rw[e] at hjm
       ·exact hR.wf j m hjm
       ·cases hjm
  have hLK:LK i off≠i:=by
   intro e
   rw[e,hs] at hfree;cases hfree
  have h4:=h3.zlQ (k:=LK i off) (i:=i) (off:=off) (d:=d) (b:=b') (cs:=cs.set off .any) (by
    simp only[if_neg hLK]
    rcases zay s i off 1 (LK i off) with e | e<;>rw[e]
    ·exact hfree
    ·rfl) (by
    by_cases hd:d=i
    ·simp only[if_pos hd];rfl
    ·simp only[if_neg hd];rw[huo d hdo'];exact hdo') (by simp[AV.zfQ]) (by simp[hlt]) (by simp only[if_pos];rfl) (by
    rw[hcell,hv]
    by_cases hd:d=i
    ·subst hd;simp only[if_pos];rfl
    ·simp only[if_neg hd];rw[huo d hdo',hval])
  have e:(fun j=>if j=LK i off then AV.link i off d else if j=i then AV.gbox b' (cs.set off .any) else unlink s i off 1 j)=(fun j=>if j=i then .gbox b' (cs.set off .any) else if j=LK i off then .link i off d else unlink s i off 1 j):=by
   funext j
   by_cases hj:j=i
   ·subst hj;simp[hLK.symm]
   ·simp[hj]
  rw[e] at h4
  exact h4
 ·exact hp.elim
end
end Go.Ab
namespace Go.Ab
open Go Go.RowKit
variable [Amb]
def zaV(g:Nat→Value):Nat→List (Nat×Nat×List (List CV))→List AV
 |_,[]=>[]
 |k,(e,z,xs)::r=>.gown (g k) e z xs::zaV g (k+1) r
theorem zit(g:Nat→Value):∀(l:List (Nat×Nat×List (List CV))) (k:Nat),(zaV g k l).length=l.length
 |[],_=>rfl
 |_::r,k=>by simp[zaV,zit g r]
theorem zkV(g:Nat→Value):∀(l:List (Nat×Nat×List (List CV))) (k j:Nat),(zaV g k l)[j]?=(l[j]?).map fun x=>AV.gown (g (k+j)) x.1 x.2.1 x.2.2
 |[],_,j=>by simp[zaV]
 |(e,z,xs)::r,k,0=>by simp[zaV]
 |(e,z,xs)::r,k,j+1=>by
  simp only[zaV,List.getElem?_cons_succ]
  rw[zkV g r (k+1) j]
  congr 2
  funext x
  rw[show k+1+j=k+(j+1) by omega]
def zoR(w:World)(s:St)(tm:Nat→Value)(lk:List (Nat×Nat))(base:Nat):Prop:=
 ∀(k i off:Nat),lk[k]?=some (i,off)→(s (base+k)).zaa=true∧∃cs b,(s i).zfQ=some cs∧cs[off]?=some .any∧zaf (s i) (tm i)=some b∧w.cell? ⟨b,off,none⟩=some ((s (base+k)).valOf (tm (base+k)))
def zfT(P:Program)(f:FuncId)(args:List AV)(gi:List (Nat×Nat×List (List CV)))(lk:List (Nat×Nat))(r:RV)(outs:List AV)(go:List (Nat×Nat×List (List CV))):Prop:=
 zea P f∧zaU args outs=true∧gi.length=lk.length∧go.length=lk.length∧(∀v,r.blk v=none)∧∀(w:World) (E:Env) (vs:Array Value) (g:Nat→Value),Base E w→zut w E (args++zaV g 0 gi) vs→zoR w (zbo (args++zaV g 0 gi)) (tmV vs) lk args.length →
  Calls P f vs w fun e w'=>∃v g',e=.returned v∧Kept E.lent w w'∧zkq w' (After w w' E (outs++zaV g' 0 go) vs) r v ∧
   (∀(j:Nat) (o:AV),(outs++zaV g' 0 go)[j]?=some o→zaQ w' (After w w' E (outs++zaV g' 0 go) vs) (fun b=>E.lent b∨w.heap.size≤b) zkd zDA o (tmV vs j)) ∧
   (∀(i j:Nat) (x y:AV) (b:Nat),(outs++zaV g' 0 go)[i]?=some x→zaf x (tmV vs i)=some b→(outs++zaV g' 0 go)[j]?=some y→zaf y (tmV vs j)=some b→i=j) ∧
   zoR w' (zbo (outs++zaV g' 0 go)) (tmV vs) lk args.length
def slE:AV→Option (Nat×Nat×List (List CV))
 |.own e z xs=>some (e,z,xs)
 |.gown _ e z xs=>some (e,z,xs)
 |_=>none
def zkp(i off:Nat):AV→Option Nat
 |.link i' o d=>if i'=i∧o=off then some d else none
 |_=>none
theorem zly{i off d:Nat}{a:AV}(h:zkp i off a=some d):a=.link i off d:=by
 unfold zkp at h
 split at h
 ·split at h
  ·rename_i e;injection h with h;rw[e.1,e.2,h]
  ·cases h
 ·cases h
def zdx(s:St)(i:Nat):Nat→List CV→List (Nat×Nat×Nat)
 |_,[]=>[]
 |off,c::r=>match c.isAny with
  |true=>match zkp i off (s (LK i off)) with
   |some d=>(i,off,d)::zdx s i (off+1) r
   |none=>zdx s i (off+1) r
  |false=>zdx s i (off+1) r
def zcE(s:St):List (AV×Option Nat)→List (Nat×Nat×Nat)
 |[]=>[]
 |(x,some i)::r=>match x.zfQ with
  |some cs=>zdx s i 0 cs++zcE s r
  |none=>zcE s r
 |(_,none)::r=>zcE s r
theorem zeI{s:St}{i:Nat}:∀{cs:List CV} {off:Nat} {l:Nat×Nat×Nat},l∈zdx s i off cs→l.1=i∧s (LK l.1 l.2.1)=.link l.1 l.2.1 l.2.2
 |[],_,l,h=>by simp[zdx] at h
 |c::r,off,l,h=>by
  unfold zdx at h
  split at h
  ·split at h
   ·rename_i d hd
    rcases List.mem_cons.1 h with rfl | h
    ·exact⟨rfl,zly hd⟩
    ·exact zeI h
   ·exact zeI h
  ·exact zeI h
theorem zdK{s:St}:∀{xs:List (AV×Option Nat)} {l:Nat×Nat×Nat},l∈zcE s xs→s (LK l.1 l.2.1)=.link l.1 l.2.1 l.2.2
 |[],l,h=>by simp[zcE] at h
 |(x,some i)::r,l,h=>by
  simp only[zcE] at h
  split at h
  ·rcases List.mem_append.1 h with h | h
   ·exact(zeI h).2
   ·exact zdK h
  ·exact zdK h
 |(_,none)::r,l,h=>zdK (xs:=r) h
def zkA(s:St):List (Nat×Nat×Nat)→Option (List (Nat×Nat×List (List CV)))
 |[]=>some []
 |l::r=>match slE (s l.2.2),zkA s r with
  |some x,some xs=>some (x::xs)
  |_,_=>none
theorem zty{s:St}:∀{L:List (Nat×Nat×Nat)} {gi:List (Nat×Nat×List (List CV))},zkA s L=some gi→gi.length=L.length∧∀(k:Nat) (l:Nat×Nat×Nat),L[k]?=some l→∃x,gi[k]?=some x∧slE (s l.2.2)=some x
 |[],gi,h=>by
  simp only[zkA,Option.some.injEq] at h
  subst h
  exact⟨rfl,fun k l h=>by simp at h⟩
 |l::r,gi,h=>by
  unfold zkA at h
  split at h
  ·rename_i x xs e1 e2
   injection h with h
   subst h
   obtain⟨k1,k2⟩:=zty e2
   refine⟨by simp[k1],fun k l' hk=>?_⟩
   cases k with
   |zero=>simp at hk;subst hk;exact⟨x,rfl,e1⟩
   |succ k=>simp at hk;exact k2 k l' hk
  ·cases h
def zkv(xs:List (AV×Option Nat)):List (Nat×Nat×Nat)→Option (List (Nat×Nat))
 |[]=>some []
 |l::r=>match posOf l.1 xs 0,zkv xs r with
  |some p,some ps=>some ((p,l.2.1)::ps)
  |_,_=>none
theorem zsO{xs:List (AV×Option Nat)}:∀{L:List (Nat×Nat×Nat)} {lk:List (Nat×Nat)},zkv xs L=some lk→lk.length=L.length∧∀(k:Nat) (l:Nat×Nat×Nat),L[k]?=some l→∃p x,lk[k]?=some (p,l.2.1)∧xs[p]?=some (x,some l.1)
 |[],lk,h=>by
  simp only[zkv,Option.some.injEq] at h
  subst h
  exact⟨rfl,fun k l h=>by simp at h⟩
 |l::r,lk,h=>by
  unfold zkv at h
  split at h
  ·rename_i p ps e1 e2
   injection h with h
   subst h
   obtain⟨k1,k2⟩:=zsO e2
   refine⟨by simp[k1],fun k l' hk=>?_⟩
   cases k with
   |zero =>
    simp at hk;subst hk
    obtain⟨_,x,hx⟩:=zfj e1
    exact⟨p,x,rfl,by simpa using hx⟩
   |succ k=>simp at hk;exact k2 k l' hk
  ·cases h
def zaT(s:St)(L:List (Nat×Nat×Nat)):List (AV×Option Nat):=L.map fun l=>(s l.2.2,some l.2.2)
def zan(s:St):List (AV×Option Nat)→St
 |[]=>s
 |(x,some i)::r=>match x.zfQ with
  |some cs=>zan (unlink s i 0 cs.length) r
  |none=>zan s r
 |(_,none)::r=>zan s r
theorem zcy:∀(xs:List (AV×Option Nat)) (s:St),(∀j,zan s xs j=s j∨(zan s xs j=.dead∧(s j).zaa=false)) ∧
  (∀(x:AV) (i:Nat) (cs:List CV) (j off d:Nat),(x,some i)∈xs→x.zfQ=some cs→(zan s xs j).zco i off d→off<cs.length→False)
 |[],s=>⟨fun j=>.inl rfl,fun x i cs j off d h=>by simp at h⟩
 |(x,none)::r,s=>by
  obtain⟨h1,h2⟩:=zcy r s
  refine⟨h1,fun x' i cs j off d hm=>?_⟩
  rcases List.mem_cons.1 hm with h | h
  ·cases h
  ·exact h2 x' i cs j off d h
 |(x,some i)::r,s=>by
  simp only[zan]
  cases hx:x.zfQ with
  |some cs =>
   dsimp only
   obtain⟨h1,h2⟩:=zcy r (unlink s i 0 cs.length)
   have h0:∀j,unlink s i 0 cs.length j=s j∨(unlink s i 0 cs.length j=.dead∧(s j).zaa=false):=by
    intro j
    cases ho:(s j).zaa with
    |true=>exact .inl (zav ho)
    |false=>rcases zay s i 0 cs.length j with e | e
            ·exact .inl e
            ·exact .inr ⟨e,rfl⟩
   refine⟨fun j=>?_,fun x' i' cs' j off d hm hb hl hlt=>?_⟩
   ·rcases h1 j with e | ⟨e,ho⟩
    ·rcases h0 j with e' | ⟨e',ho'⟩
     ·exact .inl (by rw[e,e'])
     ·exact .inr ⟨by rw[e,e'],ho'⟩
    ·refine .inr ⟨e,?_⟩
     rcases h0 j with e' | ⟨e',ho'⟩
     ·rw[←e'];exact ho
     ·exact ho'
   ·rcases List.mem_cons.1 hm with h | h
    ·injection h with h3 h4
     injection h4 with h4
     subst h3;subst h4
     rw[hx] at hb
     injection hb with hb
     subst hb
     have hlk:(unlink s i' 0 cs.length j).zco i' off d:=by
      rcases h1 j with e | ⟨e,_⟩
      ·rw[←e];exact hl
      ·rw[e] at hl;exact hl.elim
     have:unlink s i' 0 cs.length j=.dead:=by
      have hs:(s j).zco i' off d:=by
       rcases zay s i' 0 cs.length j with e | e
       ·rw[←e];exact hlk
       ·rw[e] at hlk;exact hlk.elim
      unfold unlink
      rw[AV.zed hs (Nat.zero_le _) (by omega)]
     rw[this] at hlk;exact hlk.elim
    ·exact h2 x' i' cs' j off d h hb hl hlt
  |none =>
   dsimp only
   obtain⟨h1,h2⟩:=zcy r s
   refine⟨h1,fun x' i' cs j off d hm hb=>?_⟩
   rcases List.mem_cons.1 hm with h | h
   ·injection h with h3 h4
    subst h3
    rw[hx] at hb;cases hb
   ·exact h2 x' i' cs j off d h hb
def zeN(s:St):List (Nat×Nat×Nat)→St
 |[]=>s
 |l::r=>zeN (fun j=>if j=LK l.1 l.2.1 then .link l.1 l.2.1 l.2.2 else s j) r
def ztG(P:Program)(d:Nat)(s:St)(g:FuncId)(xs:List (AV×Option Nat))(L:List (Nat×Nat×Nat))(K:St→Prop):Option (List (Nat×Nat×List (List CV)))→Option (List (Nat×Nat))→Prop
 |some gi,some lk=>(slotsOf (xs++zaT s L)).Nodup∧(slotsOf (xs++zaT s L)).contains d=false∧∃r outs go,zfT P g (zhd (xs++zaT s L) xs) gi lk r outs go ∧
   ∀g',K (zeN (Ab.put (zaI (zan s xs) (xs++zaT s L) (outs++zaV g' 0 go)) d r.av) L)
 |_,_=>False
def zux(P:Program)(d:Nat)(s:St)(g:FuncId)(xs:List (AV×Option Nat))(K:St→Prop)(L:List (Nat×Nat×Nat)):Prop:=ztG P d s g xs L K (zkA s L) (zkv xs L)
def zsa(P:Program)(n d:Nat)(s:St)(c:Prop×Option (FuncId×List (AV×Option Nat)))(K:St→Prop):Prop:=
 match c with
 |(p,some (g,xs))=>p∧d<n∧d<MARK∧zux P d s g xs K (zcE s xs)
 |_=>False
def zPT(P:Program)(n:Nat)(o:Oper)(s:St)(K:St→Prop):Prop:=
 o.guard=none∧match o.op,o.dst with
 |.call c,some d=>match c.callee with
  |.value f=>zsa P n d s (zaZ s f c.args.toList) K
  |_=>False
 |_,_=>False
section
variable {P:Program}{S0:Env}{w0 w:World}{n:Nat}{s:St}{a:Act}
theorem zfy{x:AV}{e z:Nat}{xs:List (List CV)}(h:slE x=some (e,z,xs)):x=.own e z xs∨∃g,x=.gown g e z xs:=by
 cases x<;>first | (cases h;done) | skip
 ·simp only[slE,Option.some.injEq,Prod.mk.injEq] at h
  obtain⟨rfl,rfl,rfl⟩:=h
  exact .inl rfl
 ·simp only[slE,Option.some.injEq,Prod.mk.injEq] at h
  obtain⟨rfl,rfl,rfl⟩:=h
  exact .inr ⟨_,rfl⟩
theorem ztv{x:AV}{p:Nat×Nat×List (List CV)}(h:slE x=some p):x.bare=true∧x.zaa=true:=by
 obtain⟨e,z,xs⟩:=p
 rcases zfy h with rfl | ⟨g,rfl⟩<;>exact⟨rfl,rfl⟩
theorem Rel.zeN:∀(L:List (Nat×Nat×Nat)) {s:St},Rel S0 w0 n s a w →
  (∀l∈L,(s (LK l.1 l.2.1)).free=true∧(s l.2.2).zaa=true∧∃cs b,(s l.1).zfQ=some cs∧cs[l.2.1]?=some .any∧zaf (s l.1) (zai a l.1)=some b∧w.cell? ⟨b,l.2.1,none⟩=some ((s l.2.2).valOf (zai a l.2.2)))→Rel S0 w0 n (Ab.zeN s L) a w
 |[],_,hR,_=>hR
 |l::r,s,hR,h=>by
  obtain⟨h1,h2,cs,b,h3,h4,h5,h6⟩:=h l (by simp)
  have hko:∀j,(s j).zaa=true→j≠LK l.1 l.2.1:=by rintro j hj rfl;rw[zcS h1] at hj;cases hj
  refine Rel.zeN r (hR.zlQ h1 h2 h3 h4 h5 h6) (fun l' hl'=>?_)
  obtain⟨k1,k2,cs',b',k3,k4,k5,k6⟩:=h l' (by simp[hl'])
  simp only[if_neg (hko _ k2),if_neg (hko _ (AV.zba k3))]
  refine⟨?_,k2,cs',b',k3,k4,k5,k6⟩
  split
  ·rfl
  ·exact k1
theorem zAW(hR:Rel S0 w0 n s a w){g:FuncId}{xs:List (AV×Option Nat)}{vs:Array Value}{d:Nat}{L:List (Nat×Nat×Nat)}{gi:List (Nat×Nat×List (List CV))}{lk:List (Nat×Nat)}{r:RV}{outs:List AV}{go:List (Nat×Nat×List (List CV))}(hd:S0.m≤d∧d<n)(hdM:d<MARK)
  (hvs:∀(j:Nat) (y:AV×Option Nat),xs[j]?=some y→∃u,vs[j]?=some u∧zjk S0 w0 s a w y u)(hsz:vs.size=xs.length)(hL:L=zcE s xs)(hgi:zkA s L=some gi)(hlk:zkv xs L=some lk)
  (hnd:(slotsOf (xs++zaT s L)).Nodup)(hdn:(slotsOf (xs++zaT s L)).contains d=false)(hC:zfT P g (zhd (xs++zaT s L) xs) gi lk r outs go) :
  Calls P g vs w fun e w'=>∃v g',e=.returned v∧Rel S0 w0 n (Ab.zeN (Ab.put (zaI (zan s xs) (xs++zaT s L) (outs++zaV g' 0 go)) d r.av) L) (a.put (some d) v) w':=by
 obtain⟨_,hfit,hgl,hgo,hrb,hcalls⟩:=hC
 obtain⟨hgiL,hgia⟩:=zty hgi
 obtain⟨hlkL,hlka⟩:=zsO hlk
 have hfitl:xs.length=outs.length:=by rw[←(zbe hfit).1,zd3]
 obtain⟨hu1,hu2⟩:=zcy xs s
 have huo:∀j,(s j).zaa=true→zan s xs j=s j:=by
  intro j hj
  rcases hu1 j with e | ⟨_,e⟩
  ·exact e
  ·rw[e] at hj;cases hj
 have hR0:Rel S0 w0 n (zan s xs) a w:=by
  refine hR.forget (fun j=>?_) (fun j k hjk=>?_)
  ·rcases hu1 j with e | ⟨e,_⟩
   ·exact .inl e
   ·exact .inr e
  ·refine huo k ?_
   rcases hu1 j with e | ⟨e,_⟩<;>rw[e] at hjk
   ·exact hR.wf j k hjk
   ·cases hjk
 have hblk0:∀j b,zaf (zan s xs j) (zai a j)=some b↔zaf (s j) (zai a j)=some b:=by
  intro j b
  rcases hu1 j with e | ⟨e,ho⟩
  ·rw[e]
  ·rw[e,zao ho];simp[zaf]
 have hsh0:∀b,Shared S0 w0.heap.size w s (zai a) b→Shared S0 w0.heap.size w (zan s xs) (zai a) b:=fun b hb=>⟨hb.1,hb.2.1,fun j hj=>hb.2.2 j ((hblk0 j b).1 hj)⟩
 have harg0:∀{y:AV×Option Nat} {u:Value},zjk S0 w0 s a w y u→zjk S0 w0 (zan s xs) a w y u:=by
  rintro⟨y,q⟩ u hi
  cases q with
  |some i =>
   obtain⟨h1,h2,h3,h4⟩:=hi
   dsimp only at h1
   exact⟨by rw[huo i (by rw[h1];exact h3)];exact h1,h2,h3,h4⟩
  |none =>
   obtain⟨h1,h2⟩:=hi
   refine⟨h1,zaQ.mono h2 hsh0 (fun _ _=>rfl) (fun _ _=>rfl) (fun i hi=>?_) (fun i off d cs b hl hs _=>?_)⟩
   ·refine⟨rfl,fun ho=>by rw[huo i ho];exact⟨ho,rfl,rfl,rfl⟩,fun b hb=>(hblk0 i b).2 hb⟩
   ·exact⟨⟨cs,by rw[huo i (AV.zba hs)];exact hs,rfl⟩,rfl⟩
 have hown:∀{k:Nat} {l:Nat×Nat×Nat},L[k]?=some l→(s l.2.2).zaa=true∧(s l.2.2).bare=true:=by
  intro k l hk
  obtain⟨x,_,h2⟩:=hgia k l hk
  exact⟨(ztv h2).2,(ztv h2).1⟩
 let vz:Array Value:=vs++(L.map fun l=>zai a l.2.2).toArray
 have hvz1:∀j,j<xs.length→vz[j]?=vs[j]?:=fun j hj=>Array.getElem?_append_left (by omega)
 have hvz2:∀k,vz[xs.length+k]?=(L[k]?).map fun l=>zai a l.2.2:=by
  intro k
  show (vs++(L.map fun l=>zai a l.2.2).toArray)[xs.length+k]?=_
  rw[Array.getElem?_append_right (by omega),show xs.length+k-vs.size=k by omega]
  simp
 have hys1:∀j,j<xs.length→(xs++zaT s L)[j]?=xs[j]?:=fun j hj=>List.getElem?_append_left hj
 have hys2:∀k,(xs++zaT s L)[xs.length+k]?=(L[k]?).map fun l=>(s l.2.2,some l.2.2):=by
  intro k
  rw[List.getElem?_append_right (by omega),show xs.length+k-xs.length=k by omega]
  simp[zaT]
 have hcase:∀(j:Nat) (y:AV×Option Nat),(xs++zaT s L)[j]?=some y→(j<xs.length∧xs[j]?=some y)∨∃k l,j=xs.length+k∧L[k]?=some l∧y=(s l.2.2,some l.2.2):=by
  intro j y hj
  by_cases hlt:j<xs.length
  ·rw[hys1 j hlt] at hj;exact .inl ⟨hlt,hj⟩
  ·obtain⟨k,rfl⟩:∃k,j=xs.length+k:=⟨j-xs.length,by omega⟩
   rw[hys2] at hj
   cases hl:L[k]? with
   |none=>rw[hl] at hj;cases hj
   |some l =>
    rw[hl] at hj
    injection hj with hj
    exact .inr ⟨k,l,rfl,hl,hj.symm⟩
 have hval:∀(j:Nat) (y:AV×Option Nat),(xs++zaT s L)[j]?=some y→∃u,vz[j]?=some u∧zjk S0 w0 s a w y u:=by
  intro j y hj
  rcases hcase j y hj with⟨hlt,h⟩ | ⟨k,l,rfl,hl,rfl⟩
  ·obtain⟨u,hu,hi⟩:=hvs j y h
   exact⟨u,by rw[hvz1 j hlt];exact hu,hi⟩
  ·refine⟨zai a l.2.2,by rw[hvz2,hl];rfl,rfl,(hown hl).2,(hown hl).1,rfl⟩
 let G:Nat→Value:=fun k=>match L[k]? with
  |some l=>(s l.2.2).valOf (zai a l.2.2)
  |none=>undef
 have hG:∀{k:Nat} {l:Nat×Nat×Nat},L[k]?=some l→G k=(s l.2.2).valOf (zai a l.2.2):=by
  intro k l hk
  show (match L[k]? with | some l=>(s l.2.2).valOf (zai a l.2.2) | none=>undef)=_
  rw[hk]
 let A:List AV:=zhd (xs++zaT s L) xs++zaV G 0 gi
 have hA1:∀j,j<xs.length→A[j]?=(xs[j]?).map fun y=>trA (xs++zaT s L) y.1:=fun j hj=>by
  show (zhd (xs++zaT s L) xs++zaV G 0 gi)[j]?=_
  rw[List.getElem?_append_left (by rw[zd3];exact hj),zh7]
 have hA2:∀k,A[xs.length+k]?=(gi[k]?).map fun x=>AV.gown (G k) x.1 x.2.1 x.2.2:=by
  intro k
  show (zhd (xs++zaT s L) xs++zaV G 0 gi)[xs.length+k]?=_
  rw[List.getElem?_append_right (by rw[zd3];omega),zd3,show xs.length+k-xs.length=k by omega,zkV,Nat.zero_add]
 have hArgs:zL7 S0 w0 s a w (xs++zaT s L) vz A vs:=by
  refine⟨hval,?_,?_,fun j y hj=>?_⟩
  ·show (zhd (xs++zaT s L) xs++zaV G 0 gi).length=_
   simp[zd3,zit,hgiL,zaT]
  ·simp only[List.length_append];omega
  ·rcases hcase j y hj with⟨hlt,h⟩ | ⟨k,l,rfl,hl,rfl⟩
   ·refine .inl ⟨by rw[hA1 j hlt,h];rfl,?_⟩
    unfold tmV
    rw[hvz1 j hlt]
   ·obtain⟨⟨e,z,ys⟩,h1,h2⟩:=hgia k l hl
    refine .inr (.inr ⟨G k,e,z,ys,zfy h2,by rw[hA2,h1];rfl,?_⟩)
    rw[hG hl]
    unfold tmV
    rw[hvz2,hl]
    rfl
 let E:Env:=⟨Shared S0 w0.heap.size w s (zai a),fun b=>∃i,i∈slotsOf (xs++zaT s L)∧zaf (s i) (zai a i)=some b,0,fun _=>undef⟩
 have hE:Base E w:=by
  refine⟨fun b hb=>hb.2.1,fun b ⟨i,_,hi⟩=>((hR.rep i).zbk hi).2,fun b hb ⟨i,_,hi⟩=>hb.2.2 i hi,hR.lt.zJY hR.below,fun b hb ⟨i,_,hi⟩=>?_⟩
  rcases ((hR.rep i).zbk hi).1 with h | h
  ·have:=Amb.lt hR.lt.amb hb;omega
  ·exact hR.lt.far b hb h
 have hRep:zut w E A vs:=hArgs.rep hR hnd rfl (fun b=>Iff.rfl)
 have hlink:∀{k:Nat} {l:Nat×Nat×Nat},L[k]?=some l→∃cs b p x,(s l.1).zfQ=some cs∧cs[l.2.1]?=some .any∧zaf (s l.1) (zai a l.1)=some b∧w.cell? ⟨b,l.2.1,none⟩=some ((s l.2.2).valOf (zai a l.2.2))∧lk[k]?=some (p,l.2.1)∧xs[p]?=some (x,some l.1)∧p<xs.length∧s l.1=x∧x.bare=true∧vs[p]?=some (zai a l.1):=by
  intro k l hk
  have hs:=zdK (s:=s) (xs:=xs) (l:=l) (by rw[←hL];exact List.mem_of_getElem? hk)
  have hrep:=hR.rep (LK l.1 l.2.1)
  rw[hs] at hrep
  obtain⟨_,cs,b,h1,h2,h3,h4⟩:=hrep
  obtain⟨p,x,h5,h6⟩:=hlka k l hk
  obtain⟨u,h7,h8,h9,_,h10⟩:=hvs p _ h6
  exact⟨cs,b,p,x,h1,h2,h3,h4,h5,h6,(List.getElem?_eq_some_iff.1 h6).1,h8,h9,by rw[h7,h10]⟩
 have htrA:∀{x:AV} {Z:List (AV×Option Nat)},x.bare=true→trA Z x=x:=by
  intro x Z hx
  cases x<;>first | rfl | (simp[AV.bare] at hx)
 have hlt0:∀(k i off:Nat),lk[k]?=some (i,off)→∃l,L[k]?=some l:=fun k i off h=>⟨_,List.getElem?_eq_getElem (by rw[←hlkL];exact(List.getElem?_eq_some_iff.1 h).1)⟩
 have hLin:zoR w (zbo A) (tmV vs) lk (zhd (xs++zaT s L) xs).length:=by
  rw[zd3]
  intro k i off hk
  obtain⟨l,hl⟩:=hlt0 k i off hk
  obtain⟨cs,b,p,x,h1,h2,h3,h4,h5,h6,h7,h8,h9,h10⟩:=hlink hl
  rw[hk] at h5
  simp only[Option.some.injEq,Prod.mk.injEq] at h5
  obtain⟨rfl,rfl⟩:=h5
  obtain⟨⟨e,z,ys⟩,g1,g2⟩:=hgia k l hl
  have ea:zbo A i=s l.1:=by unfold zbo;rw[hA1 i h7,h6];simp[htrA h9,h8]
  have eg:zbo A (xs.length+k)=.gown (G k) e z ys:=by unfold zbo;rw[hA2,g1];rfl
  refine⟨by rw[eg];rfl,cs,b,by rw[ea];exact h1,h2,?_,?_⟩
  ·rw[ea,zc7 h10];exact h3
  ·rw[eg,h4,←hG hl];rfl
 refine(hcalls w E vs G hE hRep hLin).mono ?_
 rintro e w' ⟨v,g',rfl,hkept,hr,hout,hinj,hLo⟩
 refine⟨v,g',rfl,?_⟩
 have hO1:∀j,j<xs.length→(outs++zaV g' 0 go)[j]?=outs[j]?:=fun j hj=>List.getElem?_append_left (by omega)
 have hO2:∀k,(outs++zaV g' 0 go)[xs.length+k]?=(go[k]?).map fun x=>AV.gown (g' k) x.1 x.2.1 x.2.2:=by
  intro k
  rw[List.getElem?_append_right (by omega),show xs.length+k-outs.length=k by omega,zkV,Nat.zero_add]
 have hzl:(xs++zaT s L).length=(outs++zaV g' 0 go).length:=by
  simp[zit,zaT,hgo,hlkL,hfitl]
 have hfitA:∀(j:Nat) (x:AV×Option Nat) (o:AV),(xs++zaT s L)[j]?=some x→(outs++zaV g' 0 go)[j]?=some o→zbI x.1 o=true:=by
  intro j x o h1 h2
  rcases hcase j x h1 with⟨hlt,h⟩ | ⟨k,l,rfl,hl,rfl⟩
  ·rw[hO1 j hlt] at h2
   exact zfX (ztz ((zbe hfit).2 j _ o (by rw[zh7,h];rfl) h2))
  ·rw[hO2] at h2
   cases hgk:go[k]? with
   |none=>rw[hgk] at h2;cases h2
   |some q =>
    rw[hgk] at h2
    injection h2 with h2
    subst h2
    obtain⟨⟨e,z,ys⟩,_,g2⟩:=hgia k l hl
    dsimp only
    rcases zfy g2 with e1 | ⟨_,e1⟩<;>rw[e1]<;>rfl
 have hslot0:∀{j:Nat} {x:AV} {i:Nat},(xs++zaT s L)[j]?=some (x,some i)→zan s xs i=x∧x.bare=true∧x.zaa=true∧s i=x:=by
  intro j x i h
  obtain⟨u,hu,hs,hb,ho,_⟩:=hval j _ h
  dsimp only at hs hb ho
  exact⟨by rw[huo i (by rw[hs];exact ho)];exact hs,hb,ho,hs⟩
 have hAs:zcp (zan s xs) (zaI (zan s xs) (xs++zaT s L) (outs++zaV g' 0 go)) (pairs (xs++zaT s L) (outs++zaV g' 0 go)):=by
  refine zdh _ _ _ hR0.wf hnd hzl (fun j x i o h1 h2=>?_)
  obtain⟨e1,e2,e3,_⟩:=hslot0 h1
  rw[e1]
  have hf:=hfitA j _ o h1 h2
  refine⟨hf,e3,?_⟩
  cases x<;>cases o<;>first | rfl | (simp[zbI,zau] at hf)
 have hbv:∀(j:Nat) (o:AV),(outs++zaV g' 0 go)[j]?=some o→∀b,zaf o (tmV vz j)=some b↔zaf o (tmV vs j)=some b:=by
  intro j o h b
  by_cases hlt:j<xs.length
  ·have:tmV vz j=tmV vs j:=by unfold tmV;rw[hvz1 j hlt]
   rw[this]
  ·obtain⟨k,rfl⟩:∃k,j=xs.length+k:=⟨j-xs.length,by omega⟩
   rw[hO2] at h
   cases hgk:go[k]? with
   |none=>rw[hgk] at h;cases h
   |some q=>rw[hgk] at h;injection h with h;subst h;exact Iff.rfl
 have haft:After w w' E (outs++zaV g' 0 go) vs=After w w' E (outs++zaV g' 0 go) vz:=by
  funext b
  have:zlL (outs++zaV g' 0 go) vs b↔zlL (outs++zaV g' 0 go) vz b:=
   ⟨fun ⟨j,o,h1,h2⟩=>⟨j,o,h1,(hbv j o h1 b).2 h2⟩,fun ⟨j,o,h1,h2⟩=>⟨j,o,h1,(hbv j o h1 b).1 h2⟩⟩
  simp only[After,this]
 rw[haft] at hr hout
 have hErd:E.rd=Shared S0 w0.heap.size w (zan s xs) (zai a):=by
  funext b
  exact propext ⟨hsh0 b,fun hb=>⟨hb.1,hb.2.1,fun j hj=>hb.2.2 j ((hblk0 j b).2 hj)⟩⟩
 have hElent:∀b,E.lent b↔∃i,i∈slotsOf (xs++zaT s L)∧zaf (zan s xs i) (zai a i)=some b:=
  fun b=>⟨fun ⟨i,h1,h2⟩=>⟨i,h1,(hblk0 i b).2 h2⟩,fun ⟨i,h1,h2⟩=>⟨i,h1,(hblk0 i b).1 h2⟩⟩
 have hnl:∀(j i off d:Nat),(zan s xs j).zco i off d→i∈slotsOf (xs++zaT s L)→False:=by
  intro j i off d' hl hi
  obtain⟨_,cs,b,k1,k2,_⟩:=(hR0.rep j).zgK hl
  unfold slotsOf at hi
  rw[List.mem_filterMap] at hi
  obtain⟨⟨x,q⟩,hm,hq⟩:=hi
  dsimp only at hq
  subst hq
  obtain⟨j',hj'⟩:=List.getElem?_of_mem hm
  obtain⟨e1,e2,e3,e4⟩:=hslot0 hj'
  rw[e1] at k1
  rcases hcase j' _ hj' with⟨hlt,h⟩ | ⟨k,l,rfl,hl',e⟩
  ·exact hu2 x i cs j off d' (List.mem_of_getElem? h) k1 hl (List.getElem?_eq_some_iff.1 k2).1
  ·injection e with e5 e6
   injection e6 with e6
   obtain⟨⟨e,z,ys⟩,_,g2⟩:=hgia k l hl'
   rw[e5] at k1
   rcases zfy g2 with e1 | ⟨_,e1⟩<;>rw[e1] at k1<;>cases k1
 have hoj:∀(j:Nat) (o:AV),(outs++zaV g' 0 go)[j]?=some o→zaQ w' (fun b=>After w w' E (outs++zaV g' 0 go) vz b∧r.blk v≠some b) (fun b=>E.lent b∨w.heap.size≤b) zkd zDA o (tmV vz j):=by
  intro j o h
  have h1:=hout j o h
  have hobare:o.bare=true:=by
   obtain⟨y,hy⟩:∃y,(xs++zaT s L)[j]?=some y:=⟨_,List.getElem?_eq_getElem (by rw[hzl];exact(List.getElem?_eq_some_iff.1 h).1)⟩
   have hf:=hfitA j y o hy h
   obtain⟨y,q⟩:=y
   dsimp only at hf
   cases y<;>cases o<;>first | rfl | (simp[zbI,zau] at hf)
  have h2:zaQ w' (fun b=>After w w' E (outs++zaV g' 0 go) vz b∧r.blk v≠some b) (fun b=>E.lent b∨w.heap.size≤b) zkd zDA o (tmV vs j):=
   h1.bare hobare (fun b hb=>⟨hb,by rw[hrb];simp⟩) (fun b _ h=>h)
  by_cases hlt:j<xs.length
  ·have:tmV vz j=tmV vs j:=by unfold tmV;rw[hvz1 j hlt]
   rw[this];exact h2
  ·obtain⟨k,rfl⟩:∃k,j=xs.length+k:=⟨j-xs.length,by omega⟩
   rw[hO2] at h
   cases hgk:go[k]? with
   |none=>rw[hgk] at h;cases h
   |some q=>rw[hgk] at h;injection h with h;subst h;exact h2
 have hL1:=hR0.zsM (E:=E) (vs:=vz) (r:=r) (v:=v) hd (fun j y hj=>let ⟨u,hu,hi⟩:=hval j y hj;⟨u,hu,harg0 hi⟩) hzl hfitA hnl
  (fun i j x y b h1 h2 h3 h4=>hinj i j x y b h1 ((hbv i x h1 b).1 h2) h3 ((hbv j y h3 b).1 h4)) hErd hElent hkept hr (fun b hb=>by rw[hrb] at hb;cases hb) hoj hAs
 refine Rel.zeN L hL1 (fun l hl=>?_)
 obtain⟨k,hk⟩:=List.getElem?_of_mem hl
 obtain⟨cs,b,p,x,h1,h2,h3,h4,h5,h6,h7,h8,h9,h10⟩:=hlink hk
 obtain⟨m1,cs',b',m2,m3,m4,m5⟩:=hLo k p l.2.1 h5
 rw[zd3] at m1 m5
 have hyp:(xs++zaT s L)[p]?=some (x,some l.1):=by rw[hys1 p h7];exact h6
 have hyk:(xs++zaT s L)[xs.length+k]?=some (s l.2.2,some l.2.2):=by rw[hys2,hk];rfl
 obtain⟨o1,ho1⟩:∃o,(outs++zaV g' 0 go)[p]?=some o:=⟨_,List.getElem?_eq_getElem (by rw[←hzl];exact(List.getElem?_eq_some_iff.1 hyp).1)⟩
 obtain⟨o2,ho2⟩:∃o,(outs++zaV g' 0 go)[xs.length+k]?=some o:=⟨_,List.getElem?_eq_getElem (by rw[←hzl];exact(List.getElem?_eq_some_iff.1 hyk).1)⟩
 have ea:zbo (outs++zaV g' 0 go) p=o1:=by unfold zbo;rw[ho1];rfl
 have eg:zbo (outs++zaV g' 0 go) (xs.length+k)=o2:=by unfold zbo;rw[ho2];rfl
 have hs1:=hAs.new _ _ (zji hyp ho1)
 have hs2:=hAs.new _ _ (zji hyk ho2)
 have hne:∀{j:Nat} {y:AV} {i:Nat},(xs++zaT s L)[j]?=some (y,some i)→i≠d:=by
  rintro j y i h rfl
  have:=zdR h
  have hc:(slotsOf (xs++zaT s L)).contains i=true:=by simpa using this
  rw[hc] at hdn;cases hdn
 have hnd1:=hne hyp
 have hnd2:=hne hyk
 have ho1o:o1.zaa=true:=by rw[←ea];exact AV.zba m2
 have ho2o:o2.zaa=true:=by rw[←eg];exact m1
 have hp1:Ab.put (zaI (zan s xs) (xs++zaT s L) (outs++zaV g' 0 go)) d r.av l.1=o1:=by rw[zbn hnd1 (by rw[hs1];exact ho1o),hs1]
 have hp2:Ab.put (zaI (zan s xs) (xs++zaT s L) (outs++zaV g' 0 go)) d r.av l.2.2=o2:=by rw[zbn hnd2 (by rw[hs2];exact ho2o),hs2]
 have hdt:d<a.tmps.size:=by rw[hR.size];exact hd.2
 have htm:=zfC a d v hdt
 rw[ea] at m2 m4
 rw[eg] at m5
 rw[hp1,hp2]
 have hfree:∀{t:St},(t (LK l.1 l.2.1)).free=true→(Ab.put t d r.av (LK l.1 l.2.1)).free=true:=by
  intro t ht
  have hkd:LK l.1 l.2.1≠d:=by unfold LK;unfold MARK at hdM;omega
  rcases zbK (s:=t) (v:=r.av) hkd with e | ⟨_,_,e⟩
  ·rw[e];exact ht
  ·rw[e];rfl
 refine⟨hfree ?_,ho2o,cs',b',m2,m3,?_,?_⟩
 ·have hsl:=zdK (s:=s) (xs:=xs) (l:=l) (by rw[←hL];exact hl)
  have hnp:∀o,(LK l.1 l.2.1,o)∉pairs (xs++zaT s L) (outs++zaV g' 0 go):=by
   intro o ho
   obtain⟨j,y,e1,_⟩:=zdk ho
   obtain⟨_,_,e2,e3⟩:=hslot0 e1
   rw[hsl] at e3
   rw[←e3] at e2;cases e2
  rcases hAs.old _ hnp with e | ⟨e,_⟩
  ·rw[e]
   rcases hu1 (LK l.1 l.2.1) with e' | ⟨e',_⟩
   ·rw[e',hsl];rfl
   ·rw[e'];rfl
  ·rw[e];rfl
 ·rw[htm,if_neg hnd1]
  rw[zc7 h10] at m4
  exact m4
 ·rw[m5]
  rw[hO2] at ho2
  cases hgk:go[k]? with
  |none=>rw[hgk] at ho2;cases ho2
  |some q=>rw[hgk] at ho2;injection ho2 with ho2;subst ho2;rfl
theorem zzw(hR:Rel S0 w0 n s a w)(o:Oper)(hdm:∀d,o.dst=some d→S0.m≤d){K:St→Prop}(h:zPT P n o s K){K':Act→World→Prop}{Q:Exit→Act→World→Prop}
  (hK:∀s' a' w',Rel S0 w0 n s' a' w'→K s'→K' a' w'):o.wp P a w K' Q:=by
 obtain⟨hgd,h⟩:=h
 split at h
 ·rename_i c d hop hdst
  split at h
  ·rename_i f hcf
   unfold zsa at h
   split at h
   ·rename_i pp g ys e0
    obtain⟨hpp,hdn,hdM,h⟩:=h
    obtain⟨caps,xs,p,q,fv,ef,e2,e1,rfl,rfl⟩:∃caps xs p q fv,sv s f=(p,fv)∧zeE s c.args.toList=(q,some xs)∧fnM s fv=some (g,caps)∧pp=(p∧q)∧ys=xs++caps:=by
     unfold zaZ at e0
     split at e0
     ·rename_i p fv q xs ef e2
      split at e0
      ·rename_i g' caps e1
       simp only[Prod.mk.injEq,Option.some.injEq] at e0
       obtain⟨rfl,rfl,rfl⟩:=e0
       exact⟨caps,xs,p,q,fv,ef,e2,e1,rfl,rfl⟩
      ·simp at e0
     ·simp at e0
    obtain⟨hpf,hp⟩:=hpp
    have hsvf:=hR.sv f (by rw[ef];exact hpf)
    rw[ef] at hsvf
    obtain⟨us,hfv,hul,hcap⟩:=zCT hR hsvf e1
    obtain⟨hal,harg⟩:=zsX hR e2 hp
    have hm:c.args.map a.eval=(c.args.toList.map a.eval).toArray:=by apply Array.ext';simp
    have hvs:∀(j:Nat) (y:AV×Option Nat),(xs++caps)[j]?=some y→∃u,((c.args.toList.map a.eval).toArray++us)[j]?=some u∧zjk S0 w0 s a w y u:=by
     intro j y hj
     by_cases hlt:j<xs.length
     ·rw[List.getElem?_append_left hlt] at hj
      obtain⟨u,hu,hi⟩:=harg j y hj
      refine⟨u,?_,hi⟩
      rw[Array.getElem?_append_left (by simp[←hal];exact hlt)]
      simpa using hu
     ·rw[List.getElem?_append_right (by omega)] at hj
      obtain⟨u,hu,hi⟩:=hcap _ y hj
      refine⟨u,?_,hi⟩
      rw[Array.getElem?_append_right (by simp[←hal];omega)]
      simpa[hal] using hu
    have hsz:((c.args.toList.map a.eval).toArray++us).size=(xs++caps).length:=by simp[hal,hul]
    unfold zux ztG at h
    split at h
    ·rename_i gi lk hgi hlk
     obtain⟨hnd,hdc,r,outs,go,hC,hk⟩:=h
     have hcalls:=zAW (P:=P) hR ⟨hdm d hdst,hdn⟩ hdM hvs hsz rfl hgi hlk hnd hdc hC
     obtain⟨fn,hfn,hname,hbody⟩:=hC.1
     have hrun:(execOp a.eval o).run P w=.ok (.enter g (c.args.map a.eval++us)) w:=by
      obtain⟨callee,args,ts⟩:=c
      dsimp only at hcf
      subst hcf
      simp only[execOp,hop,resolve,hfv,Deferred.ofValue,Sem.run_bind,Sem.run_pure,Result.andThen_ok,invoke,callFunc,run_program,hfn,hname,hbody,Bool.false_eq_true,if_false]
      simp
     unfold Oper.wp
     rw[hrun]
     simp only[Oper.upon]
     rw[hm,hdst]
     refine hcalls.mono ?_
     rintro e w' ⟨v,g',rfl,hR'⟩
     exact hK _ _ _ hR' (hk g')
    ·exact h.elim
   ·exact h.elim
  ·exact h.elim
 ·exact h.elim
end
end Go.Ab
namespace Go.Ab
open Go Go.RowKit
variable [Amb]
section
variable {P:Program}{S0:Env}{w0 w:World}{n:Nat}{s:St}{a:Act}
theorem run_append_nothing(base:Nat)(t ty e:TypeId)(i:TypeInfo)(size:Nat)(ht:P.underlying t=some (.slice e))(hi:P.info? e=some i)
  (v:Value)(n:Nat)(xs:List Value)(hown:w.zdS base e size v n xs)(c:Nat):(Builtin.append_ #[t,t] ty #[v,.slice none 0 c]).run P w=.ok v w:=by
 rcases hown.2 with⟨rfl,rfl⟩ | ⟨g,cap,cur,rfl,_,_,hnc,_⟩
 ·simp[Builtin.append_,run_underlying ht,sizeOf,typeInfo,hi,Builtin.lenOf,Builtin.firstCells]
 ·simp[Builtin.append_,run_underlying ht,sizeOf,typeInfo,hi,Builtin.lenOf,Builtin.firstCells,hnc,storeCells]
def zdZ(P:Program)(e:TypeId):Option Nat:=(P.info? e).map (·.bytes)
def zaE(s:St):AV→Option (Option Nat×Option TypeId×Nat×List (List CV))
 |.x (.one .nil)=>some (none,none,0,[])
 |.alias i=>match s i with
  |.own e size xs=>some (some i,some e,size,xs)
  |.gown _ e size xs=>some (some i,some e,size,xs)
  |_=>none
 |.view i _ len true=>match s i with
  |.own e size xs=>some (some i,some e,size,xs.take len)
  |_=>none
 |_=>none
def zol:AV→Option Int
 |.x (.one (.int _ n))=>some n
 |_=>none
def zdA(P:Program)(s:St)(t t':TypeId)(x y:Prop×AV):Prop×St×AV:=
 match rowT P t with
 |some (e,size,zc) =>
  match zdZ P e,zaE s x.2,zbO s size y.2 with
  |some bytes,some (some i,some e',size',xs),some ys=>(x.1∧y.1∧t=t'∧e'=e∧size'=size∧(xs.length+ys.length)*bytes≤140737488355328∧xs.length+ys.length≤maxLen,put s i .dead,.own e size (xs++ys))
  |some bytes,some (none,_,_,_),some ys=>(x.1∧y.1∧t=t'∧ys.length*bytes≤140737488355328∧ys.length≤maxLen,s,.own e size ys)
  |some bytes,some (none,_,_,_),none=>match zol y.2 with
   |some k=>(x.1∧y.1∧(zsJ P t').isSome=true∧0<k∧k*bytes≤140737488355328∧k≤maxLen,s,.own e size (List.replicate k.toNat zc))
   |none=>(False,s,.dead)
  |_,_,_=>(False,s,.dead)
 |none=>(False,s,.dead)
theorem zp0{t e:TypeId}{size:Nat}{zc:List CV}(h:rowT P t=some (e,size,zc)):∃i z,P.underlying t=some (.slice e)∧P.info? e=some i∧i.zero=some z∧i.size=size∧0<size∧z.cells.size=size:=by
 unfold rowT at h
 split at h
 ·rename_i e' size' hT
  split at h
  ·rename_i z hz
   split at h
   ·rename_i hzl
    injection h with h
    simp only[Prod.mk.injEq] at h
    obtain⟨rfl,rfl,rfl⟩:=h
    obtain⟨i,hu,hi,hs,hp⟩:=zbH hT
    unfold zeroOf at hz
    rw[hi] at hz
    simp only at hz
    split at hz
    ·rename_i zv hzv
     split at hz
     ·injection hz with hz
      subst hz
      exact⟨i,zv,hu,hi,hzv,hs,hp,by simpa using hzl⟩
     ·cases hz
    ·cases hz
   ·cases h
  ·cases h
 ·cases h
theorem zhw{t ty e:TypeId}{size bytes:Nat}{zc:List CV}(hT:rowT P t=some (e,size,zc))(hb:zdZ P e=some bytes){v:Value}{n:Nat}{xs:List Value}{base:Nat}
  (hown:w.zdS base e size v n xs){b:Option Addr}{m c:Nat}{us:List Value}(hul:us.length=m*size)(hb0:b=none→m=0)(hcell:∀ad,b=some ad→∀j u,us[j]?=some u→w.cell? (ad.add j)=some u)
  (h1:∀u∈us,u.oneCell'=true)(h63:n+m≤maxLen)(hbytes:(n+m)*bytes≤140737488355328)(hbase:base≤w.heap.size) :
  ∃v' w',(Builtin.append_ #[t,t] ty #[v,.slice b m c]).run P w=.ok v' w'∧w'.zdS base e size v' (n+m) (xs++us)∧w.grownBy w' v.ownBlock∧(v'.ownBlock=v.ownBlock∨v'.ownBlock=some w.heap.size):=by
 obtain⟨i,z,hu,hi,hz,hs,hpos,hzs⟩:=zp0 hT
 have hby:i.bytes=bytes:=by unfold zdZ at hb;rw[hi] at hb;simpa using hb
 cases b with
 |none =>
  obtain rfl:=hb0 rfl
  have hus:us=[]:=List.eq_nil_of_length_eq_zero (by simpa using hul)
  subst hus
  exact⟨v,w,run_append_nothing base t ty e i size hu hi v n xs hown c,by simpa using hown,World.grownBy.refl w _,.inl rfl⟩
 |some ad =>
  obtain⟨v',w',hrun,h2,h3,h5⟩:=zkt (P:=P) w base t ty e i z size bytes hu hi hz hs hby hzs hpos v n xs hown ad m c us hul (hcell ad rfl) h1 h63 hbytes hbase
  exact⟨v',w',hrun,h2,h3,h5⟩
theorem zkx{t t' ty e:TypeId}{size bytes:Nat}{zc:List CV}(hT:rowT P t=some (e,size,zc))(hb:zdZ P e=some bytes)(hk:(zsJ P t').isSome=true)(k:IntKind)(m:Nat)(h0:0<m)(h7:m≤maxLen)(h6:m*bytes≤140737488355328) :
  ∃v w' us,(Builtin.append_ #[t,t'] ty #[.slice none 0 0,.int k m]).run P w=.ok v w'∧w'.zdS 0 e size v (List.replicate m zc).length us∧(∀S,zbP w S (List.replicate m zc).flatten us)∧(∀x∈List.replicate m zc,x.length=size)∧w.grownBy w' none∧v.ownBlock=some w.heap.size:=by
 obtain⟨i,z,hu,hi,hz,hs,hpos,hzs⟩:=zp0 hT
 obtain⟨i',z',_,hi',_,_,hzr,hrep,hzl⟩:=zlA (w:=w) hT
 have hzz:z'=z:=by
  have:(zeroValue e).run P w=.ok z w:=by simp[zeroValue,typeInfo,hi,hz]
  rw[this] at hzr
  injection hzr with h;exact h.symm
 subst hzz
 have hby:i.bytes=bytes:=by unfold zdZ at hb;rw[hi] at hb;simpa using hb
 have hkn:∃kn,P.underlying t'=some (.int kn):=by
  unfold zsJ at hk
  split at hk
  ·rename_i kn h;exact⟨kn,h⟩
  ·cases hk
 obtain⟨kn,hkn⟩:=hkn
 have hrun:=Go.Lib.run_append_nil_zeros (P:=P) w t t' ty e i z' k kn hu hkn hi hz m h0 (by omega) (by simp only[maxLen] at h7;omega) (by rw[hby];omega)
 have hge:=grownCap_ge w m 0 e
 have hcm:=grownCap_le_maxLen w m 0 e h7
 refine⟨_,_,(Builtin.zeroCells z'.cells m).toList,hrun,⟨by simp[size_zeroCells,hzs],.inr ⟨w.heap.size,grownCap w m 0 e,_,by rw[List.length_replicate],Nat.zero_le _,⟨_,heap_alloc_new w.drew _,.inl rfl⟩,by simpa using hge,hcm,?_,?_⟩⟩,fun S=>?_,fun x hx=>by rw[List.eq_of_mem_replicate hx,hzl],⟨rfl,rfl,rfl,by simp,fun k hk _=>Lib.alloc_old w.drew _ k hk⟩,rfl⟩
 ·simp only[Array.size_append,size_zeroCells,hzs,←Nat.add_mul]
  congr 1;omega
 ·rw[List.length_replicate,Array.toList_append,List.take_append_of_le_length (by simp[size_zeroCells,hzs]),List.take_of_length_le (by simp[size_zeroCells,hzs])]
 ·have:=ziF (hrep S) m
  exact this
theorem zDL{S:Nat→Prop}{xs ys:List (List CV)}{us vs:List Value}(hl:zbP w S xs.flatten us)(hk:zbP w S ys.flatten vs):zbP w S (xs++ys).flatten (us++vs):=by
 rw[List.flatten_append]
 refine⟨by simp[hl.1,hk.1],fun j c hj=>?_⟩
 rw[List.getElem?_append] at hj ⊢
 rw[hl.1]
 split at hj
 ·rename_i h;rw[if_pos h];exact hl.2 _ _ hj
 ·rename_i h;rw[if_neg h];exact hk.2 _ _ hj
theorem zkm(hR:Rel S0 w0 n s a w){p:Prop}{x:AV}{u:Value}(hx:Knows S0 w0 s a w (p,x) u)(hp:p){i e size:Nat}{xs:List (List CV)}(h:zaE s x=some (some i,some e,size,xs)) :
  (s i).zaa=true∧(∀b,u.ownBlock=some b→zaf (s i) (zai a i)=some b)∧(∀b,zaf (s i) (zai a i)=some b→OwnB S0 w0.heap.size b) ∧
   ∃us,w.zdS 0 e size u xs.length us∧zbP w (Shared S0 w0.heap.size w s (zai a)) xs.flatten us∧(∀x∈xs,x.length=size)∧xs.length≤maxLen:=by
 unfold zaE at h
 split at h
 ·simp at h
 ·rename_i i'
  split at h
  ·rename_i e2 size2 xs2 hs
   simp only[Option.some.injEq,Prod.mk.injEq] at h
   obtain⟨rfl,rfl,rfl,rfl⟩:=h
   obtain⟨rfl,_⟩:=zaQ.zdO (hx hp) hs
   have hi:=hR.rep i'
   rw[hs] at hi
   obtain⟨us,hown,hl,hxs,hm,hO⟩:=hi
   exact⟨by rw[hs];rfl,fun b hb=>by rw[hs];exact hb,fun b hb=>hO b (by rw[hs] at hb;exact hb),us,hown,hl,hxs,hm⟩
  ·rename_i g e2 size2 xs2 hs
   simp only[Option.some.injEq,Prod.mk.injEq] at h
   obtain⟨rfl,rfl,rfl,rfl⟩:=h
   obtain⟨hv,_⟩:=hx hp
   rw[hs] at hv
   obtain rfl:u=g:=hv
   have hi:=hR.rep i'
   rw[hs] at hi
   obtain⟨us,hown,hl,hxs,hm,hO⟩:=hi
   exact⟨by rw[hs];rfl,fun b hb=>by rw[hs];exact hb,fun b hb=>hO b (by rw[hs] at hb;exact hb),us,hown,hl,hxs,hm⟩
  ·cases h
 ·rename_i i' lo len
  split at h
  ·rename_i e2 size2 xs2 hs
   simp only[Option.some.injEq,Prod.mk.injEq] at h
   obtain⟨rfl,rfl,rfl,rfl⟩:=h
   have hvw:=hx hp
   have hi:=hR.rep i'
   rw[hs] at hi
   obtain⟨us,hown,hl,hxs,hm,hO⟩:=hi
   obtain⟨hown2,hblk2,hlt,_⟩:=zjX hs hvw hown hl hxs
   exact⟨by rw[hs];rfl,fun b hb=>by rw[hs];exact hblk2 b hb,fun b hb=>hO b (by rw[hs] at hb;exact hb),_,hown2,hlt,fun x hx=>hxs x (List.mem_of_mem_take hx),by rw[List.length_take];omega⟩
  ·cases h
 ·cases h
theorem zrJ(hR:Rel S0 w0 n s a w){t t' ty:TypeId}{x y:Prop×AV}{u v:Value}{d:Nat}(hd:S0.m≤d∧d<n)(hx:Knows S0 w0 s a w x u)(hy:Knows S0 w0 s a w y v)(hp:(zdA P s t t' x y).1) :
  ∃r w',(Builtin.append_ #[t,t'] ty #[u,v]).run P w=.ok r w'∧Rel S0 w0 n (Ab.put (zdA P s t t' x y).2.1 d (zdA P s t t' x y).2.2) (a.put (some d) r) w':=by
 unfold zdA at hp ⊢
 split at hp
 ·rename_i e size zc hT
  split at hp
  ·rename_i bytes i e' size' xs ys hb hsrc hnews
   obtain⟨h1,h2,rfl,rfl,rfl,h6,h7⟩:=hp
   obtain⟨p,x⟩:=x
   obtain⟨ho,hblk2,hO,us,hown,hl,hxs,hm⟩:=zkm hR hx h1 hsrc
   obtain⟨b,c,vs,rfl,hb0,hvl,hyl,hym,hcell⟩:=zmO hR hy h2 hnews
   have hvlen:vs.length=ys.length*size':=by rw[hvl.1,zbv hyl]
   obtain⟨r,w',hrun,hown',hg,hblk⟩:=zhw (P:=P) (ty:=ty) hT hb hown hvlen hb0 hcell hvl.zeJ h7 h6 (Nat.zero_le _) (c:=c)
   refine⟨r,w',hrun,?_⟩
   have hg':w.grownBy w' (zaf (s i) (zai a i)):=by
    refine⟨hg.os,hg.tape,hg.output,hg.size,fun k hk hne=>hg.block k hk (fun e=>hne ?_)⟩
    exact(hblk2 k e.symm).symm
   refine hR.take hd ho hg' (fun b' hb'=>?_) (fun j=>rfl) (fun s' tm' S hS=>?_)
   ·have hb'':r.ownBlock=some b':=hb'
    rcases hblk with h | h
    ·exact .inl (hblk2 b' (by rw[←h];exact hb''))
    ·right
     rw[h] at hb''
     injection hb'' with hb''
     omega
   ·have hsame:∀c,Shared S0 w0.heap.size w s (zai a) c→w'.heap[c]?=w.heap[c]?:=fun c hc=>hg.block c hc.2.1 (fun e=>hc.2.2 i (hblk2 c e.symm))
    refine⟨us++vs,by rw[List.length_append];exact hown',(zDL hl hvl).mono hS hsame,fun x hx=>?_,by rw[List.length_append];exact h7,fun b' hb'=>?_⟩
    rcases List.mem_append.1 hx with h | h
    ·exact hxs x h
    ·exact hyl x h
    ·rcases hblk with h | h
     ·exact hO b' (hblk2 b' (by rw[←h];exact hb'))
     ·rw[h] at hb';injection hb' with hb';exact .inl (by have:=hR.below.size;omega)
  ·rename_i bytes e' size' xs ys hb hsrc hnews
   obtain⟨h1,h2,rfl,h6,h7⟩:=hp
   obtain⟨p,x⟩:=x
   unfold zaE at hsrc
   dsimp only at hsrc h1
   split at hsrc
   ·obtain rfl:=zdW (hx h1)
    obtain⟨b,c,vs,rfl,hb0,hvl,hyl,hym,hcell⟩:=zmO hR hy h2 hnews
    have hvlen:vs.length=ys.length*size:=by rw[hvl.1,zbv hyl]
    obtain⟨r,w',hrun,hown',hg,hblk⟩:=zhw (P:=P) (ty:=ty) hT hb (World.zfk w 0 e size) hvlen hb0 hcell hvl.zeJ (by simpa using h7) (by simpa using h6) (Nat.zero_le _) (c:=c)
    refine⟨r,w',hrun,hR.zoc hd hg (by simpa using hown') hvl hyl h7 (fun b' hb'=>?_)⟩
    rcases hblk with h | h
    ·rw[h] at hb';simp[Value.ownBlock] at hb'
    ·rw[h] at hb';injection hb' with hb';omega
   ·split at hsrc<;>simp at hsrc
   ·split at hsrc<;>simp at hsrc
   ·simp at hsrc
  ·rename_i bytes e' size' xs hb hsrc hnews
   split at hp
   ·rename_i k hk
    obtain⟨h1,h2,h3,h4,h6,h7⟩:=hp
    obtain⟨p,x⟩:=x
    obtain⟨q,y⟩:=y
    unfold zaE at hsrc
    dsimp only at hsrc h1 h2 hk
    unfold zol at hk
    split at hk
    ·rename_i kd k'
     injection hk with hk
     subst hk
     obtain rfl:=zbg (hy h2)
     obtain⟨m,rfl⟩:∃m:Nat,k'=m:=⟨k'.toNat,by omega⟩
     split at hsrc
     ·obtain rfl:=zdW (hx h1)
      obtain⟨r,w',us,hrun,hown',hl,hxs,hg,hblk⟩:=zkx (P:=P) (w:=w) (ty:=ty) hT hb h3 kd m (by omega) (by omega) (by rw[←Int.natCast_mul] at h6;omega)
      refine⟨r,w',hrun,hR.zoc hd hg hown' (hl _) hxs (by simp;omega) (fun b' hb'=>?_)⟩
      rw[hblk] at hb';injection hb' with hb';omega
     ·split at hsrc<;>simp at hsrc
     ·split at hsrc<;>simp at hsrc
     ·simp at hsrc
    ·cases hk
   ·exact hp.elim
  ·exact hp.elim
 ·exact hp.elim
def zd7(P:Program)(s:St)(t t':TypeId)(x:Prop×AV)(q:Prop)(l:List UInt8):Prop×St×AV:=
 match rowT P t,zaE s x.2 with
 |some (e,size,_),some (some i,some e',size',xs)=>(x.1∧q∧zaD P t'=true∧zj5 P e=true∧e'=e∧size'=size∧size=1∧xs.length+l.length≤140737488355328,put s i .dead,.own e size (xs++zad l))
 |some (e,size,_),some (none,_,_,_)=>(x.1∧q∧zaD P t'=true∧zj5 P e=true∧size=1∧l.length≤140737488355328,s,.own e size (zad l))
 |_,_=>(False,s,.dead)
theorem znZ{t e size:Nat}{zc:List CV}(h:rowT P t=some (e,size,zc)):P.underlying t=some (.slice e):=by
 obtain⟨i,z,h1,_⟩:=zlA (w:=default) h
 exact h1
theorem zsq(hR:Rel S0 w0 n s a w){t t' ty:TypeId}{x y:Prop×AV}{u v:Value}{l:List UInt8}{d:Nat}(hd:S0.m≤d∧d<n)(hx:Knows S0 w0 s a w x u)(hy:Knows S0 w0 s a w y v)(hyl:y.2=.x (.one (.str l)))(hp:(zd7 P s t t' x y.1 l).1) :
  ∃r w',(Builtin.append_ #[t,t'] ty #[u,v]).run P w=.ok r w'∧Rel S0 w0 n (Ab.put (zd7 P s t t' x y.1 l).2.1 d (zd7 P s t t' x y.1 l).2.2) (a.put (some d) r) w':=by
 obtain⟨q,y⟩:=y
 dsimp only at hyl hp
 subst hyl
 unfold zd7 at hp ⊢
 split at hp
 ·rename_i e size zc i e' size' xs hT hsrc
  obtain⟨h1,h2,h3,h4,rfl,rfl,rfl,h8⟩:=hp
  obtain⟨rfl,hll⟩:=zb4 (hy h2)
  obtain⟨p,x⟩:=x
  obtain⟨ho,hblk2,hO,us,hown,hl,hxs,hm⟩:=zkm hR hx h1 hsrc
  obtain⟨_,inf,g1,g2,g3,g4⟩:=zkP h4
  have hsz:(⟨l.toArray⟩:ByteArray).size=l.length:=by simp[ByteArray.size]
  obtain⟨r,w',hrun,hown',hg,hblk⟩:=zde (P:=P) w 0 t t' ty e' inf (znZ hT) (zbh h3) g1 g2 g3 g4 u xs.length us hown ⟨l.toArray⟩ (by rw[hsz];unfold maxLen;omega) (by rw[hsz];exact h8) (Nat.zero_le _)
  rw[hsz] at hown'
  refine⟨r,w',hrun,?_⟩
  have hg':w.grownBy w' (zaf (s i) (zai a i)):=by
   refine⟨hg.os,hg.tape,hg.output,hg.size,fun k hk hne=>hg.block k hk (fun e=>hne ?_)⟩
   exact(hblk2 k e.symm).symm
  refine hR.take hd ho hg' (fun b' hb'=>?_) (fun j=>rfl) (fun s' tm' S hS=>?_)
  ·have hb'':r.ownBlock=some b':=hb'
   rcases hblk with h | h
   ·exact .inl (hblk2 b' (by rw[←h];exact hb''))
   ·right
    rw[h] at hb''
    injection hb'' with hb''
    omega
  ·have hsame:∀c,Shared S0 w0.heap.size w s (zai a) c→w'.heap[c]?=w.heap[c]?:=fun c hc=>hg.block c hc.2.1 (fun e=>hc.2.2 i (hblk2 c e.symm))
   refine⟨us++Go.Lib.strCells ⟨l.toArray⟩,by rw[List.length_append,zcb];exact hown',(zDL hl (zg1 _ l)).mono hS hsame,fun x hx=>?_,by rw[List.length_append,zcb];unfold maxLen;omega,fun b' hb'=>?_⟩
   ·rcases List.mem_append.1 hx with h | h
    ·exact hxs x h
    ·exact zgL l x h
   ·rcases hblk with h | h
    ·exact hO b' (hblk2 b' (by rw[←h];exact hb'))
    ·rw[h] at hb';injection hb' with hb';exact .inl (by have:=hR.below.size;omega)
 ·rename_i e size zc e' size' xs hT hsrc
  obtain⟨h1,h2,h3,h4,rfl,h8⟩:=hp
  obtain⟨rfl,hll⟩:=zb4 (hy h2)
  obtain⟨p,x⟩:=x
  obtain⟨_,inf,g1,g2,g3,g4⟩:=zkP h4
  have hsz:(⟨l.toArray⟩:ByteArray).size=l.length:=by simp[ByteArray.size]
  unfold zaE at hsrc
  dsimp only at hsrc h1
  split at hsrc
  ·obtain rfl:=zdW (hx h1)
   obtain⟨r,w',hrun,hown',hg,hblk⟩:=zde (P:=P) w 0 t t' ty e inf (znZ hT) (zbh h3) g1 g2 g3 g4 (.slice none 0 0) 0 [] (World.zfk w 0 e 1) ⟨l.toArray⟩ (by rw[hsz];unfold maxLen;omega) (by rw[hsz];omega) (Nat.zero_le _)
   rw[hsz] at hown'
   refine⟨r,w',hrun,hR.zoc hd hg (by simpa using hown') (zg1 _ l) (zgL l) (by rw[zcb];unfold maxLen;omega) (fun b' hb'=>?_)⟩
   rcases hblk with h | h
   ·rw[h] at hb';simp[Value.ownBlock] at hb'
   ·rw[h] at hb';injection hb' with hb';omega
  ·split at hsrc<;>simp at hsrc
  ·split at hsrc<;>simp at hsrc
  ·simp at hsrc
 ·exact hp.elim
def strOf:AV→Option (List UInt8)
 |.x (.one (.str l))=>some l
 |_=>none
theorem znR{v:AV}{l:List UInt8}(h:strOf v=some l):v=.x (.one (.str l)):=by
 unfold strOf at h
 split at h
 ·injection h with h;subst h;rfl
 ·cases h
def zax(P:Program)(s:St)(t t':TypeId)(x y:Prop×AV):Prop×St×AV:=
 match strOf y.2 with
 |some l=>zd7 P s t t' x y.1 l
 |none=>zdA P s t t' x y
theorem zuQ(hR:Rel S0 w0 n s a w){t t' ty:TypeId}{x y:Prop×AV}{u v:Value}{d:Nat}(hd:S0.m≤d∧d<n)(hx:Knows S0 w0 s a w x u)(hy:Knows S0 w0 s a w y v)(hp:(zax P s t t' x y).1) :
  ∃r w',(Builtin.append_ #[t,t'] ty #[u,v]).run P w=.ok r w'∧Rel S0 w0 n (Ab.put (zax P s t t' x y).2.1 d (zax P s t t' x y).2.2) (a.put (some d) r) w':=by
 unfold zax at hp ⊢
 cases h:strOf y.2 with
 |some l=>rw[h] at hp;exact zsq hR hd hx hy (znR h) hp
 |none=>rw[h] at hp;exact zrJ hR hd hx hy hp
def zez(P:Program)(src dst:TypeId)(x:Prop×AV):Prop×AV:=
 match strOf x.2,sliceT P dst with
 |some l,some (e,_)=>(x.1∧zaD P src=true∧zj5 P e=true,.own e 1 (zad l))
 |_,_=>(False,.dead)
theorem zpC(hR:Rel S0 w0 n s a w){src dst:TypeId}{x:Prop×AV}{u:Value}{d:Nat}(hd:S0.m≤d∧d<n)(hx:Knows S0 w0 s a w x u)(hp:(zez P src dst x).1) :
  ∃r w',(convert src dst u).run P w=.ok r w'∧Rel S0 w0 n (Ab.put s d (zez P src dst x).2) (a.put (some d) r) w':=by
 unfold zez at hp ⊢
 split at hp
 ·rename_i l e z hl hsl
  obtain⟨_,hu,_⟩:=zbH hsl
  obtain⟨h1,h2,h3⟩:=hp
  obtain⟨p,x⟩:=x
  dsimp only at hl h1
  obtain rfl:=znR hl
  obtain⟨rfl,hll⟩:=zb4 (hx h1)
  obtain⟨he,_⟩:=zkP h3
  have hsz:(⟨l.toArray⟩:ByteArray).size=l.length:=by simp[ByteArray.size]
  obtain⟨r,w',hrun,hown,hg,hblk⟩:=zgn (P:=P) w 0 src dst e ⟨l.toArray⟩ (zbh h2) hu he (by rw[hsz];exact hll) (Nat.zero_le _) none
  rw[hsz] at hown
  refine⟨r,w',hrun,?_⟩
  refine hR.zoc hd hg (by rw[zcb];exact hown) (zg1 _ l) (zgL l) (by rw[zcb];exact hll) (fun b' hb'=>?_)
  rw[hblk] at hb';injection hb' with hb';omega
 ·exact hp.elim
def zcd(P:Program)(s:St)(t:TypeId)(m k x:Prop×AV):Prop×St:=
 match zrr P t,m,k,x with
 |some (kk,_),(p,.alias i),(q,.x kx),(r,.x xx)=>match s i with
  |.mp c bs es=>match zbz kk kx es 0 with
   |some f=>(p∧q∧r∧zdY kk kx=true,fun j=>if j=i then .mp (zij c bs es kx xx f).1 (zij c bs es kx xx f).2.1 (zij c bs es kx xx f).2.2 else s j)
   |none=>(False,s)
  |.gmap b c bs es=>match zbz kk kx es 0 with
   |some f=>(p∧q∧r∧zdY kk kx=true,fun j=>if j=i then .gmap b (zij c bs es kx xx f).1 (zij c bs es kx xx f).2.1 (zij c bs es kx xx f).2.2 else s j)
   |none=>(False,s)
  |_=>(False,s)
 |_,_,_,_=>(False,s)
theorem zkf(g:Nat)(o:Obj):w.grownBy { w with heap:=w.heap.setIfInBounds g o } (some g)∧({ w with heap:=w.heap.setIfInBounds g o }:World).heap.size=w.heap.size:=by
 refine⟨⟨rfl,rfl,rfl,by simp,fun k _ hk=>?_⟩,by simp⟩
 exact Array.getElem?_setIfInBounds_ne (fun e=>hk (by rw[e]))
theorem zot(hR:Rel S0 w0 n s a w){t:TypeId}{m k x:Prop×AV}{mv kv xv:Value}(hm:Knows S0 w0 s a w m mv)(hk:Knows S0 w0 s a w k kv)(hx:Knows S0 w0 s a w x xv)(hp:(zcd P s t m k x).1) :
  ∃w',(Instr.mapUpdate t mv kv xv).run P w=.ok () w'∧Rel S0 w0 n (zcd P s t m k x).2 a w':=by
 obtain⟨p,m⟩:=m
 obtain⟨q,k⟩:=k
 obtain⟨r,x⟩:=x
 unfold zcd at hp ⊢
 split at hp
 ·rename_i kk e p' i q' kx r' xx hT e1 e2 e3
  injection e1 with e1a e1b;subst e1a;subst e1b
  injection e2 with e2a e2b;subst e2a;subst e2b
  injection e3 with e3a e3b;subst e3a;subst e3b
  split at hp
  ·rename_i c bs es hs
   split at hp
   ·rename_i f hf
    obtain⟨h1,h2,h3,h4⟩:=hp
    obtain⟨kt,hu,hku⟩:=zoJ hT
    obtain⟨rfl,_⟩:=zaQ.zk1 (hm h1) hs
    have hj:=hR.rep i
    rw[hs] at hj
    obtain⟨b,ents,hv,hh,hB,he⟩:=hj
    rw[hv]
    obtain⟨ents',c',hrun,hc',he'⟩:=ziz (P:=P) hu hku hh he (hk h2) h4 (hx h3) hf
    refine⟨_,hrun,?_⟩
    subst hc'
    have hlt:b<w.heap.size:=(Array.getElem?_eq_some_iff.1 hh).1
    obtain⟨hg,hgs⟩:=zkf (w:=w) b (.map ents' (zij c bs es kx xx f).1)
    refine hR.write (r:=.mp (zij c bs es kx xx f).1 (zij c bs es kx xx f).2.1 (zij c bs es kx xx f).2.2) (b:=b) (by rw[hs,hv];rfl) hg hgs (by rw[hv];rfl) rfl (by rw[hs];rfl) (by rw[hs];rfl) (by rw[hs];rfl) (fun s'=>?_) (fun j o d cs2 hl2 hs2=>by rw[hs] at hs2;cases hs2)
    have hsame:∀z,Shared S0 w0.heap.size w s (zai a) z→({ w with heap:=w.heap.setIfInBounds b (.map ents' (zij c bs es kx xx f).1) }:World).heap[z]?=w.heap[z]?:=by
     intro z hz
     refine hg.block z hz.2.1 (fun e=>?_)
     injection e with e
     subst e
     exact hz.2.2 i (by rw[hs,hv];rfl)
    exact⟨b,ents',hv,by simp[hlt],hB,he'.mono (fun _ h=>h) hsame⟩
   ·exact hp.elim
  ·rename_i b c bs es hs
   split at hp
   ·rename_i f hf
    obtain⟨h1,h2,h3,h4⟩:=hp
    obtain⟨kt,hu,hku⟩:=zoJ hT
    obtain⟨hmv,_⟩:=hm h1
    rw[hs] at hmv
    have hmv:mv=.map (some b):=hmv
    subst hmv
    have hj:=hR.rep i
    rw[hs] at hj
    obtain⟨ents,hh,hB,he⟩:=hj
    obtain⟨ents',c',hrun,hc',he'⟩:=ziz (P:=P) hu hku hh he (hk h2) h4 (hx h3) hf
    refine⟨_,hrun,?_⟩
    subst hc'
    have hlt:b<w.heap.size:=(Array.getElem?_eq_some_iff.1 hh).1
    obtain⟨hg,hgs⟩:=zkf (w:=w) b (.map ents' (zij c bs es kx xx f).1)
    refine hR.write (r:=.gmap b (zij c bs es kx xx f).1 (zij c bs es kx xx f).2.1 (zij c bs es kx xx f).2.2) (b:=b) (by rw[hs];rfl) hg hgs rfl rfl (by rw[hs];rfl) (by rw[hs];rfl) (by rw[hs];rfl) (fun s'=>?_) (fun j o d cs2 hl2 hs2=>by rw[hs] at hs2;cases hs2)
    have hsame:∀z,Shared S0 w0.heap.size w s (zai a) z→({ w with heap:=w.heap.setIfInBounds b (.map ents' (zij c bs es kx xx f).1) }:World).heap[z]?=w.heap[z]?:=by
     intro z hz
     refine hg.block z hz.2.1 (fun e=>?_)
     injection e with e
     subst e
     exact hz.2.2 i (by rw[hs];rfl)
    exact⟨ents',by simp[hlt],hB,he'.mono (fun _ h=>h) hsame⟩
   ·exact hp.elim
  ·exact hp.elim
 ·exact hp.elim
def zl7(P:Program)(s:St)(t:TypeId)(x:Prop×AV):Prop×St:=
 match rowT P t,x with
 |some (_,size,zc),(p,.view i lo len _)=>match s i with
  |.own e size' xs=>(p∧size'=size,fun j=>if j=i then .own e size' (xs.take lo++List.replicate len zc++xs.drop (lo+len)) else s j)
  |_=>(False,s)
 |_,_=>(False,s)
theorem zys(hR:Rel S0 w0 n s a w){t ty:TypeId}{x:Prop×AV}{u:Value}(hx:Knows S0 w0 s a w x u)(hp:(zl7 P s t x).1) :
  ∃r w',(Builtin.clear_ #[t] ty #[u]).run P w=.ok r w'∧Rel S0 w0 n (zl7 P s t x).2 a w':=by
 obtain⟨p,x⟩:=x
 unfold zl7 at hp ⊢
 split at hp
 ·rename_i e0 size zc p' i lo len wh hT e2
  injection e2 with e2a e2b;subst e2a;subst e2b
  split at hp
  ·rename_i e size' xs hs
   obtain⟨h1,rfl⟩:=hp
   obtain⟨hso,hle,hv⟩:=hx h1
   rw[hs] at hle
   have hle':lo+len≤xs.length:=hle
   have hi:=hR.rep i
   rw[hs] at hi
   obtain⟨us,hown,hl,hxs,hm,hO⟩:=hi
   obtain⟨it,z,hu,hit,hsz,hpos,hzr,hrep,hzl⟩:=zlA (w:=w) hT
   have hzs:z.cells.size=size':=by have:=(hrep (fun _=>True)).1;rw[hzl] at this;simpa using this
   by_cases h0:len=0
   ·subst h0
    have hsame:(fun j=>if j=i then AV.own e size' (xs.take lo++List.replicate 0 zc++xs.drop (lo+0)) else s j)=s:=by
     funext j
     split
     ·rename_i hj;subst hj;rw[hs];simp
     ·rfl
    rw[hsame]
    rcases hv with⟨rfl,_⟩ | ⟨b,off,cap,rfl,_⟩
    ·exact⟨.tuple #[],w,by simp[Builtin.clear_,run_underlying hu],hR⟩
    ·exact⟨.tuple #[],w,by simp[Builtin.clear_,run_underlying hu],hR⟩
   ·rcases hv with⟨_,h⟩ | ⟨b,off,cap,rfl,hc,hcm,hk,hz,_⟩
    ·exact absurd h h0
    ·have hoff:=hz (by omega)
     rw[hs] at hk hoff
     have hoff':off=lo*size':=hoff
     subst hoff'
     rcases hown.2 with⟨hnil,_⟩ | ⟨g,cap',cur,hv,hbg,⟨fz,hh,hfz⟩,hnc,hcm',hcs,htake⟩
     ·rw[hnil] at hk;simp[zaf,Value.ownBlock] at hk
     ·have hbb:zaf (AV.own e size' xs) (zai a i)=some g:=by rw[hv];rfl
      rw[hbb] at hk
      injection hk with hk
      subst hk
      have hzrep:=ziF (hrep (Shared S0 w0.heap.size w s (zai a))) len
      have hzlen:(Builtin.zeroCells z.cells len).toList.length=len*size':=by simp[size_zeroCells,hzs]
      have hmul:lo*size'+len*size'≤xs.length*size':=by rw[←Nat.add_mul];exact Nat.mul_le_mul_right _ hle'
      have hcap:xs.length*size'≤cap'*size':=Nat.mul_le_mul_right _ hnc
      have hst:=zbG P g (lo*size') e fz (Builtin.zeroCells z.cells len).toList 0 cur w hh hfz (by rw[hzlen];omega) (zbP.zeJ hzrep)
      simp only[Nat.add_zero] at hst
      have hset:cur.toList.take (lo*size')++(Builtin.zeroCells z.cells len).toList++cur.toList.drop (lo*size'+(Builtin.zeroCells z.cells len).toList.length)=zae cur.toList (lo*size') (Builtin.zeroCells z.cells len).toList:=rfl
      rw[hset] at hst
      obtain⟨len',rfl⟩:∃k,len=k+1:=⟨len-1,by omega⟩
      refine⟨.tuple #[],w.setRow g (zae cur.toList (lo*size') (Builtin.zeroCells z.cells (len'+1)).toList).toArray,by simp[Builtin.clear_,run_underlying hu,hzr,hst],?_⟩
      obtain⟨hg,hgs⟩:=zcJ (w:=w) g (zae cur.toList (lo*size') (Builtin.zeroCells z.cells (len'+1)).toList).toArray
      have hnl:(xs.take lo++List.replicate (len'+1) zc++xs.drop (lo+(len'+1))).length=xs.length:=by simp;omega
      refine hR.write (r:=.own e size' (xs.take lo++List.replicate (len'+1) zc++xs.drop (lo+(len'+1)))) (b:=g) (by rw[hs];exact hbb) hg hgs (by rw[hv];rfl) rfl (by rw[hs];rfl) (by rw[hs];exact hnl) (by rw[hs];rfl) (fun s'=>?_) (fun j o d cs2 hl2 hs2=>by rw[hs] at hs2;cases hs2)
      have hsame:∀c,Shared S0 w0.heap.size w s (zai a) c→(w.setRow g (zae cur.toList (lo*size') (Builtin.zeroCells z.cells (len'+1)).toList).toArray).heap[c]?=w.heap[c]?:=by
       intro c hc
       refine hg.block c hc.2.1 (fun e=>?_)
       injection e with e
       subst e
       exact hc.2.2 i (by rw[hs];exact hbb)
      have hxs':∀x∈xs.take lo++List.replicate (len'+1) zc++xs.drop (lo+(len'+1)),x.length=size':=by
       intro x hx
       rcases List.mem_append.1 hx with hx | hx
       ·rcases List.mem_append.1 hx with hx | hx
        ·exact hxs x (List.mem_of_mem_take hx)
        ·rw[List.eq_of_mem_replicate hx,hzl]
       ·exact hxs x (List.mem_of_mem_drop hx)
      have hrl:(List.replicate (len'+1) zc).flatten.length=(len'+1)*size':=by
       rw[zbv (size:=size') (fun x hx=>by rw[List.eq_of_mem_replicate hx,hzl])];simp
      have hflat:(xs.take lo++List.replicate (len'+1) zc++xs.drop (lo+(len'+1))).flatten=zae xs.flatten (lo*size') (List.replicate (len'+1) zc).flatten:=by
       rw[List.flatten_append,List.flatten_append,zcN hxs,zdF hxs]
       unfold zae
       rw[hrl,Nat.add_mul]
      refine⟨zae us (lo*size') (Builtin.zeroCells z.cells (len'+1)).toList,⟨?_,.inr ⟨g,cap',_,by rw[hnl];exact hv,hbg,⟨fz,setRow_heap w g cur _ e _ hh,by rw[List.size_toArray,zbM _ _ _ (by rw[hzlen];simp[hcs];omega),Array.length_toList];exact hfz⟩,by rw[hnl];exact hnc,hcm',?_,?_⟩⟩,?_,hxs',by rw[hnl];exact hm,hO⟩
      ·have hul:us.length=xs.length*size':=hown.1
       rw[zbM _ _ _ (by rw[hzlen,hul];omega),hnl]
       exact hul
      ·simp only[List.size_toArray]
       rw[zbM _ _ _ (by rw[hzlen];simp[hcs];omega)]
       simpa using hcs
      ·rw[hnl,←htake]
       exact zi3 _ _ _ _ (by rw[hzlen];omega) (by simp[hcs];omega)
      ·rw[hflat]
       exact(hl.zae hzrep _).mono (fun _ h=>h) hsame
  ·exact hp.elim
 ·exact hp.elim
theorem Rel.zOQ{d:Nat}(hR:Rel S0 w0 n s a w)(hd:S0.m≤d∧d<n):Rel S0 w0 n (Ab.put s d (.mp 0 [] [])) (a.put (some d) (.map (some w.heap.size))) (w.alloc (.map #[] 0)):=by
 have he:∀(w':World) (S:Nat→Prop),zvw w' S [] [] (#[]:Array MapEntry).toList:=fun _ _=>⟨rfl,rfl,fun j x hj=>by simp at hj⟩
 refine hR.put hd (World.grownBy_alloc w _ none) (fun j h=>by cases h) ⟨_,#[],rfl,heap_alloc_new w _,.inl hR.below.size,he _ _⟩ ?_ ?_
 ·intro b hb
  have:w.heap.size=b:=by simpa[zaf] using hb
  omega
 ·intro b hbb
  have:w.heap.size=b:=by simpa[zaf] using hbb
  subst this
  exact⟨_,#[],rfl,heap_alloc_new w _,.inl hR.below.size,he _ _⟩
def zyJ(p q:Prop)(n m:Int)(e:TypeId)(size:Nat)(z:List CV):Option Nat→Prop×AV
 |some b=>(p∧q∧0≤n∧m=n∧(b:Int)*n≤281474976710656∧n.toNat*size≤16777216,.own e size (List.replicate n.toNat z))
 |none=>(False,.dead)
def zxU(P:Program)(p q:Prop)(n m:Int):Option (TypeId×Nat×List CV)→Prop×AV
 |some (e,size,z)=>zyJ p q n m e size z (zdZ P e)
 |none=>(False,.dead)
def zo0(P:Program)(t:TypeId)(l c:Prop×AV):Prop×AV:=
 match l,c with
 |(p,.x (.one (.int _ n))),(q,.x (.one (.int _ m)))=>zxU P p q n m (rowT P t)
 |_,_=>(False,.dead)
theorem zBI{l c:Operand}{t:TypeId}{d:Nat}{x y:Prop×AV}(hR:Rel S0 w0 n s a w)(hx:Knows S0 w0 s a w x (a.eval l))(hy:Knows S0 w0 s a w y (a.eval c))(hd:S0.m≤d∧d<n)(hp:(zo0 P t x y).1) :
  ∃v w',(Instr.makeSlice t (a.eval l) (a.eval c)).run P w=.ok v w'∧Rel S0 w0 n (Ab.put s d (zo0 P t x y).2) (a.put (some d) v) w':=by
 unfold zo0 at hp ⊢
 split at hp
 ·rename_i p k N q k' M
  unfold zxU at hp ⊢
  split at hp
  ·rename_i e size zc hT
   unfold zyJ at hp ⊢
   split at hp
   rotate_left
   ·exact hp.elim
   rename_i bts hbt
   obtain⟨hp1,hp2,h0,rfl,hby,hlim⟩:=hp
   have hx:=hx hp1
   have hy:=hy hp2
   obtain⟨i,z,hu,hi,hs,hpos,hz,hzr,hzl⟩:=zlA (w:=w) hT
   have hzsz:z.cells.size=size:=by have:=(hzr (fun _=>True)).1;rw[hzl] at this;simpa using this
   have hrep:=ziF (hzr (Shared S0 w0.heap.size w s (zai a))) M.toNat
   rw[hzsz] at hrep
   have hxs:∀x∈List.replicate M.toNat zc,x.length=size:=fun x hx=>by rw[List.eq_of_mem_replicate hx,hzl]
   have hcap:M.toNat≤maxLen:=by
    have:M.toNat*1≤M.toNat*size:=Nat.mul_le_mul_left _ hpos
    simp only[maxLen];omega
   have hi0:i.zero=some z:=by
    cases hzz:i.zero with
    |none=>simp[zeroValue,typeInfo,hi,hzz,Sem.run_bind] at hz
    |some z' =>
     have:(zeroValue e).run P w=.ok z' w:=by simp[zeroValue,typeInfo,hi,hzz]
     rw[this] at hz
     injection hz with hz
     rw[hz]
   have hbt':i.bytes=bts:=by unfold zdZ at hbt;rw[hi] at hbt;simpa using hbt
   have hr:=run_make (P:=P) w t e i z hu hi hi0 k k' M M h0 (Int.le_refl _) (by rw[hbt'];exact hby) (by simp only[maxLen] at hcap;omega)
   have ev1:a.eval l=.int k M:=by generalize a.eval l=vl at hx;cases hx;rfl
   have ev2:a.eval c=.int k' M:=by generalize a.eval c=vl at hy;cases hy;rfl
   rw[ev1,ev2]
   refine⟨_,_,hr,?_⟩
   rw[hs]
   refine hR.zoc hd (World.grownBy_alloc w _ none) (us:=(madeCells z.cells (M.toNat*size)).toList) ⟨by simp[size_madeCells],.inr ⟨w.heap.size,M.toNat,_,by simp,Nat.zero_le _,⟨_,heap_alloc_new w _,.inl rfl⟩,by simp,hcap,by simp[size_madeCells],?_⟩⟩ (by unfold madeCells;rw[hzsz];exact hrep) hxs (by simpa using hcap) ?_
   ·rw[List.take_of_length_le (by simp[size_madeCells])]
   ·intro b hb
    have:w.heap.size=b:=by simpa[Value.ownBlock] using hb
    omega
  ·exact hp.elim
 ·exact hp.elim
theorem zuq{P:Program}{t:TypeId}{x y:Prop×AV}(j:Nat):(zo0 P t x y).2.refs j=false:=by
 unfold zo0
 split
 ·unfold zxU
  split
  ·unfold zyJ
   split<;>rfl
  ·rfl
 ·rfl
end
end Go.Ab
