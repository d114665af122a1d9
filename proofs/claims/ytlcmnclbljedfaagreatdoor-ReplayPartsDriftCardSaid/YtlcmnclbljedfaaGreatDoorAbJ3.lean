/- A part of the proof: lemmas and contracts of functions. -/
import Derived.Test.YtlcmnclbljedfaaGreatDoorAbJ2b
import Derived.Still
import Derived.Deep.LoopGhost
set_option linter.all false
namespace Go.Ab
open Go Go.RowKit
variable [Amb]
def zxL:CV→Prop
 |.nil=>True
 |.list _ xs=>xs=[]
 |_=>False
@[simp]theorem zLS(z:Nat)(xs:List (List CV)):zxL (.list z xs)=(xs=[]):=rfl
def okC(want:CV):CV→Prop
 |.nil=>zxL want
 |c=>want=c
section
variable (want:CV)
@[simp]theorem zUt:okC want .nil=zxL want:=rfl
@[simp]theorem zST(b:Bool):okC want (.bool b)=(want=.bool b):=rfl
@[simp]theorem zVg(k:IntKind)(n:Int):okC want (.int k n)=(want=.int k n):=rfl
@[simp]theorem zUZ(l:List UInt8):okC want (.str l)=(want=.str l):=rfl
@[simp]theorem zSL(z:Nat)(xs:List (List CV)):okC want (.list z xs)=(want=.list z xs):=rfl
@[simp]theorem zUg(v:Value):okC want (.atom v)=(want=.atom v):=rfl
end
@[simp]theorem zBq(c:CV):okC c c=True:=by cases c<;>simp[okC,zxL]
def zFa:List CV→List CV→Prop
 |[],[]=>True
 |a::r,b::s=>okC a b∧zFa r s
 |_,_=>False
@[simp]theorem zvK(a b:CV)(r s:List CV):zFa (a::r) (b::s)=(okC a b∧zFa r s):=rfl
@[simp]theorem zxc:∀l:List CV,zFa l l=True
 |[]=>rfl
 |c::r=>by rw[zvK,zBq,zxc r];simp
theorem zvC:∀{a b:List CV},zFa a b→a.length=b.length∧∀(j:Nat) (x:CV),a[j]?=some x→∃y,b[j]?=some y∧okC x y
 |[],[],_=>⟨rfl,fun j x h=>by simp at h⟩
 |a::r,b::s,h=>by
  obtain⟨h1,h2⟩:=zvC h.2
  refine⟨by simp[h1],fun j x hj=>?_⟩
  cases j with
  |zero=>simp at hj;subst hj;exact⟨b,rfl,h.1⟩
  |succ j=>simp at hj;exact h2 j x hj
def okX:XV→XV→Prop
 |.one a,.one b=>okC a b
 |.agg a,.agg b=>zFa a b
 |_,_=>False
@[simp]theorem zVn(a b:CV):okX (.one a) (.one b)=okC a b:=rfl
@[simp]theorem zVD(a b:List CV):okX (.agg a) (.agg b)=zFa a b:=rfl
def zIv:List XV→List XV→Prop
 |[],[]=>True
 |a::r,b::s=>okX a b∧zIv r s
 |_,_=>False
@[simp]theorem zSH:zIv [] []=True:=rfl
@[simp]theorem zPn(a b:XV)(r s:List XV):zIv (a::r) (b::s)=(okX a b∧zIv r s):=rfl
def okR:RV→RV→Prop
 |.x a,.x b=>okX a b
 |.tup a,.tup b=>zIv a b
 |_,_=>False
@[simp]theorem zWc(a b:XV):okR (.x a) (.x b)=okX a b:=rfl
@[simp]theorem zUu(a b:List XV):okR (.tup a) (.tup b)=zIv a b:=rfl
theorem zw9{w:World}{S:Nat→Prop}{a b:CV}{v:Value}(h:okC a b)(hr:zaH w S b v):zaH w S a v:=by
 cases b<;>simp only[okC] at h<;>try (subst h;exact hr)
 cases a<;>simp only[zxL] at h
 ·exact hr
 ·subst h;cases hr;exact .list0 none 0 _ (by decide) (fun _=>rfl)
theorem zwg{w:World}{S:Nat→Prop}{a b:XV}{v:Value}(h:okX a b)(hr:zbL w S b v):zbL w S a v:=by
 cases a<;>cases b<;>simp only[okX] at h
 ·exact zw9 (b:=_) h hr
 ·obtain⟨us,hv,hl,hx⟩:=hr
  obtain⟨h1,h2⟩:=zvC h
  refine⟨us,hv,by rw[hl,h1],fun j c hj=>?_⟩
  obtain⟨y,hy,hok⟩:=h2 j c hj
  obtain⟨u,hu,hrep⟩:=hx j y hy
  exact⟨u,hu,zw9 hok hrep⟩
theorem zyy:∀{a b:List XV},zIv a b→a.length=b.length∧∀(j:Nat) (x:XV),a[j]?=some x→∃y,b[j]?=some y∧okX x y
 |[],[],_=>⟨rfl,fun j x h=>by simp at h⟩
 |a::r,b::s,h=>by
  obtain⟨h1,h2⟩:=zyy h.2
  refine⟨by simp[h1],fun j x hj=>?_⟩
  cases j with
  |zero=>simp at hj;subst hj;exact⟨b,rfl,h.1⟩
  |succ j=>simp at hj;exact h2 j x hj
theorem zGj{w:World}{S:Nat→Prop}{a b:RV}{v:Value}(h:okR a b)(hr:zkq w S b v):zkq w S a v:=by
 cases a<;>cases b<;>simp only[okR] at h
 ·exact zwg h hr
 ·obtain⟨us,hv,hl,hx⟩:=hr
  obtain⟨h1,h2⟩:=zyy h
  refine⟨us,hv,by rw[hl,h1],fun j x hj=>?_⟩
  obtain⟨y,hy,hok⟩:=h2 j x hj
  obtain⟨u,hu,hr⟩:=hx j y hy
  exact⟨u,hu,zwg hok hr⟩
end Go.Ab
namespace Go.Ab
open Go Go.RowKit
variable [Amb]
def zaj(P:Program)(s:St)(op:Op):Prop×AV:=
 match op with
 |.build t parts=>zev P (sv s) t parts.toList
 |op=>zdP P s op
def Wf(s:St):Prop:=∀i j,(s i).refs j=true→(s j).zaa=true
theorem zlv{s:St}(h:Wf s)(x:Operand){j:Nat}(hr:(look s x).refs j=true):(s j).zaa=true:=by
 cases x with
 |tmp t =>
  simp only[look] at hr
  split at hr
  ·rename_i cs hs
   obtain rfl:t=j:=by simpa[AV.refs] using hr
   rw[hs];rfl
  ·rename_i e size xs hs
   obtain rfl:t=j:=by simpa[AV.refs] using hr
   rw[hs];rfl
  ·rename_i c bs es hs
   obtain rfl:t=j:=by simpa[AV.refs] using hr
   rw[hs];rfl
  ·cases hr
  ·cases hr
  ·cases hr
  ·exact h t j hr
 |const v =>
  simp only[look,ze9] at hr
  split at hr
  ·split at hr<;>cases hr
  ·cases hr
  ·split at hr<;>cases hr
 |_=>cases hr
theorem zes{s:St}(h:Wf s)(x:Operand){j:Nat}(hr:(sv s x).2.refs j=true):(s j).zaa=true:=by
 refine zlv h x ?_
 exact zj4 hr
theorem zqB{k:TK}{p:Prop}{cs:List CV}{j:Nat}:(zJZ k p cs).2.refs j=false:=by
 cases k with
 |one=>cases cs<;>rfl
 |_=>rfl
theorem zsw{P:Program}{s:St}{t:TypeId}{x:Prop×AV}{lo hi mx:Option Operand}{j:Nat}(hx:∀j,x.2.refs j=true→(s j).zaa=true)(hr:(zcc P s t x lo hi mx).2.refs j=true):(s j).zaa=true:=by
 unfold zcc at hr
 split at hr
 ·split at hr<;>cases hr
 ·split at hr<;>cases hr
 ·split at hr<;>cases hr
 ·split at hr
  ·split at hr
   ·exact hx j hr
   ·cases hr
  ·cases hr
 ·split at hr
  ·exact hx j hr
  ·cases hr
 ·cases hr
theorem zha{j:Nat}:∀{l:List (Prop×AV)} {p:Prop} {cs:List (CV ⊕ (Nat×Nat))},ze1 l=(p,some cs)→cs.any (zcK j)=true→∃x∈l,x.2.refs j=true
 |[],p,cs,h,hr=>by
  simp only[ze1,Prod.mk.injEq,Option.some.injEq] at h
  obtain⟨_,rfl⟩:=h
  cases hr
 |(q,v)::l,p,cs,h,hr=>by
  unfold ze1 at h
  split at h
  ·rename_i e;cases e
  ·rename_i e
   injection e with e1 e2
   subst e2
   split at h
   ·rename_i q2 cs' e3
    simp only[Prod.mk.injEq,Option.some.injEq] at h
    obtain⟨_,rfl⟩:=h
    simp only[List.any_cons,zcK,Bool.false_or] at hr
    obtain⟨x,h1,h2⟩:=zha e3 hr
    exact⟨x,List.mem_cons_of_mem _ h1,h2⟩
   ·simp at h
  ·rename_i q' i off r e
   injection e with e1 e2
   injection e1 with e1 e4
   subst e4;subst e2
   split at h
   ·rename_i q2 cs' e3
    simp only[Prod.mk.injEq,Option.some.injEq] at h
    obtain⟨_,rfl⟩:=h
    simp only[List.any_cons,Bool.or_eq_true] at hr
    rcases hr with hr | hr
    ·exact⟨_,List.mem_cons_self,hr⟩
    ·obtain⟨x,h1,h2⟩:=zha e3 hr
     exact⟨x,List.mem_cons_of_mem _ h1,h2⟩
   ·simp at h
  ·rename_i q' i off r e
   injection e with e1 e2
   injection e1 with e1 e4
   subst e4;subst e2
   split at h
   ·rename_i q2 cs' e3
    simp only[Prod.mk.injEq,Option.some.injEq] at h
    obtain⟨_,rfl⟩:=h
    simp only[List.any_cons,Bool.or_eq_true] at hr
    rcases hr with hr | hr
    ·exact⟨_,List.mem_cons_self,hr⟩
    ·obtain⟨x,h1,h2⟩:=zha e3 hr
     exact⟨x,List.mem_cons_of_mem _ h1,h2⟩
   ·simp at h
  ·simp at h
theorem zbE{P:Program}{s:St}(h:Wf s)(op:Op){j:Nat}(hr:(zaj P s op).2.refs j=true):(s j).zaa=true:=by
 cases op with
 |move x=>exact zes h x hr
 |assign x=>exact zlv h x hr
 |pick c x y =>
  exfalso
  simp only[zaj,zdP,zuC] at hr
  split at hr<;>cases hr
 |load t x =>
  simp only[zaj,zdP] at hr
  have hsr:=zes h x (j:=j)
  unfold zhU at hr
  split at hr
  ·rename_i p i off e
   rw[e] at hsr
   split at hr
   ·exact hsr hr
   ·cases hr
  rcases zex s (sv s x).2 (zeD (tk P t) (zbp P t) (sv s x).1 (mem s (sv s x).2)) with e | ⟨p,i,off,d,_,_,e3,e4⟩
  ·rw[e] at hr
   exfalso
   simp only[zeD] at hr
   split at hr
   ·unfold znl at hr
    split at hr
    ·split at hr<;>cases hr
    ·rw[zqB] at hr;cases hr
   ·cases hr
  ·rw[e4] at hr
   obtain rfl:d=j:=by simpa[AV.refs] using hr
   exact h (LK i off) d (by rw[e3];simp[AV.refs])
 |nilCheck x =>
  simp only[zaj,zdP] at hr
  split at hr
  ·exact zes h x hr
  ·cases hr
 |binOp op t x y yt =>
  exfalso
  simp only[zaj,zdP,zkK] at hr
  cases hy:zpI y with
  |true =>
   rw[hy,cond_true] at hr
   rcases zv0 P op t (sv s x) with e | ⟨b',e⟩<;>(rw[e] at hr;cases hr)
  |false =>
  rw[hy,cond_false] at hr
  simp only[zcI] at hr
  split at hr
  ·split at hr<;>cases hr
  ·unfold zQ4 at hr;split at hr<;>cases hr
  ·cases hr
  ·split at hr
   ·split at hr<;>cases hr
   ·cases hr
  ·cases hr
 |unOp op t x =>
  exfalso
  simp only[zaj,zdP,zuZ] at hr
  split at hr<;>cases hr
 |convert src dst x =>
  exfalso
  simp only[zaj,zdP,zbR] at hr
  split at hr
  ·split at hr<;>cases hr
  ·cases hr
  ·split at hr<;>cases hr
 |slice t x lo hi mx =>
  exact zsw (fun j hj=>zes h x hj) hr
 |fieldAddr t x f =>
  simp only[zaj,zdP,zbT] at hr
  split at hr
  ·rename_i i off _ e
   exact zes h x (by rw[e];exact hr)
  ·rename_i i k off _ e
   exact zes h x (by rw[e];exact hr)
  ·cases hr
  ·cases hr
 |field t x f =>
  exfalso
  simp only[zaj,zdP,zj9] at hr
  split at hr
  ·rw[zqB] at hr;cases hr
  ·cases hr
 |indexAddr t x i =>
  simp only[zaj,zdP,zaM] at hr
  split at hr
  ·cases hr
  ·split at hr
   ·rename_i hs
    obtain rfl:=(beq_iff_eq.1 hr)
    rw[hs];rfl
   ·cases hr
  ·rename_i j' lo len wh q k m _ e1 e2
   exact zes h x (by rw[e1];exact hr)
  ·unfold zek at hr
   split at hr
   ·rename_i e1 _
    exact zes h x (by rw[e1];exact hr)
   ·cases hr
   ·cases hr
 |index t x i =>
  exfalso
  simp only[zaj,zdP,zn5] at hr
  split at hr<;>cases hr
 |makeFunc fn first captured =>
  simp only[zaj,zdP,zdc] at hr
  split at hr
  ·split at hr
   ·cases hr
   ·split at hr
    ·rename_i e
     obtain⟨x,hx,hxr⟩:=zha e hr
     obtain⟨y,_,rfl⟩:=List.mem_map.1 hx
     exact zes h y hxr
    ·cases hr
  ·cases hr
 |lookup t x k ok =>
  exfalso
  simp only[zaj,zdP,zew] at hr
  split at hr
  ·split at hr
   ·split at hr
    ·unfold zl1 at hr;split at hr<;>split at hr<;>cases hr
    ·cases hr
   ·cases hr
  ·split at hr
   ·unfold zl1 at hr;split at hr<;>split at hr<;>cases hr
   ·cases hr
  ·cases hr
 |extract x i =>
  exfalso
  simp only[zaj,zdP,zeY] at hr
  split at hr
  ·split at hr<;>cases hr
  ·cases hr
 |call c =>
  exfalso
  simp only[zaj,zdP,zc4,zpw,zFo,zE9,zOA] at hr
  split at hr
  ·split at hr
   ·split at hr
    ·cases hr
    ·cases hr
    ·cases hr
    ·cases hr
    ·split at hr<;>cases hr
    ·cases hr
    ·cases hr
   ·cases hr
  ·split at hr
   ·split at hr<;>cases hr
   ·cases hr
  ·split at hr
   ·split at hr<;>cases hr
   ·cases hr
  ·split at hr
   ·split at hr<;>cases hr
   ·cases hr
  ·cases hr
 |build t parts =>
  exfalso
  simp only[zaj,zev] at hr
  split at hr<;>cases hr
 |_=>cases hr
section
variable {P:Program}{S0:Env}{w0 w:World}{n:Nat}{s:St}{a:Act}
theorem zov(hR:Rel S0 w0 n s a w)(o:Oper)(hp:(zaj P s o.op).1) :
  ∃v,(execOp a.eval o).run P w=.ok (.value v) w∧zgd S0 w0 s a w (zaj P s o.op).2 v∧(zaj P s o.op).2.zaa=false:=by
 obtain⟨dst,op,type,pos,after,guard⟩:=o
 cases op with
 |build t parts =>
  obtain⟨v,h1,h2,h3⟩:=zqK (P:=P) (f:=Ab.sv s) (s:=s) (a:=a) (w:=w) (w0:=w0) (S0:=S0) (fun x _=>hR.sv x.2) hp
  exact⟨v,zhl h1,h2,h3⟩
 |_=>exact zHl hR _ hp
def zkr(P:Program)(c:Prop×Option (FuncId×List XV))(k:RV→Prop)(m:Prop)(N:List XV→List XV→RV→Prop:=fun _ _ _=>False):Prop:=
 match c with
 |(p,some (g,xs))=>p∧((∃r,zab P g xs r∧k r)∨(∃xs' r,zab P g xs' r∧N xs xs' r)∨m)
 |_=>m
def nmC(n:Nat)(s:St)(c c':CV):Prop:=c=c'∨∃v g e z xs,c=.atom v∧n≤g∧s g=.gown v e z xs∧c'=.list z xs
def nmL(n:Nat)(s:St):List CV→List CV→Prop
 |[],[]=>True
 |c::r,c'::r'=>nmC n s c c'∧nmL n s r r'
 |_,_=>False
def nmX(n:Nat)(s:St):XV→XV→Prop
 |.one c,.one c'=>nmC n s c c'
 |.agg cs,.agg cs'=>nmL n s cs cs'
 |_,_=>False
def zCp(n:Nat)(s:St):List XV→List XV→Prop
 |[],[]=>True
 |x::r,y::r'=>nmX n s x y∧zCp n s r r'
 |_,_=>False
theorem zD9{n:Nat}{s:St}:∀{a b:List CV},nmL n s a b→a.length=b.length∧∀(j:Nat) (y:CV),b[j]?=some y→∃x,a[j]?=some x∧nmC n s x y
 |[],[],_=>⟨rfl,fun j x h=>by simp at h⟩
 |a::r,b::r',h=>by
  obtain⟨h1,h2⟩:=zD9 h.2
  refine⟨by simp[h1],fun j x hj=>?_⟩
  cases j with
  |zero=>simp at hj;subst hj;exact⟨a,rfl,h.1⟩
  |succ j=>simp at hj;exact h2 j x hj
theorem zxJ{n:Nat}{s:St}:∀{a b:List XV},zCp n s a b→a.length=b.length∧∀(j:Nat) (y:XV),b[j]?=some y→∃x,a[j]?=some x∧nmX n s x y
 |[],[],_=>⟨rfl,fun j x h=>by simp at h⟩
 |a::r,b::r',h=>by
  obtain⟨h1,h2⟩:=zxJ h.2
  refine⟨by simp[h1],fun j x hj=>?_⟩
  cases j with
  |zero=>simp at hj;subst hj;exact⟨a,rfl,h.1⟩
  |succ j=>simp at hj;exact h2 j x hj
theorem zwz{S0:Env}{w0 w:World}{n m:Nat}{s:St}{a:Act}{c c':CV}{v:Value}(hR:Rel S0 w0 n s a w)(h:nmC m s c c')(hr:zaH w (zvv S0 w0.heap.size w) c v):zaH w (zvv S0 w0.heap.size w) c' v:=by
 rcases h with rfl | ⟨v',g,e,z,xs,rfl,_,hg,rfl⟩
 ·exact hr
 ·have ev:v=v':=by cases hr;rfl
  subst ev
  have h:=hR.rep g
  rw[hg] at h
  obtain⟨us,ho,hl,hx,hm,hB⟩:=h
  exact zg8 ho (hl.mono (fun b hb=>⟨hb.1,hb.2.1⟩) (fun _ _=>rfl)) hx hm (fun b hb=>⟨.inr (hB b hb),(ho.lt b hb).2⟩)
theorem zHz{S0:Env}{w0 w:World}{n m:Nat}{s:St}{a:Act}{x y:XV}{v:Value}(hR:Rel S0 w0 n s a w)(h:nmX m s x y)(hr:zbL w (zvv S0 w0.heap.size w) x v):zbL w (zvv S0 w0.heap.size w) y v:=by
 cases x with
 |one c =>
  cases y with
  |one c'=>exact zwz (c:=c) (c':=c') hR h hr
  |agg cs=>exact h.elim
 |agg cs =>
  cases y with
  |one c'=>exact h.elim
  |agg cs' =>
   obtain⟨us,hv,hl,hx⟩:=hr
   obtain⟨h1,h2⟩:=zD9 h
   refine⟨us,hv,by rw[hl,h1],fun j c' hj=>?_⟩
   obtain⟨c,hc,hn⟩:=h2 j c' hj
   obtain⟨u,hu,hrep⟩:=hx j c hc
   exact⟨u,hu,zwz hR hn hrep⟩
theorem zBa{P:Program}{s:St}{f:Operand}{args:List Operand}{k:RV→Prop}{m:Prop}(h:zkr P (callee s f args) k m):(∃r,zh5 P s f args r∧k r)∨m:=by
 unfold zkr at h
 unfold zh5
 split at h
 ·rename_i e
  obtain⟨hp,⟨r,hc,hk⟩ | ⟨_,_,_,hf⟩ | hm⟩:=h
  ·exact .inl ⟨r,by rw[e];exact⟨hp,hc⟩,hk⟩
  ·exact hf.elim
  ·exact .inr hm
 ·exact .inr h
def zsW(P:Program)(n:Nat)(s:St)(f:Operand)(args:List Operand)(r:RV):Prop:=
 match callee s f args with
 |(p,some (g,xs))=>p∧∃xs',zab P g xs' r∧zCp n s xs xs'∧r.flat=true
 |_=>False
theorem zwq{P:Program}{n:Nat}{s:St}{f:Operand}{args:List Operand}{k kN:RV→Prop}{m:Prop}(h:zkr P (callee s f args) k m (fun xs xs' r=>zCp n s xs xs'∧r.flat=true∧kN r)):(∃r,zh5 P s f args r∧k r)∨(∃r,zsW P n s f args r∧kN r)∨m:=by
 unfold zkr at h
 unfold zh5 zsW
 split at h
 ·rename_i e
  obtain⟨hp,⟨r,hc,hk⟩ | ⟨xs',r,hc,hn,hf,hk⟩ | hm⟩:=h
  ·exact .inl ⟨r,by rw[e];exact⟨hp,hc⟩,hk⟩
  ·exact .inr (.inl ⟨r,⟨hp,xs',hc,hn,hf⟩,hk⟩)
  ·exact .inr (.inr hm)
 ·exact .inr (.inr h)
theorem zxF{P:Program}{S0:Env}{w0 w:World}{n m:Nat}{s:St}{a:Act}(hR:Rel S0 w0 n s a w){f:Operand}{args:Array Operand}{r:RV}(hc:zsW P m s f args.toList r)
  {o:Oper}(ho:∃ts,o.op=.call { callee:=.value f,args:=args,argTypes:=ts }){d:Nat}(hd:S0.m≤d∧d<n)(hdst:o.dst=some d){K:Act→World→Prop}{Q:Exit→Act→World→Prop}
  (hK:∀a' w',Rel S0 w0 n (Ab.put s d r.av) a' w'→K a' w'):o.wp P a w K Q:=by
 obtain⟨ts,hop⟩:=ho
 unfold zsW at hc
 split at hc
 ·rename_i pp g xs0 e0
  obtain⟨hpp,xs',⟨⟨fn,hfn,hname,hbody⟩,hcalls⟩,hnm,hfl⟩:=hc
  obtain⟨caps,xs,p,q,fv,ef,e2,e1,rfl,rfl⟩:∃caps xs p q fv,sv s f=(p,fv)∧zga s args.toList=(q,some xs)∧zkD fv=some (g,caps)∧pp=(p∧q)∧xs0=xs++caps:=by
   unfold callee at e0
   split at e0
   ·rename_i p fv q xs ef e2
    split at e0
    ·rename_i g' caps e1
     simp only[Prod.mk.injEq,Option.some.injEq] at e0
     obtain⟨rfl,rfl,rfl⟩:=e0
     exact⟨caps,xs,p,q,fv,ef,e2,e1,rfl,rfl⟩
    ·simp at e0
   ·simp at e0
  obtain⟨hpf,hp⟩:=hpp
  have hsvf:=hR.sv f (by rw[ef];exact hpf)
  rw[ef] at hsvf
  obtain⟨us,hfv,hcap⟩:=zmC hsvf e1
  have hm:args.map a.eval=(args.toList.map a.eval).toArray:=by apply Array.ext';simp
  have hrun:(execOp a.eval o).run P w=.ok (.enter g (args.map a.eval++us)) w:=by
   simp only[execOp,hop,resolve,hfv,Deferred.ofValue,Sem.run_bind,Sem.run_pure,Result.andThen_ok,invoke,callFunc,run_program,hfn,hname,hbody,Bool.false_eq_true,if_false]
   simp
  unfold Oper.wp
  rw[hrun]
  simp only[Oper.upon]
  rw[hm,hdst]
  have hamb:=hR.lt.zJY hR.below
  have hargs:=(ztc hR e2 hp).append (hcap.mono (fun b hb=>⟨hb.1,hb.2.1⟩))
  obtain⟨n1,n2⟩:=zxJ hnm
  refine(hcalls w (zvv S0 w0.heap.size w) _ ⟨fun b hb=>hb.2,fun b hb=>hb.elim,fun b _ hb=>hb.elim,hamb,fun b _ hb=>hb.elim⟩ ⟨by rw[hargs.1,n1],fun j y hj=>?_⟩).mono ?_
  ·obtain⟨x,hx,hn⟩:=n2 j y hj
   obtain⟨u,hu,hr⟩:=hargs.2 j x hx
   exact⟨u,hu,zHz hR hn hr⟩
  rintro e w' ⟨v,rfl,hb,hr,hfr⟩
  exact hK _ w' (hR.back hd hb (hr.flat (S':=fun _=>False) hfl) (fun b hb=>hb.elim) hfr)
 ·exact hc.elim
def zfh(s:St)(d lo len:Nat)(wh:Bool)(K:St→Prop):Prop:=
 match s d with
 |.own e size xs=>match wh with
  |true=>K (put (put s d .dead) d (.own e size (xs.take len)))
  |false=>K (put (freeze s d) d (.x (.one (.list size ((xs.drop lo).take len)))))
 |_=>False
def zNC(n:Nat)(s:St)(x x':Prop×AV):Prop:=
 x'=x∨∃p v g e z xs,x=(p,.x (.one (.atom v)))∧n≤g∧s g=.gown v e z xs∧x'=(p,.alias g)
def zp1(n:Nat)(s:St)(x:Prop×AV)(k:Prop×AV→Prop):Prop:=
 match x with
 |(p,.x (.one (.atom v)))=>∃g,n≤g∧(∃e z xs,s g=.gown v e z xs)∧k (p,.alias g)
 |x=>k x
theorem zlW{n:Nat}{s:St}{x:Prop×AV}{k:Prop×AV→Prop}(h:zp1 n s x k):∃x',zNC n s x x'∧k x'∧∀k':Prop×AV→Prop,k' x'→zp1 n s x k':=by
 unfold zp1 at h
 split at h
 ·rename_i p v
  obtain⟨g,hn,⟨e,z,xs,hg⟩,hk⟩:=h
  exact⟨_,.inr ⟨p,v,g,e,z,xs,rfl,hn,hg,rfl⟩,hk,fun k' h'=>⟨g,hn,⟨e,z,xs,hg⟩,h'⟩⟩
 ·rename_i hne
  refine⟨_,.inl rfl,h,fun k' h'=>?_⟩
  unfold zp1
  split
  ·rename_i p v
   exact absurd rfl (hne p v)
  ·exact h'
theorem zuL{S0:Env}{w0 w:World}{m:Nat}{s:St}{a:Act}{x x':Prop×AV}{u:Value}(hx:Knows S0 w0 s a w x u)(h:zNC m s x x'):Knows S0 w0 s a w x' u:=by
 rcases h with rfl | ⟨p,v,g,e,z,xs,rfl,_,hg,rfl⟩
 ·exact hx
 ·intro hp
  have h1:zaH w (Shared S0 w0.heap.size w s (zai a)) (.atom v) u:=hx hp
  cases h1
  exact⟨by rw[hg];rfl,by rw[hg];rfl⟩
def mpR(n:Nat)(s:St)(x x':Prop×AV):Prop:=
 x'=x∨∃p b g c bs es,x=(p,.x (.one (.atom (.map (some b)))))∧n≤g∧s g=.gmap b c bs es∧x'=(p,.alias g)
def zy0(n:Nat)(s:St)(x:Prop×AV)(k:Prop×AV→Prop):Prop:=
 match x with
 |(p,.x (.one (.atom (.map (some b)))))=>∃g,n≤g∧(∃c bs es,s g=.gmap b c bs es)∧k (p,.alias g)
 |x=>k x
theorem zqc{n:Nat}{s:St}{x:Prop×AV}{k:Prop×AV→Prop}(h:zy0 n s x k):∃x',mpR n s x x'∧k x'∧∀k':Prop×AV→Prop,k' x'→zy0 n s x k':=by
 unfold zy0 at h
 split at h
 ·rename_i p b
  obtain⟨g,hn,⟨c,bs,es,hg⟩,hk⟩:=h
  exact⟨_,.inr ⟨p,b,g,c,bs,es,rfl,hn,hg,rfl⟩,hk,fun k' h'=>⟨g,hn,⟨c,bs,es,hg⟩,h'⟩⟩
 ·rename_i hne
  refine⟨_,.inl rfl,h,fun k' h'=>?_⟩
  unfold zy0
  split
  ·rename_i p b
   exact absurd rfl (hne p b)
  ·exact h'
theorem zyI{S0:Env}{w0 w:World}{m:Nat}{s:St}{a:Act}{x x':Prop×AV}{u:Value}(hx:Knows S0 w0 s a w x u)(h:mpR m s x x'):Knows S0 w0 s a w x' u:=by
 rcases h with rfl | ⟨p,b,g,c,bs,es,rfl,_,hg,rfl⟩
 ·exact hx
 ·intro hp
  have h1:zaH w (Shared S0 w0.heap.size w s (zai a)) (.atom (.map (some b))) u:=hx hp
  cases h1
  exact⟨by rw[hg];rfl,by rw[hg];rfl⟩
def zid(s:St)(d:Nat)(r:Prop×AV):Option (Prop×Nat):=
 match r with
 |(p,.alias i)=>match s MARK with
  |.res l=>match l.contains (d,0)&&(s i).tight with
   |true=>some (p,i)
   |false=>none
  |_=>none
 |_=>none
def zml(s:St)(d i:Nat):St:=fun j=>if j=LK d 0 then .link d 0 i else put s d (.box [.any]) j
theorem zke{s:St}{d i:Nat}{r:Prop×AV}{p:Prop}(h:zid s d r=some (p,i)):r=(p,.alias i)∧(s i).tight=true:=by
 unfold zid at h
 split at h
 ·split at h
  ·split at h
   ·rename_i hb
    rw[Bool.and_eq_true] at hb
    simp only[Option.some.injEq,Prod.mk.injEq] at h
    obtain⟨rfl,rfl⟩:=h
    exact⟨rfl,hb.2⟩
   ·cases h
  ·cases h
 ·cases h
def zcH(P:Program)(n:Nat)(s:St)(op:Op)(dst:Option Tmp)(K:St→Prop):Prop:=
 match op,dst with
 |.alloc t,some d=>match zeroOf P t with
  |some cs=>d<n∧K (put s d (.box cs))
  |none=>False
 |.box _ x,some d=>match sv s x with
  |(p,.ptr i off)=>p∧d<n∧K (put s d (.ptr2 i off))
  |r=>match zid s d r with
   |some (p,i)=>p∧d<n∧i≠d∧(s (LK d 0)).free=true∧K (zml s d i)
   |none=>match uv s x with
    |(p,.x xv)=>p∧d<n∧K (put (zas s (zaX s [x])) d (.box xv.cells))
    |_=>False
 |.build t parts,some d=>(zev P (uv s) t parts.toList).1∧d<n∧K (put (zas s (zaX s (parts.toList.map (·.2)))) d (zev P (uv s) t parts.toList).2)
 |.buildSlice t len parts,some d=>(zaB P (uv s) t len parts.toList).1∧d<n∧K (put (zas s (zaX s (parts.toList.map (·.2)))) d (zaB P (uv s) t len parts.toList).2)
 |.store t addr x,none=>match zbc s (sv s addr) (sv s x) with
  |some (p,i,off,d)=>zdQ P t=true∧p∧(zar P s t i off d).1∧K (zar P s t i off d).2
  |none=>zdQ P t=true∧(zcs P (zas s (zaX s [x])) t (sv (zas s (zaX s [x])) addr) (uv s x)).1∧K (zcs P (zas s (zaX s [x])) t (sv (zas s (zaX s [x])) addr) (uv s x)).2
 |.makeMap _ none,some d=>d<n∧K (put s d (.mp 0 [] []))
 |.makeSlice t l c,some d=>(zo0 P t (sv s l) (sv s c)).1∧d<n∧K (put s d (zo0 P t (sv s l) (sv s c)).2)
 |.convert src dst x,some d=>match za6 P dst with
  |true=>(zez P src dst (sv s x)).1∧d<n∧K (put s d (zez P src dst (sv s x)).2)
  |false=>(zaj P s (.convert src dst x)).1∧d<n∧K (put s d (zaj P s (.convert src dst x)).2)
 |.mapUpdate t m k x,none=>zy0 n s (sv s m) fun m'=>(zcd P s t m' (sv s k) (sv s x)).1∧K (zcd P s t m' (sv s k) (sv s x)).2
 |.assign (.tmp t),some d=>match s t with
  |.own e size xs=>d<n∧K (put (put s t .dead) d (.own e size xs))
  |.mp c bs es=>d<n∧K (put (put s t .dead) d (.mp c bs es))
  |.view i lo len wh=>match decide (i=d) with
   |true=>d<n∧zfh s d lo len wh K
   |false=>d<n∧K (put s d (.view i lo len wh))
  |_=>d<n∧K (put s d (look s (.tmp t)))
 |.call c,none=>match c.callee with
  |.builtin .clear=>match c.args.toList,c.argTypes.toList with
   |[x],[t]=>(zl7 P s t (sv s x)).1∧K (zl7 P s t (sv s x)).2
   |_,_=>False
  |_=>False
 |.call c,some d=>match c.callee with
  |.value f=>zkr P (callee s f c.args.toList) (fun r=>d<n∧K (put (zbA s c.args.toList r) d r.av)) (zkw P (zgU s f c.args.toList) (fun r=>d<n∧K (put s d r.av)) (znn s (ziA s c.args.toList) fun s=>zfS P s (zaZ s f c.args.toList) (fun xs r outs=>d<n∧K (put (zaI s xs outs) d r.av)))) (fun xs xs' r=>zCp n s xs xs'∧r.flat=true∧d<n∧K (put s d r.av))
  |.builtin .append=>match c.args.toList,c.argTypes.toList with
   |[x,y],[t,t']=>zp1 n s (sv s x) fun x'=>(zax P s t t' x' (sv s y)).1∧d<n∧K (put (zax P s t t' x' (sv s y)).2.1 d (zax P s t t' x' (sv s y)).2.2)
   |_,_=>False
  |_=>(zaj P s (.call c)).1∧d<n∧K (put s d (zaj P s (.call c)).2)
 |op,some d=>(zaj P s op).1∧d<n∧K (put s d (zaj P s op).2)
 |_,_=>False
theorem zft(hR:Rel S0 w0 n s a w){o:Oper}{d:Nat}{r:AV}(hd:S0.m≤d∧d<n)(hdst:o.dst=some d)
  (h:∃v,(execOp a.eval o).run P w=.ok (.value v) w∧zgd S0 w0 s a w r v∧r.zaa=false)(hrf:∀j,r.refs j=true→(s j).zaa=true)
  {K:Act→World→Prop}{Q:Exit→Act→World→Prop}(hK:∀a' w',Rel S0 w0 n (Ab.put s d r) a' w'→K a' w'):o.wp P a w K Q:=by
 obtain⟨v,hrun,hrep,hno⟩:=h
 unfold Oper.wp
 rw[hrun]
 simp only[Oper.upon,hdst]
 exact hK _ _ (hR.put hd (World.grownBy.refl w none) hrf hrep (fun b hb=>by rw[zao hno] at hb;cases hb) (fun b hb=>by rw[zao hno] at hb;cases hb))
theorem zIS{x:Operand}{p:Prop}{r:AV}(h:sv s x=(p,r))(hp:p):(sv s x).1:=by rw[h];exact hp
theorem zeX(hR:Rel S0 w0 n s a w)(o:Oper)(hdm:∀d,o.dst=some d→S0.m≤d){K:St→Prop}(h:zcH P n s o.op o.dst K){K':Act→World→Prop}{Q:Exit→Act→World→Prop}
  (hK:∀s' a' w',Rel S0 w0 n s' a' w'→K s'→K' a' w'):o.wp P a w K' Q:=by
 have plain:∀d,o.dst=some d→(zaj P s o.op).1∧d<n∧K (Ab.put s d (zaj P s o.op).2)→o.wp P a w K' Q:=by
  intro d hdst ⟨hp,hd,hk⟩
  exact zft hR ⟨hdm d hdst,hd⟩ hdst (zov hR o hp) (fun j hj=>zbE hR.wf _ hj) (fun a' w' hR'=>hK _ a' w' hR' hk)
 obtain⟨dst,op,type,pos,after,guard⟩:=o
 dsimp only at h plain hdm
 cases dst with
 |none =>
  cases op<;>try (exact h.elim)
  case store t addr x =>
   simp only[zcH] at h
   have fin:∀s' w',(Instr.storeAt t (a.eval addr) (a.eval x)).run P w=.ok () w'→Rel S0 w0 n s' a w'→K s'→({ dst:=none,op:=.store t addr x,type:=type,pos:=pos,after:=after,guard:=guard }:Oper).wp P a w K' Q:=by
    intro s' w' hrun hR' hk
    unfold Oper.wp
    have:(execOp a.eval ({ dst:=none,op:=.store t addr x,type:=type,pos:=pos,after:=after,guard:=guard }:Oper)).run P w=.ok .skip w':=by
     simp only[execOp,Sem.run_bind,hrun,Result.andThen_ok,Sem.run_pure]
    rw[this]
    exact hK _ _ _ hR' hk
   split at h
   ·rename_i p i off d e
    obtain⟨ht,hpq,hp,hk⟩:=h
    obtain⟨p1,q,e1,e2,rfl⟩:=zc9 e
    have hx:=hR.sv addr
    have hy:=hR.sv x
    rw[e1] at hx
    rw[e2] at hy
    obtain⟨w',hrun,hR'⟩:=zrj (P:=P) hR hx hy ht hpq hp
    exact fin _ w' hrun hR' hk
   ·obtain⟨ht,hp,hk⟩:=h
    have hRf:=zb3 (zaX s [x]) s hR
    obtain⟨w',hrun,hR'⟩:=zmE (P:=P) hRf (hRf.sv addr) (zBF hR [x] (by simp)) ht hp
    exact fin _ w' hrun hR' hk
  case call c =>
   obtain⟨callee,args,argTypes⟩:=c
   simp only[zcH] at h
   split at h
   ·obtain⟨args⟩:=args
    obtain⟨argTypes⟩:=argTypes
    split at h
    ·rename_i x t e1 e2
     have e1':args=[x]:=e1
     have e2':argTypes=[t]:=e2
     subst e1'
     subst e2'
     obtain⟨hp,hk⟩:=h
     obtain⟨r,w',hrun,hR'⟩:=zys (P:=P) (ty:=type) hR (hR.sv _) hp
     have hx:=congrArg (fun r=>Result.andThen r fun (a:Value) w'=>Result.ok (Next.value a) w') hrun
     unfold Oper.wp
     simp only[execOp,resolve,Sem.run_bind,Sem.run_pure,Result.andThen_ok,invoke,builtin,map_mk,List.map_cons,List.map_nil]
     have hx':((Sem.run P (Builtin.clear_ ⟨[t]⟩ type ⟨[a.eval x]⟩) w).andThen fun (a:Value) w'=>Result.ok (Next.value a) w')=.ok (.value r) w':=hx
     rw[hx']
     exact hK _ _ _ hR' hk
    ·exact h.elim
   ·exact h.elim
  case mapUpdate t m k x =>
   simp only[zcH] at h
   obtain⟨m',hm',⟨hp,hk⟩,_⟩:=zqc h
   obtain⟨w',hrun,hR'⟩:=zot (P:=P) hR (zyI (hR.sv m) hm') (hR.sv k) (hR.sv x) hp
   unfold Oper.wp
   have:(execOp a.eval ({ dst:=none,op:=.mapUpdate t m k x,type:=type,pos:=pos,after:=after,guard:=guard }:Oper)).run P w=.ok .skip w':=by
    simp only[execOp,Sem.run_bind,hrun,Result.andThen_ok,Sem.run_pure]
   rw[this]
   exact hK _ _ _ hR' hk
  case makeMap t r=>cases r<;>exact h.elim
  case assign x=>cases x<;>exact h.elim
  all_goals exact h.elim
 |some d =>
  have hmd:=hdm d rfl
  cases op<;>try (exact plain d rfl h)
  case convert src dst x =>
   simp only[zcH] at h
   cases hsl:za6 P dst with
   |false=>rw[hsl] at h;exact plain d rfl h
   |true =>
    rw[hsl] at h
    obtain⟨hp,hd,hk⟩:=h
    obtain⟨r,w',hrun,hR'⟩:=zpC (P:=P) hR ⟨hdm d rfl,hd⟩ (hR.sv x) hp
    unfold Oper.wp
    have hx:(execOp a.eval ({ dst:=some d,op:=.convert src dst x,type:=type,pos:=pos,after:=after,guard:=guard }:Oper)).run P w=.ok (.value r) w':=by
     simp only[execOp,Sem.run_bind,hrun,Result.andThen_ok,Sem.run_pure]
    rw[hx]
    exact hK _ _ _ hR' hk
  case alloc t =>
   simp only[zcH] at h
   cases hz:zeroOf P t with
   |none=>rw[hz] at h;exact h.elim
   |some cs =>
    rw[hz] at h
    obtain⟨hd,hk⟩:=h
    obtain⟨z,hrun,hl⟩:=zmg (P:=P) (w:=w) hz (Shared S0 w0.heap.size w s (zai a))
    have hx:(execOp a.eval ({ dst:=some d,op:=.alloc t,type:=type,pos:=pos,after:=after,guard:=guard }:Oper)).run P w=.ok (.value (.pointer (some ⟨w.heap.size,0,none⟩))) (w.alloc (.cells z.cells t)):=by
     simp[execOp,Instr.alloc,hrun,newVar,newRow]
    unfold Oper.wp
    rw[hx]
    exact hK _ _ _ (hR.zx1 ⟨hmd,hd⟩ hl) hk
  case makeMap t r =>
   cases r with
   |none =>
    obtain⟨hd,hk⟩:=h
    unfold Oper.wp
    have hx:(execOp a.eval ({ dst:=some d,op:=.makeMap t none,type:=type,pos:=pos,after:=after,guard:=guard }:Oper)).run P w=.ok (.value (.map (some w.heap.size))) (w.alloc (.map #[] 0)):=by
     simp[execOp,Instr.makeMap]
    rw[hx]
    exact hK _ _ _ (hR.zOQ ⟨hmd,hd⟩) hk
   |some r=>exact plain d rfl h
  case makeSlice t l c =>
   obtain⟨hp,hd,hk⟩:=h
   obtain⟨v,w',hrun,hR'⟩:=zBI (P:=P) hR (hR.sv l) (hR.sv c) ⟨hmd,hd⟩ hp
   unfold Oper.wp
   have hx:(execOp a.eval ({ dst:=some d,op:=.makeSlice t l c,type:=type,pos:=pos,after:=after,guard:=guard }:Oper)).run P w=.ok (.value v) w':=by
    simp only[execOp,Sem.run_bind,hrun,Result.andThen_ok,Sem.run_pure]
   rw[hx]
   exact hK _ _ _ hR' hk
  case box t x =>
   simp only[zcH] at h
   split at h
   ·rename_i p i off e
    obtain⟨hp,hd,hk⟩:=h
    have hsv:=hR.sv x (by rw[e];exact hp)
    rw[e] at hsv
    obtain⟨b,hv,hb⟩:=hsv
    have hx:(execOp a.eval ({ dst:=some d,op:=.box t x,type:=type,pos:=pos,after:=after,guard:=guard }:Oper)).run P w=.ok (.value (.pointer (some ⟨w.heap.size,0,none⟩))) (w.alloc (.cells #[.pointer (some ⟨b,off,none⟩)] t)):=by
     simp[execOp,Instr.box,newVar,newRow,hv,Value.cells]
    unfold Oper.wp
    rw[hx]
    exact hK _ _ _ (hR.zQO ⟨hmd,hd⟩ hb) hk
   split at h
   ·rename_i p i e
    obtain⟨hp,hd,hid,hfr,hk⟩:=h
    obtain⟨e,hti⟩:=zke e
    have hsv:=hR.sv x (by rw[e];exact hp)
    rw[e] at hsv
    obtain⟨hv,hio⟩:=hsv
    have hval:∀u,(s i).valOf u=u:=fun u=>by cases hsd:s i<;>rw[hsd] at hti<;>first | rfl | cases hti
    rw[hval] at hv
    have hone:(a.eval x).oneCell'=true:=by
     have h:=hR.rep i
     rw[hv]
     cases hsd:s i<;>rw[hsd] at h hti<;>first | (cases hti;done) | skip
     ·obtain⟨b,arr,ty,e,_⟩:=h;rw[e];rfl
     ·obtain⟨us,hown,_⟩:=h
      rcases hown.2 with⟨e,_⟩ | ⟨g,cap,cur,e,_⟩<;>rw[e]<;>rfl
     ·obtain⟨b,ents,e,_⟩:=h;rw[e];rfl
    have hvc:(a.eval x).cells=#[a.eval x]:=by
     generalize a.eval x=u at hone
     cases u<;>first | rfl | (simp[Value.oneCell'] at hone)
    have hx:(execOp a.eval ({ dst:=some d,op:=.box t x,type:=type,pos:=pos,after:=after,guard:=guard }:Oper)).run P w=.ok (.value (.pointer (some ⟨w.heap.size,0,none⟩))) (w.alloc (.cells #[a.eval x] t)):=by
     simp[execOp,Instr.box,newVar,newRow,hvc]
    have hl:zbP w (Shared S0 w0.heap.size w s (zai a)) [.any] (#[a.eval x]:Array Value).toList:=
     ⟨rfl,fun j c hj=>by
      match j,hj with
      |0,hj=>cases hj;exact⟨_,rfl,zaH.any _ hone⟩
      |j+1,hj=>cases hj⟩
    have hR1:=hR.zx1 (t:=t) ⟨hmd,hd⟩ hl
    have hbx:Ab.put s d (.box [.any]) d=.box [.any]:=zbb rfl
    have hii:Ab.put s d (.box [.any]) i=s i:=zbn hid hio
    have hti':zai (a.put (some d) (.pointer (some ⟨w.heap.size,0,none⟩))) i=zai a i:=by rw[zfC _ _ _ (by rw[hR.size];exact hd),if_neg hid]
    have htd:zai (a.put (some d) (.pointer (some ⟨w.heap.size,0,none⟩))) d=.pointer (some ⟨w.heap.size,0,none⟩):=by rw[zfC _ _ _ (by rw[hR.size];exact hd),if_pos rfl]
    have hLd:LK d 0≠d:=by unfold LK;omega
    have hfr':(Ab.put s d (.box [.any]) (LK d 0)).free=true:=by
     rcases zbK (s:=s) (v:=.box [.any]) hLd with h | ⟨_,_,h⟩<;>rw[h]
     ·exact hfr
     ·rfl
    have hR2:=hR1.zlQ (k:=LK d 0) (i:=d) (off:=0) (d:=i) (b:=w.heap.size) (cs:=[.any]) hfr' (by rw[hii];exact hio) (by rw[hbx];rfl) rfl (by rw[hbx,htd];rfl) (by
     rw[hii,hti',hval,cell_of_row _ w.heap.size 0 #[a.eval x] t (0,0) (heap_alloc_new w _)]
     simp[hv])
    unfold Oper.wp
    rw[hx]
    exact hK _ _ _ hR2 hk
   split at h
   ·rename_i p xv e
    obtain⟨hp,hd,hk⟩:=h
    have hRf:=zb3 (zaX s [x]) s hR
    have hrep:=zBF hR [x] (x:=x) (by simp) (by rw[e];exact hp)
    rw[e] at hrep
    have hx:(execOp a.eval ({ dst:=some d,op:=.box t x,type:=type,pos:=pos,after:=after,guard:=guard }:Oper)).run P w=.ok (.value (.pointer (some ⟨w.heap.size,0,none⟩))) (w.alloc (.cells (a.eval x).cells t)):=by
     simp[execOp,Instr.box,newVar,newRow]
    unfold Oper.wp
    rw[hx]
    exact hK _ _ _ (hRf.zx1 ⟨hmd,hd⟩ (zbL.cells hrep)) hk
   ·exact h.elim
  case build t parts =>
   obtain⟨hp,hd,hk⟩:=h
   have hRf:=zb3 (zaX s (parts.toList.map (·.2))) s hR
   obtain⟨v,h1,h2,h3⟩:=zqK (P:=P) (f:=uv s) (fun x hx=>zBF hR (parts.toList.map (·.2)) (List.mem_map.2 ⟨x,hx,rfl⟩)) hp
   refine zft hRf ⟨hmd,hd⟩ rfl ⟨v,zhl h1,h2,h3⟩ (fun j hj=>?_) (fun a' w' hR'=>hK _ _ _ hR' hk)
   unfold zev at hj
   split at hj<;>cases hj
  case buildSlice t len parts =>
   obtain⟨hp,hd,hk⟩:=h
   have hRf:=zb3 (zaX s (parts.toList.map (·.2))) s hR
   obtain⟨v,w',hrun,hR'⟩:=zfc (P:=P) (f:=uv s) hRf (fun x hx=>zBF hR (parts.toList.map (·.2)) (List.mem_map.2 ⟨x,hx,rfl⟩)) ⟨hmd,hd⟩ hp
   unfold Oper.wp
   have hx:(execOp a.eval ({ dst:=some d,op:=.buildSlice t len parts,type:=type,pos:=pos,after:=after,guard:=guard }:Oper)).run P w=.ok (.value v) w':=by
    simp only[execOp,Sem.run_bind,hrun,Result.andThen_ok,Sem.run_pure]
   rw[hx]
   exact hK _ _ _ hR' hk
  case assign x =>
   cases x with
   |tmp t =>
    simp only[zcH] at h
    cases hs:s t with
    |own e size xs =>
     rw[hs] at h
     obtain⟨hd,hk⟩:=h
     have hi:=hR.rep t
     rw[hs] at hi
     obtain⟨us,hown,hl,hx,hm,hO⟩:=hi
     have hbt:zaf (s t) (zai a t)=(zai a t).ownBlock:=by rw[hs];rfl
     refine hK _ _ _ (hR.take (r:=.own e size xs) ⟨hmd,hd⟩ (by rw[hs];rfl) (World.grownBy.refl w _) (v:=zai a t) (fun b hb=>.inl (by rw[hbt];exact hb)) (fun j=>rfl) (fun s' tm' S hS=>⟨us,hown,hl.mono hS (fun _ _=>rfl),hx,hm,hO⟩)) hk
    |mp c bs es =>
     rw[hs] at h
     obtain⟨hd,hk⟩:=h
     have hi:=hR.rep t
     rw[hs] at hi
     obtain⟨b,ents,hv,hh,hB,he⟩:=hi
     have hbt:zaf (s t) (zai a t)=some b:=by rw[hs,hv];rfl
     refine hK _ _ _ (hR.take (r:=.mp c bs es) ⟨hmd,hd⟩ (by rw[hs];rfl) (World.grownBy.refl w _) (v:=zai a t) (fun b' hb=>.inl (by rw[hbt,←hb,hv];rfl)) (fun j=>rfl) (fun s' tm' S hS=>⟨b,ents,hv,hh,hB,he.mono hS (fun _ _=>rfl)⟩)) hk
    |view i lo len wh =>
     rw[hs] at h
     dsimp only at h
     cases hid:decide (i=d) with
     |false =>
      rw[hid] at h
      refine plain d rfl ⟨trivial,h.1,?_⟩
      show K (Ab.put s d (look s (.tmp t)))
      simp only[look,hs]
      exact h.2
     |true =>
      rw[hid] at h
      obtain rfl:=of_decide_eq_true hid
      obtain⟨hd,hk⟩:=h
      unfold zfh at hk
      split at hk
      ·rename_i e size xs hsi
       have ht:=hR.rep t
       rw[hs] at ht
       have hi:=hR.rep i
       rw[hsi] at hi
       obtain⟨us,hown,hl,hx,hm,hO⟩:=hi
       split at hk
       ·have hbi:zaf (s i) (zai a i)=(zai a i).ownBlock:=by rw[hsi];rfl
        obtain⟨ho2,hb2,hlt,hle'⟩:=zjX hsi ht hown hl hx
        refine hK _ _ _ (hR.take (i:=i) (r:=.own e size (xs.take len)) ⟨hmd,hd⟩ (by rw[hsi];rfl) (World.grownBy.refl w _) (v:=zai a t) (fun b hb=>.inl ?_) (fun j=>rfl) (fun s' tm' S hS=>⟨us.take (len*size),ho2,hlt.mono hS (fun _ _=>rfl),fun x hx'=>hx x (List.mem_of_mem_take hx'),by rw[List.length_take];omega,fun b hb=>hO b (hb2 b hb)⟩)) hk
        rw[hbi]
        exact hb2 b hb
       ·have hRf:=hR.freeze (.inl ⟨_,_,_,hsi⟩)
        have hblk:∀k b,zaf (freeze s i k) (zai a k)=some b→k≠i∧zaf (s k) (zai a k)=some b:=by
         intro k b hb
         by_cases hki:k=i
         ·subst hki
          unfold freeze at hb
          simp only[if_pos,hsi,zcW] at hb
          cases hb
         ·refine⟨hki,?_⟩
          unfold freeze at hb
          simp only[if_neg hki] at hb
          split at hb
          ·rw[zao (zfU _ _)] at hb;cases hb
          ·exact hb
        have hlist:zaH w (Shared S0 w0.heap.size w (freeze s i) (zai a)) (.list size ((xs.drop lo).take len)) (zai a t):=by
         refine zlK hsi ht hown (hl.mono (fun b hb=>⟨hb.1,hb.2.1,fun k hk'=>hb.2.2 k (hblk k b hk').2⟩) (fun _ _=>rfl)) hx (fun b hb=>⟨.inr (hO b hb),(hown.lt b hb).2,fun k hk'=>?_⟩)
         obtain⟨h1,h2⟩:=hblk k b hk'
         exact h1 (hR.inj k i b h2 (by rw[hsi];exact hb))
        exact zft (r:=.x (.one (.list size ((xs.drop lo).take len)))) hRf ⟨hmd,hd⟩ rfl ⟨zai a t,rfl,hlist,rfl⟩ (fun j hj=>by cases hj) (fun a' w' hR'=>hK _ _ _ hR' hk)
      ·exact hk.elim
    |_ =>
     rw[hs] at h
     refine plain d rfl ⟨trivial,h.1,?_⟩
     exact h.2
   |_=>exact plain d rfl h
  case call c =>
   obtain⟨callee,args,argTypes⟩:=c
   simp only[zcH] at h
   split at h
   ·rename_i f
    rcases zwq h with⟨r,hc,hd,hk⟩ | ⟨r,hc,hd,hk⟩ | hc
    ·exact zoM (P:=P) hR hc ⟨argTypes,rfl⟩ ⟨hmd,hd⟩ rfl (fun a' w' hR'=>hK _ _ _ hR' hk)
    ·exact zxF (P:=P) hR hc ⟨argTypes,rfl⟩ ⟨hmd,hd⟩ rfl (fun a' w' hR'=>hK _ _ _ hR' hk)
    ·exact zBu (P:=P) hR hc ⟨argTypes,rfl⟩ hmd rfl (fun r hr=>⟨hr.1,fun a' w' hR'=>hK _ _ _ hR' hr.2⟩) (fun hc=>zo2 (P:=P) (zb3 _ s hR) hc ⟨argTypes,rfl⟩ rfl hmd hK)
   ·obtain⟨args⟩:=args
    obtain⟨argTypes⟩:=argTypes
    split at h
    ·rename_i x y t t' e1 e2
     have e1':args=[x,y]:=e1
     have e2':argTypes=[t,t']:=e2
     subst e1'
     subst e2'
     obtain⟨x',hsr,⟨hp,hd,hk⟩,_⟩:=zlW h
     obtain⟨r,w',hrun,hR'⟩:=zuQ (P:=P) (ty:=type) hR ⟨hmd,hd⟩ (zuL (hR.sv x) hsr) (hR.sv y) hp
     have hx:=congrArg (fun r=>Result.andThen r fun (a:Value) w'=>Result.ok (Next.value a) w') hrun
     unfold Oper.wp
     simp only[execOp,resolve,Sem.run_bind,Sem.run_pure,Result.andThen_ok,invoke,builtin,map_mk,List.map_cons,List.map_nil]
     have hx':((Sem.run P (Builtin.append_ ⟨[t,t']⟩ type ⟨[a.eval x,a.eval y]⟩) w).andThen fun (a:Value) w'=>Result.ok (Next.value a) w')=.ok (.value r) w':=hx
     rw[hx']
     exact hK _ _ _ hR' hk
    ·exact h.elim
   ·exact plain d rfl h
end
end Go.Ab
namespace Go.Ab
open Go Go.RowKit
variable [Amb]
def zcG(ops:Array Oper)(s:St)(g:Nat×Bool):Option Bool:=
 match (ops[g.1]?).bind (·.dst) with
 |some d=>match s d with
  |.x (.one (.bool b))=>some (b==g.2)
  |.cond e (.x (.one (.bool b)))=>some (e&&(b==g.2))
  |_=>none
 |none=>none
def zj8(P:Program)(n:Nat)(s:St)(e:Bool)(op:Op)(dst:Option Tmp)(K:St→Prop):Prop:=
 match dst with
 |some d=>match op with
  |.call c=>match c.callee with
   |.value f=>zjT P e (callee s f c.args.toList) (fun r=>d<n∧K (put s d (.cond e r.av)))
   |_=>(e=true→(zaj P s (.call c)).1)∧(zaj P s (.call c)).2.zaa=false∧d<n∧K (put s d (.cond e (zaj P s (.call c)).2))
  |.buildSlice t len parts=>match e with
   |true=>(zaB P (sv s) t len parts.toList).1∧d<n∧K (put s d (zaB P (sv s) t len parts.toList).2)
   |false=>d<n∧K (put s d (.cond false (.x (.one (.bool false)))))
  |op=>(e=true→(zaj P s op).1)∧(zaj P s op).2.zaa=false∧d<n∧K (put s d (.cond e (zaj P s op).2))
 |none=>False
def zF1(s:St)(op:Op):Bool:=match op with
 |.call c=>match c.callee with
  |.value f=>(callee s f c.args.toList).2.isNone
  |_=>false
 |_=>false
def zp3(P:Program)(n:Nat)(s:St)(e:Bool)(op:Op)(dst:Option Tmp)(K:St→Prop):Prop:=match dst,op with
 |some d,.call c=>match c.callee with
  |.value f=>match e with
   |true=>zfS P s (zaZ s f c.args.toList) (fun xs r outs=>d<n∧r.av.zaa=false∧K (put (zaI s xs outs) d (.cond true r.av)))
   |false=>d<n∧K (put s d (.cond false (.x (.one (.bool false)))))
  |_=>False
 |_,_=>False
def aop(P:Program)(n:Nat)(ops:Array Oper)(o:Oper)(s:St)(K:St→Prop):Prop:=
 match o.guard with
 |none=>zcH P n s o.op o.dst K
 |some g=>match zcG ops s g with
  |some e=>match zF1 s o.op with
   |true=>zp3 P n s e o.op o.dst K
   |false=>zj8 P n s e o.op o.dst K
  |none=>False
def zaS(P:Program)(n:Nat)(ops:Array Oper):List Oper→St→(St→Prop)→Prop
 |[],s,K=>K s
 |o::r,s,K=>aop P n ops o s (fun s'=>zaS P n ops r s' K)
section
variable {P:Program}{S0:Env}{w0 w:World}{n:Nat}{s:St}{a:Act}
theorem Rel.zxo{d:Nat}{s':St}(hR:Rel S0 w0 n s a w)(hdn:d<n)(hno:(s d).zaa=false)(h:∀i,s' i=if i=d then .cond true (s d) else s i):Rel S0 w0 n s' a w:=by
 have hd:s' d=.cond true (s d):=by rw[h,if_pos rfl]
 have ho:∀i,i≠d→s' i=s i:=fun i hi=>by rw[h,if_neg hi]
 have hblk:∀i b,zaf (s' i) (zai a i)=some b→zaf (s i) (zai a i)=some b:=by
  intro i b hb
  by_cases hi:i=d
  ·subst hi;rw[hd] at hb;cases hb
  ·rw[ho i hi] at hb;exact hb
 have hsub:∀b,Shared S0 w0.heap.size w s (zai a) b→Shared S0 w0.heap.size w s' (zai a) b:=fun b hb=>⟨hb.1,hb.2.1,fun i hi=>hb.2.2 i (hblk i b hi)⟩
 have hk:∀k,(s k).zaa=true→s' k=s k:=by
  intro k hk
  refine ho k ?_
  rintro rfl
  rw[hno] at hk;cases hk
 have hrefs:∀k,(zai a k=zai a k∧((s k).zaa=true→(s' k).zaa=true∧(s' k).size=(s k).size∧(s' k).len=(s k).len∧(s' k).valOf=(s k).valOf)∧(∀b,zaf (s k) (zai a k)=some b→zaf (s' k) (zai a k)=some b)):=by
  intro k
  refine⟨rfl,fun h=>by rw[hk k h];exact⟨h,rfl,rfl,rfl⟩,fun b hb=>?_⟩
  have hko:(s k).zaa=true:=by
   cases h:(s k).zaa with
   |true=>rfl
   |false=>rw[zao h] at hb;cases hb
  rw[hk k hko];exact hb
 have hlk:∀(i' off:Nat) (cs:List CV) (b:Nat),(s i').zfQ=some cs→zaf (s i') (zai a i')=some b→(∃cs',(s' i').zfQ=some cs'∧cs'[off]?=cs[off]?)∧w.cell? ⟨b,off,none⟩=w.cell? ⟨b,off,none⟩:=
  fun i' off cs b hs' _=>⟨⟨cs,by rw[hk i' (AV.zba hs')];exact hs',rfl⟩,rfl⟩
 refine⟨hR.defers,hR.size,hR.below,hR.lt,fun i=>?_,fun i j b hi hj=>hR.inj i j b (hblk i b hi) (hblk j b hj),fun i hi=>?_,fun i j hij=>?_,hR.pin⟩
 ·by_cases hi:i=d
  ·subst hi
   rw[hd]
   exact⟨hno,(hR.rep i).mono hsub (fun _ _=>rfl) (fun _ _=>rfl) (fun k _=>hrefs k) (fun i' off _ cs b _=>hlk i' off cs b)⟩
  ·rw[ho i hi]
   exact(hR.rep i).mono hsub (fun _ _=>rfl) (fun _ _=>rfl) (fun k _=>hrefs k) (fun i' off _ cs b _=>hlk i' off cs b)
 ·by_cases hid:i=d
  ·subst hid
   exact absurd hi (by omega)
  ·rw[ho i hid];exact hR.out i hi
 ·have:(s i).refs j=true:=by
   by_cases hi:i=d
   ·subst hi;rw[hd] at hij;exact hij
   ·rw[ho i hi] at hij;exact hij
  have hjo:=hR.wf i j this
  rw[hk j hjo];exact hjo
theorem zh2(hR:Rel S0 w0 n s a w){ops:Array Oper}{g:Nat×Bool}{e:Bool}(h:zcG ops s g=some e):(yielded ops a.tmps g.1==some g.2)=e:=by
 unfold zcG at h
 cases hd:(ops[g.1]?).bind (·.dst) with
 |none=>rw[hd] at h;cases h
 |some d =>
  rw[hd] at h
  have hrep:=hR.rep d
  have hy:yielded ops a.tmps g.1=match a.tmps[d]? with | some (.bool b)=>some b | _=>none:=by
   unfold yielded
   rw[hd]
   rfl
  have htm:∀b,zai a d=.bool b→a.tmps[d]?=some (.bool b):=by
   intro b hb
   simp only[zai,Array.getD_eq_getD_getElem?] at hb
   cases hx:a.tmps[d]? with
   |none=>rw[hx] at hb;cases hb
   |some v=>rw[hx] at hb;simp at hb;rw[hb]
  simp only at h
  split at h
  ·rename_i b hs
   injection h with h
   rw[hs] at hrep
   rw[hy,htm b (zbX hrep),←h]
   cases b<;>cases g.2<;>rfl
  ·rename_i e' b hs
   injection h with h
   rw[hs] at hrep
   obtain⟨_,hrep⟩:=hrep
   cases e' with
   |true =>
    rw[hy,htm b (zbX hrep),←h]
    cases b<;>cases g.2<;>rfl
   |false =>
    have hu:zai a d=undef:=hrep
    have:(match a.tmps[d]? with | some (Value.bool b)=>some b | _=>none)=none:=by
     simp only[zai,Array.getD_eq_getD_getElem?] at hu
     cases hx:a.tmps[d]? with
     |none=>rfl
     |some v=>rw[hx] at hu;simp at hu;rw[hu];rfl
    rw[hy,this,←h]
    rfl
  ·cases h
theorem zgI(hR:Rel S0 w0 n s a w){d:Nat}{r:AV}(hd:S0.m≤d∧d<n)(hno:r.zaa=false)(hrf:∀j,r.refs j=true→(s j).zaa=true) :
  Rel S0 w0 n (Ab.put s d (.cond false r)) (a.put (some d) undef) w:=
 hR.put hd (World.grownBy.refl w none) hrf ⟨hno,by simp⟩ (fun b hb=>by cases hb) (fun b hb=>by cases hb)
theorem zgd.cond{r:AV}{v:Value}(h:zgd S0 w0 s a w r v)(hno:r.zaa=false):zgd S0 w0 s a w (.cond true r) v:=⟨hno,by simpa using h⟩
theorem zp6(hR:Rel S0 w0 n s a w)(o:Oper)(hdm:∀d,o.dst=some d→S0.m≤d){e:Bool}{K:St→Prop}(h:zj8 P n s e o.op o.dst K){K':Act→World→Prop}{Q:Exit→Act→World→Prop}
  (hK:∀s' a' w',Rel S0 w0 n s' a' w'→K s'→K' a' w'):if e then o.wp P a w K' Q else K' (a.put o.dst undef) w:=by
 obtain⟨dst,op,type,pos,after,guard⟩:=o
 dsimp only at h hdm
 cases dst with
 |none=>exact h.elim
 |some d =>
  have hm:=hdm d rfl
  have plain:(e=true→(zaj P s op).1)∧(zaj P s op).2.zaa=false∧d<n∧K (Ab.put s d (.cond e (zaj P s op).2)) →
    if e then ({ dst:=some d,op:=op,type:=type,pos:=pos,after:=after,guard:=guard }:Oper).wp P a w K' Q else K' (a.put (some d) undef) w:=by
   intro ⟨hp,hno,hd,hk⟩
   cases e with
   |false=>exact hK _ _ _ (zgI hR ⟨hm,hd⟩ hno (fun j hj=>zbE hR.wf _ hj)) hk
   |true =>
    obtain⟨v,h1,h2,h3⟩:=zov (P:=P) hR { dst:=some d,op:=op,type:=type,pos:=pos,after:=after,guard:=guard } (hp rfl)
    exact zft hR ⟨hm,hd⟩ rfl ⟨v,h1,zgd.cond h2 h3,rfl⟩ (fun j hj=>zbE (P:=P) (op:=op) hR.wf hj) (fun a' w' hR'=>hK _ _ _ hR' hk)
  cases op<;>try (exact plain h)
  case buildSlice t len parts =>
   cases e with
   |false=>exact hK _ _ _ (zgI (r:=.x (.one (.bool false))) hR ⟨hm,h.1⟩ rfl (fun j hj=>by cases hj)) h.2
   |true =>
    obtain⟨hp,hd,hk⟩:=h
    obtain⟨v,w',hrun,hR'⟩:=zfc (P:=P) (f:=Ab.sv s) hR (fun x _=>hR.sv x.2) ⟨hm,hd⟩ hp
    simp only[if_true]
    unfold Oper.wp
    have hx:(execOp a.eval ({ dst:=some d,op:=.buildSlice t len parts,type:=type,pos:=pos,after:=after,guard:=guard }:Oper)).run P w=.ok (.value v) w':=by
     simp only[execOp,Sem.run_bind,hrun,Result.andThen_ok,Sem.run_pure]
    rw[hx]
    exact hK _ _ _ hR' hk
  case call c =>
   obtain⟨callee,args,argTypes⟩:=c
   simp only[zj8] at h
   split at h
   ·rename_i f
    obtain⟨r,hc,hfl,hd,hk⟩:=zs9 h
    cases e with
    |false=>exact hK _ _ _ (zgI hR ⟨hm,hd⟩ (by cases r<;>first | rfl | cases hfl) (fun j hj=>by cases r<;>cases hj)) hk
    |true =>
     refine zoM (P:=P) hR (hc rfl) ⟨argTypes,rfl⟩ ⟨hm,hd⟩ rfl (fun a' w' hR'=>?_)
     have hac:zbA s args.toList r=s:=by unfold zbA;rw[hfl]
     rw[hac] at hR'
     refine hK _ _ _ (hR'.zxo (d:=d) (hdn:=hd) (s':=Ab.put s d (.cond true r.av)) (by rw[zbb (by cases r<;>rfl)];cases r<;>first | rfl | cases hfl) (fun i=>?_)) hk
     by_cases hi:i=d
     ·subst hi
      rw[if_pos rfl,zbb (by cases r<;>rfl),zbb (by cases r<;>rfl)]
     ·rw[if_neg hi]
      unfold Ab.put
      cases (s d).zaa<;>simp[hi]
   ·exact plain h
theorem zBl(hR:Rel S0 w0 n s a w)(o:Oper)(hdm:∀d,o.dst=some d→S0.m≤d){e:Bool}{K:St→Prop}(h:zp3 P n s e o.op o.dst K){K':Act→World→Prop}{Q:Exit→Act→World→Prop}
  (hK:∀s' a' w',Rel S0 w0 n s' a' w'→K s'→K' a' w'):if e then o.wp P a w K' Q else K' (a.put o.dst undef) w:=by
 obtain⟨dst,op,type,pos,after,guard⟩:=o
 dsimp only at h hdm
 unfold zp3 at h
 split at h
 ·rename_i d c
  obtain⟨callee,args,argTypes⟩:=c
  have hm:=hdm d rfl
  dsimp only at h
  split at h
  ·rename_i f
   cases e with
   |false=>exact hK _ _ _ (zgI (r:=.x (.one (.bool false))) hR ⟨hm,h.1⟩ rfl (fun j hj=>by cases hj)) h.2
   |true =>
    have hc:zfS P s (zaZ s f args.toList) (fun xs r outs=>d<n∧(fun t=>(t d).zaa=false∧d<n∧K (fun i=>if i=d then .cond true (t d) else t i)) (Ab.put (zaI s xs outs) d r.av)):=by
     dsimp only at h
     refine zt9 h ?_
     ·rintro ys r outs ⟨hd,ho,hk⟩
      have hr:∀j,r.av.refs j=false:=fun j=>by cases r<;>rfl
      refine⟨hd,by rw[zbb (hr d)];exact ho,hd,?_⟩
      have e:(fun i=>if i=d then AV.cond true (Ab.put (zaI s ys outs) d r.av d) else Ab.put (zaI s ys outs) d r.av i)=Ab.put (zaI s ys outs) d (.cond true r.av):=by
       funext i
       by_cases hi:i=d
       ·subst hi
        rw[if_pos rfl,zbb (hr i),zbb (show (AV.cond true r.av).refs i=false from hr i)]
       ·rw[if_neg hi]
        unfold Ab.put
        cases (zaI s ys outs d).zaa<;>simp[hi]
      rw[e];exact hk
    exact zo2 (P:=P) (K:=fun t=>(t d).zaa=false∧d<n∧K (fun i=>if i=d then .cond true (t d) else t i)) hR hc ⟨argTypes,rfl⟩ rfl hm (fun s' a' w' hR' hs=>hK _ a' w' (hR'.zxo hs.2.1 hs.1 (fun i=>rfl)) hs.2.2)
  ·exact h.elim
 ·exact h.elim
theorem zk8(hR:Rel S0 w0 n s a w)(o:Oper)(hdm:∀d,o.dst=some d→S0.m≤d){e:Bool}{K:St→Prop}(h:match zF1 s o.op with | true=>zp3 P n s e o.op o.dst K | false=>zj8 P n s e o.op o.dst K){K':Act→World→Prop}{Q:Exit→Act→World→Prop}
  (hK:∀s' a' w',Rel S0 w0 n s' a' w'→K s'→K' a' w'):if e then o.wp P a w K' Q else K' (a.put o.dst undef) w:=by
 split at h
 ·exact zBl hR o hdm h hK
 ·exact zp6 hR o hdm h hK
theorem zx9{ops:Array Oper}{Q':Exit→Act→World→Prop}{K:St→Prop}:∀(l:List Oper) (s:St) (a:Act) (w:World),(∀o∈l,∀d,o.dst=some d→S0.m≤d)→Rel S0 w0 n s a w→zaS P n ops l s K →
  (∀s' a' w',Rel S0 w0 n s' a' w'→K s'→Q' .normal a' w')→wpList P ops Q' l a w:=by
 intro l
 induction l with
 |nil=>intro s a w _ hR h hQ;exact hQ s a w hR h
 |cons o l ih =>
  intro s a w hl hR h hQ
  have hl':∀o∈l,∀d,o.dst=some d→S0.m≤d:=fun o ho=>hl o (List.mem_cons_of_mem _ ho)
  have ho:=hl o List.mem_cons_self
  simp only[zaS,aop] at h
  unfold wpList
  cases hg:o.guard with
  |none =>
   rw[hg] at h
   have hw:Region.wanted o (yielded ops a.tmps)=true:=by simp[Region.wanted,hg]
   rw[if_pos hw]
   exact .inl (zeX (P:=P) hR o ho h (fun s' a' w' hR' hk=>ih s' a' w' hl' hR' hk hQ))
  |some g =>
   rw[hg] at h
   simp only at h
   cases hv:zcG ops s g with
   |none=>rw[hv] at h;exact h.elim
   |some e =>
    rw[hv] at h
    have hw:Region.wanted o (yielded ops a.tmps)=e:=by
     simp only[Region.wanted,hg]
     exact zh2 hR hv
    have:=zk8 (P:=P) (Q:=Q') hR o ho h (fun s' a' w' hR' hk=>ih s' a' w' hl' hR' hk hQ)
    rw[hw]
    cases e with
    |true=>exact .inl this
    |false=>exact this
end
end Go.Ab
namespace Go.Ab
open Go Go.RowKit
variable [Amb]
section
variable {σ:Type}(ops:Array Oper)(step:Nat→σ→σ→Prop)
def chain:List Nat→σ→σ→Prop
 |[],s,s'=>s=s'
 |i::l,s,s'=>∃s1,step i s s1∧chain l s1 s'
inductive zmx:Nat→Nat→Prop where
 |edge {i:Nat} {o:Oper} {e:Edge}:ops[i]?=some o→e∈o.after→Region.binds .any e=true→zmx i e.on
 |far {i j:Nat} {o:Oper} {e:Edge}:ops[i]?=some o→e∈o.after→Region.binds .any e=true→zmx e.on j→zmx i j
def zzp(fin:σ→Prop):Nat→Array Bool→σ→Prop
 |0,listed,s=>Region.ready .any ops listed=[]∧fin s
 |fuel+1,listed,s=>(Region.ready .any ops listed=[]→fin s)∧∀i∈Region.ready .any ops listed,∃s',step i s s'∧zzp fin fuel (listed.setIfInBounds i true) s'
def Closed(listed:Array Bool):Prop:=∀(i:Nat) (o:Oper),ops[i]?=some o→listed.getD i true=true→∀e∈o.after,Region.binds .any e=true→listed.getD e.on false=true
variable {ops step}
theorem zrb{listed:Array Bool}(hc:Closed ops listed){i j:Nat}(h:zmx ops i j)(hi:∀(o:Oper),ops[i]?=some o→∀e∈o.after,Region.binds .any e=true→listed.getD e.on false=true):listed.getD j false=true:=by
 induction h with
 |edge ho he hb=>exact hi _ ho _ he hb
 |@far i j o e ho he hb _ ih =>
  refine ih (fun o' ho'=>?_)
  have hl:=hi o ho e he hb
  have hl':listed.getD e.on true=true:=by
   simp only[Array.getD_eq_getD_getElem?] at hl ⊢
   cases hx:listed[e.on]? with
   |none=>rfl
   |some b=>rw[hx] at hl;simpa using hl
  exact hc _ o' ho' hl'
theorem front{wf:σ→Prop}{indep:Nat→Nat→Prop}(hwf:∀i s s',wf s→step i s s'→wf s')
  (hcomm:∀i j s s1 s2,indep i j→wf s→step i s s1→step j s1 s2→∃s1',step j s s1'∧step i s1' s2){i:Nat}{l2:List Nat}{s':σ} :
  ∀(l1:List Nat) (s:σ),wf s→(∀j∈l1,indep j i)→chain step (l1++i::l2) s s'→∃s1,step i s s1∧chain step (l1++l2) s1 s':=by
 intro l1
 induction l1 with
 |nil=>intro s _ _ h;exact h
 |cons j l1 ih =>
  intro s hw hi h
  obtain⟨sj,hj,h⟩:=h
  obtain⟨s2,h2,h3⟩:=ih sj (hwf j s sj hw hj) (fun k hk=>hi k (by simp[hk])) h
  obtain⟨s1',h4,h5⟩:=hcomm j i s sj s2 (hi j (by simp)) hw hj h2
  exact⟨s1',h4,s2,h5,h3⟩
theorem ziU{wf:σ→Prop}{indep:Nat→Nat→Prop}{fin:σ→Prop}(hwf:∀i s s',wf s→step i s s'→wf s')
  (hcomm:∀i j s s1 s2,indep i j→wf s→step i s s1→step j s1 s2→∃s1',step j s s1'∧step i s1' s2)
  (hback:∀(i:Nat) (o:Oper),ops[i]?=some o→∀e∈o.after,Region.binds .any e=true→e.on<i)
  (hpair:∀j i,j<i→i<ops.size→zmx ops i j∨indep j i){s':σ}(hfin:fin s') :
  ∀(m:Nat) (l:List Nat) (listed:Array Bool) (s:σ),l.length=m→listed.size=ops.size→Closed ops listed→l.Pairwise (· < ·)→(∀i,i∈l↔i<ops.size∧listed.getD i true=false)→wf s→chain step l s s'→zzp ops step fin m listed s:=by
 intro m
 induction m with
 |zero =>
  intro l listed s hm hsz hc hs hl hw h
  have hnil:l=[]:=List.eq_nil_of_length_eq_zero hm
  subst hnil
  have:s=s':=h
  subst this
  refine⟨?_,hfin⟩
  cases hr:Region.ready .any ops listed with
  |nil=>rfl
  |cons i r =>
   have hi:i∈Region.ready .any ops listed:=by rw[hr];simp
   obtain⟨h1,o,ho,_⟩:=mem_ready.1 hi
   have:=(hl i).2 ⟨(Array.getElem?_eq_some_iff.1 ho).1,h1⟩
   cases this
 |succ m ih =>
  intro l listed s hm hsz hc hs hl hw h
  refine⟨fun hr=>?_,fun i hi=>?_⟩
  ·-- nothing is ready: but the least of those that have not come up is
   exfalso
   cases l with
   |nil=>simp at hm
   |cons i r =>
    obtain⟨hlt,hun⟩:=(hl i).1 (by simp)
    have ho:ops[i]?=some ops[i]:=Array.getElem?_eq_getElem hlt
    have hri:i∈Region.ready .any ops listed:=by
     refine mem_ready.2 ⟨hun,ops[i],ho,fun e he hb=>?_⟩
     have hei:=hback i ops[i] ho e he hb
     have hne:e.on∉i::r:=by
      intro hmem
      rcases List.mem_cons.1 hmem with h | h
      ·omega
      ·have:=(List.pairwise_cons.1 hs).1 e.on h;omega
     have:listed.getD e.on true≠false:=fun h=>hne ((hl e.on).2 ⟨by omega,h⟩)
     simp only[Array.getD_eq_getD_getElem?] at this ⊢
     cases hx:listed[e.on]? with
     |none =>
      have:listed.size≤e.on:=by simpa using hx
      omega
     |some b=>rw[hx] at this;simpa using this
    rw[hr] at hri
    cases hri
  ·obtain⟨h1,o,ho,hall⟩:=mem_ready.1 hi
   have hlt:=(Array.getElem?_eq_some_iff.1 ho).1
   have hmem:=(hl i).2 ⟨hlt,h1⟩
   obtain⟨l1,l2,rfl⟩:=List.append_of_mem hmem
   have hsplit:=List.pairwise_append.1 hs
   have hind:∀j∈l1,indep j i:=by
    intro j hj
    have hji:j<i:=hsplit.2.2 j hj i (by simp)
    rcases hpair j i hji hlt with h | h
    ·exfalso
     have hlj:=zrb hc h (fun o' ho' e he hb=>by
      rw[ho] at ho';injection ho' with ho';subst ho'
      exact hall e he hb)
     have:=((hl j).1 (by simp[hj])).2
     simp only[Array.getD_eq_getD_getElem?] at this hlj
     cases hx:listed[j]? with
     |none=>rw[hx] at hlj;cases hlj
     |some b=>rw[hx] at hlj this;simp at hlj this;rw[hlj] at this;cases this
    ·exact h
   obtain⟨s1,h2,h3⟩:=front hwf hcomm l1 s hw hind h
   have hsz':(listed.setIfInBounds i true).size=ops.size:=by simpa using hsz
   have hget:∀k d,(listed.setIfInBounds i true).getD k d=if k=i then true else listed.getD k d:=by
    intro k d
    simp only[Array.getD_eq_getD_getElem?]
    by_cases hk:k=i
    ·subst hk;simp[hsz,hlt]
    ·rw[Array.getElem?_setIfInBounds_ne (by omega)];simp[hk]
   refine⟨s1,h2,ih (l1++l2) _ s1 (by simp at hm ⊢;omega) hsz' ?_ ?_ ?_ (hwf i s s1 hw h2) h3⟩
   ·intro k o' ho' hk e he hb
    rw[hget] at hk ⊢
    by_cases hki:k=i
    ·subst hki
     rw[ho] at ho';injection ho' with ho';subst ho'
     split
     ·rfl
     ·exact hall e he hb
    ·rw[if_neg hki] at hk
     split
     ·rfl
     ·exact hc k o' ho' hk e he hb
   ·refine List.pairwise_append.2 ⟨hsplit.1,(List.pairwise_cons.1 hsplit.2.1).2,fun x hx y hy=>hsplit.2.2 x hx y (by simp[hy])⟩
   ·intro k
    rw[hget]
    have hk:=hl k
    simp only[List.mem_append,List.mem_cons] at hk ⊢
    by_cases hki:k=i
    ·subst hki
     simp only[if_pos]
     constructor
     ·rintro (h | h)
      ·have:=hsplit.2.2 k h k (by simp);omega
      ·have:=(List.pairwise_cons.1 hsplit.2.1).1 k h;omega
     ·rintro⟨_,h⟩;cases h
    ·rw[if_neg hki,←hk]
     constructor
     ·rintro (h | h)
      ·exact .inl h
      ·exact .inr (.inr h)
     ·rintro (h | h | h)
      ·exact .inl h
      ·exact absurd h hki
      ·exact .inr h
end
end Go.Ab
namespace Go.Ab
open Go Go.RowKit
variable [Amb]
def zaA(s s':St):Operand→Prop
 |.tmp t=>s' t=s t∧∀b,(s t).refs b=true→s' b=s b
 |_=>True
section
variable {P:Program}{s s':St}
theorem zjB{x:Operand}(h:zaA s s' x):look s' x=look s x:=by
 cases x with
 |tmp t=>simp only[look,h.1]
 |_=>rfl
theorem zak{x:Operand}(h:zaA s s' x):sv s' x=sv s x:=by simp only[sv,zjB h]
theorem zaC{x:Operand}(h:zaA s s' x){b:Nat}(hb:(sv s x).2.refs b=true):s' b=s b:=by
 have hl:(look s x).refs b=true:=zj4 hb
 cases x with
 |tmp t =>
  simp only[look] at hl
  split at hl
  ·obtain rfl:t=b:=by simpa[AV.refs] using hl
   exact h.1
  ·obtain rfl:t=b:=by simpa[AV.refs] using hl
   exact h.1
  ·obtain rfl:t=b:=by simpa[AV.refs] using hl
   exact h.1
  ·cases hl
  ·cases hl
  ·cases hl
  ·exact h.2 b hl
 |const v =>
  simp only[look,ze9] at hl
  split at hl
  ·split at hl<;>cases hl
  ·cases hl
  ·split at hl<;>cases hl
 |_=>cases hl
theorem mem_congr{r:AV}(h:∀b,r.refs b=true→s' b=s b):mem s' r=mem s r:=by
 cases r with
 |ptr i off=>simp only[mem,h i (by simp[AV.refs])]
 |eptr i k off=>simp only[mem,h i (by simp[AV.refs])]
 |_=>rfl
theorem zna(h:∀i off,s' (LK i off)=s (LK i off))(r:AV)(v:Prop×AV):za0 s' r v=za0 s r v:=by
 unfold za0
 split
 ·split
  ·rw[h]
  ·rfl
 ·rfl
def zHO(P:Program)(s s':St)(op:Op):Prop:=match op with
 |.load t x=>za0 s' (sv s x).2 (zeD (tk P t) (zbp P t) (sv s x).1 (mem s (sv s x).2))=za0 s (sv s x).2 (zeD (tk P t) (zbp P t) (sv s x).1 (mem s (sv s x).2))
 |_=>True
theorem zgZ(h:∀i off,s' (LK i off)=s (LK i off))(op:Op):zHO P s s' op:=by
 cases op<;>first | trivial | exact zna h _ _
theorem zgC{o:Option Operand}{z:Int}(h:∀x,o=some x→zaA s s' x):zaw s' o z=zaw s o z:=by
 cases o with
 |none=>rfl
 |some x=>simp only[zaw,zak (h x rfl)]
theorem zmp:∀(parts:List (Nat×Operand)),(∀x∈parts,zaA s s' x.2)→(parts.map fun x=>(x.1,sv s' x.2))=(parts.map fun x=>(x.1,sv s x.2)):=by
 intro parts h
 apply List.map_congr_left
 intro x hx
 rw[zak (h x hx)]
theorem zkH{t:TypeId}{x i:Prop×AV}(h:∀b,x.2.refs b=true→s' b=s b):zaM P s' t x i=zaM P s t x i:=by
 unfold zaM
 split
 ·rfl
 ·simp only[h _ (beq_self_eq_true _)]
 ·simp only[h _ (beq_self_eq_true _)]
 ·rfl
theorem zqW{t:TypeId}{x:Prop×AV}{lo hi mx:Option Operand}(h:∀b,x.2.refs b=true→s' b=s b)(h1:∀z,zaw s' lo z=zaw s lo z)(h2:∀z,zaw s' hi z=zaw s hi z)(h3:∀z,zaw s' mx z=zaw s mx z):zcc P s' t x lo hi mx=zcc P s t x lo hi mx:=by
 unfold zcc
 split
 ·simp only[h1,h2,h3]
 ·simp only[h1,h2,h3]
 ·simp only[h1,h2,h3]
 ·simp only[h _ (beq_self_eq_true _),h1,h2,h3]
 ·simp only[h _ (beq_self_eq_true _),h1,h2,h3]
 ·rfl
theorem zuz{t:TypeId}{x:Prop×AV}(h:∀b,x.2.refs b=true→s' b=s b):zpw P s' t x=zpw P s t x:=by
 unfold zpw
 split
 ·rfl
 ·rfl
 ·rfl
 ·rfl
 ·simp only[h _ (beq_self_eq_true _)]
 ·rfl
 ·rfl
theorem zo4{t:TypeId}{x k:Prop×AV}{ok:Bool}(h:∀b,x.2.refs b=true→s' b=s b):zew P s' t x k ok=zew P s t x k ok:=by
 unfold zew
 split
 ·simp only[h _ (beq_self_eq_true _)]
 ·rfl
 ·rfl
theorem zdH{v:AV}{size:Nat}(h:∀b,v.refs b=true→s' b=s b):zbO s' size v=zbO s size v:=by
 unfold zbO
 split
 ·rfl
 ·rfl
 ·rfl
 ·simp only[h _ (beq_self_eq_true _)]
 ·simp only[h _ (beq_self_eq_true _)]
 ·rfl
theorem zm4{src dst:TypeId}{x:Prop×AV}(h:∀b,x.2.refs b=true→s' b=s b):zbR P s' src dst x=zbR P s src dst x:=by
 unfold zbR
 split
 ·rfl
 ·rfl
 ·rw[zdH h]
theorem zeo(op:Op)(h:∀x∈op.operands,zaA s s' x)(hl:zHO P s s' op):zaj P s' op=zaj P s op:=by
 cases op with
 |move x=>exact zak (h x (by simp[Op.operands]))
 |assign x=>exact look_congr' (h x (by simp[Op.operands]))
 |pick c x y=>simp only[zaj,zdP,zak (h c (by simp[Op.operands])),zak (h x (by simp[Op.operands])),zak (h y (by simp[Op.operands]))]
 |load t x =>
  have hx:=h x (by simp[Op.operands])
  have hm:=mem_congr (s:=s) (s':=s') (r:=(sv s x).2) (fun b hb=>zaC hx hb)
  simp only[zaj,zdP,zak hx,zhU]
  split
  ·rfl
  ·rw[hm];exact hl
 |nilCheck x=>simp only[zaj,zdP,zak (h x (by simp[Op.operands]))]
 |binOp op t x y yt=>simp only[zaj,zdP,zkK,zak (h x (by simp[Op.operands])),zak (h y (by simp[Op.operands]))]
 |unOp op t x=>simp only[zaj,zdP,zak (h x (by simp[Op.operands]))]
 |convert src dst x =>
  have hx:=h x (by simp[Op.operands])
  simp only[zaj,zdP,zak hx,zm4 (fun b hb=>zaC hx hb)]
 |slice t x lo hi mx =>
  have hx:=h x (by simp[Op.operands])
  have h1:∀z,zaw s' lo z=zaw s lo z:=fun z=>zgC (fun y hy=>h y (by subst hy;simp[Op.operands]))
  have h2:∀z,zaw s' hi z=zaw s hi z:=fun z=>zgC (fun y hy=>h y (by subst hy;simp[Op.operands]))
  have h3:∀z,zaw s' mx z=zaw s mx z:=fun z=>zgC (fun y hy=>h y (by subst hy;simp[Op.operands]))
  simp only[zaj,zdP,zak hx,zqW (fun b hb=>zaC hx hb) h1 h2 h3]
 |fieldAddr t x f=>simp only[zaj,zdP,zak (h x (by simp[Op.operands]))]
 |field t x f=>simp only[zaj,zdP,zak (h x (by simp[Op.operands]))]
 |indexAddr t x i =>
  have hx:=h x (by simp[Op.operands])
  simp only[zaj,zdP,zak hx,zak (h i (by simp[Op.operands])),zkH (fun b hb=>zaC hx hb)]
 |index t x i=>simp only[zaj,zdP,zak (h x (by simp[Op.operands])),zak (h i (by simp[Op.operands]))]
 |makeFunc fn first captured =>
  have:captured.toList.map (Ab.sv s')=captured.toList.map (Ab.sv s):=by
   apply List.map_congr_left
   intro x hx
   exact zak (h x (by simp[Op.operands];exact .inr (by simpa using hx)))
  simp only[zaj,zdP,zdc,this]
 |lookup t x k ok =>
  have hx:=h x (by simp[Op.operands])
  simp only[zaj,zdP,zak hx,zak (h k (by simp[Op.operands])),zo4 (fun b hb=>zaC hx hb)]
 |extract x i=>simp only[zaj,zdP,zak (h x (by simp[Op.operands]))]
 |call c =>
  obtain⟨callee,⟨args⟩,ts⟩:=c
  have ha:∀x∈args,zaA s s' x:=fun x hx=>h x (by simp[Op.operands,Call.operands,hx])
  simp only[zaj,zdP]
  unfold zc4
  split
  ·split
   ·rw[zak (ha _ (by simp)),zuz (fun b hb=>zaC (ha _ (by simp)) hb)]
   ·rfl
  ·split
   ·rw[zak (ha _ (by simp))]
   ·rfl
  ·split
   ·rw[zak (ha _ (by simp)),zak (ha _ (by simp))]
   ·rfl
  ·split
   ·rw[zak (ha _ (by simp)),zak (ha _ (by simp))]
   ·rfl
  ·rfl
 |build t parts =>
  have:∀x∈parts.toList,zaA s s' x.2:=fun x hx=>h x.2 (by simp only[Op.operands,List.mem_toArray,List.mem_map];exact⟨x,hx,rfl⟩)
  simp only[zaj,zev,zmp _ this]
 |_=>rfl
where look_congr' {x:Operand} (h:zaA s s' x):((True,look s' x):Prop×AV)=(True,look s x):=by rw[zjB h]
theorem zhW:∀{caps:List (CV ⊕ (Nat×Nat))},(∀b,caps.any (zcK b)=true→s' b=s b)→zhm s' caps=zhm s caps
 |[],_=>rfl
 |.inl c::r,h=>by
  simp only[zhm,zMW,zhW (caps:=r) (fun b hb=>h b (by simp[hb]))]
 |.inr (i,off)::r,h=>by
  simp only[zhm,zMW,zhW (caps:=r) (fun b hb=>h b (by simp[hb])),h i (by simp[zcK])]
theorem znK{x:Operand}(h:zaA s s' x):argX s' x=argX s x:=by
 have hb:=fun b hb=>zaC h (b:=b) hb
 simp only[argX,zak h]
 generalize Ab.sv s x=r at hb
 obtain⟨p,r⟩:=r
 cases r with
 |alias j=>simp only[hb j (by simp[AV.refs])]
 |view j lo len wh=>simp only[hb j (by simp[AV.refs])]
 |cloR f caps=>simp only[zhW (caps:=caps) (fun b h=>hb b h)]
 |_=>rfl
theorem zh8:∀(args:List Operand),(∀x∈args,zaA s s' x)→zga s' args=zga s args
 |[],_=>rfl
 |x::r,h=>by simp only[zga,znK (h x (by simp)),zh8 r (fun y hy=>h y (by simp[hy]))]
theorem zhZ:∀(args:List Operand),(∀x∈args,zaA s s' x)→zaX s' args=zaX s args
 |[],_=>rfl
 |x::r,h=>by simp only[zaX,zak (h x (by simp)),zhZ r (fun y hy=>h y (by simp[hy]))]
theorem zr5{f:Operand}{args:List Operand}{r:RV}(hf:zaA s s' f)(h:∀x∈args,zaA s s' x):zh5 P s' f args r=zh5 P s f args r:=by
 simp only[zh5,callee,zak hf,zh8 args h]
end
def zb8(P:Program)(s:St)(op:Op)(r:AV):Prop:=
 match op with
 |.alloc t=>match zeroOf P t with
  |some cs=>r=.box cs
  |none=>False
 |.box _ x=>match sv s x with
  |(p,.x xv)=>p∧r=.box xv.cells
  |_=>False
 |.buildSlice t len parts=>(zaB P (sv s) t len parts.toList).1∧r=(zaB P (sv s) t len parts.toList).2
 |.convert src dst x=>match za6 P dst with
  |true=>(zez P src dst (sv s x)).1∧r=(zez P src dst (sv s x)).2
  |false=>(zaj P s (.convert src dst x)).1∧r=(zaj P s (.convert src dst x)).2
 |.call c=>match c.callee with
  |.value f=>∃rv:RV,zh5 P s f c.args.toList rv∧(rv.flat || (zaX s c.args.toList).isEmpty)=true∧r=rv.av
  |_=>(zaj P s (.call c)).1∧r=(zaj P s (.call c)).2
 |op=>(zaj P s op).1∧r=(zaj P s op).2
theorem zcC{P:Program}{s s':St}(op:Op)(r:AV)(h:∀x∈op.operands,zaA s s' x)(hl:zHO P s s' op):zb8 P s' op r↔zb8 P s op r:=by
 cases op with
 |alloc t=>exact Iff.rfl
 |box t x=>simp only[zb8,zak (h x (by simp[Op.operands]))]
 |convert src dst x=>simp only[zb8,zak (h x (by simp[Op.operands])),zeo _ h hl]
 |buildSlice t len parts =>
  have:∀x∈parts.toList,zaA s s' x.2:=fun x hx=>h x.2 (by simp only[Op.operands,List.mem_toArray,List.mem_map];exact⟨x,hx,rfl⟩)
  simp only[zb8,zaB,zmp _ this]
 |call c =>
  obtain⟨callee,⟨args⟩,ts⟩:=c
  have ha:∀x∈args,zaA s s' x:=fun x hx=>h x (by simp[Op.operands,Call.operands,hx])
  cases callee with
  |value f =>
   have hf:zaA s s' f:=h f (by simp[Op.operands,Call.operands])
   simp only[zb8,zr5 hf ha,zhZ args ha]
  |_=>simp only[zb8,zeo _ h hl]
 |_=>simp only[zb8,zeo _ h hl]
def zcY(P:Program)(s:St)(e:Bool)(op:Op)(r:AV):Prop:=
 match op with
 |.call c=>match c.callee with
  |.value f=>zjT P e (callee s f c.args.toList) (fun rv=>r=.cond e rv.av)
  |_=>(e=true→(zaj P s (.call c)).1)∧(zaj P s (.call c)).2.zaa=false∧r=.cond e (zaj P s (.call c)).2
 |.buildSlice t len parts=>match e with
  |true=>zb8 P s (.buildSlice t len parts) r
  |false=>r=.cond false (.x (.one (.bool false)))
 |op=>(e=true→(zaj P s op).1)∧(zaj P s op).2.zaa=false∧r=.cond e (zaj P s op).2
theorem zcO{P:Program}{s s':St}{e:Bool}(op:Op)(r:AV)(h:∀x∈op.operands,zaA s s' x)(hl:zHO P s s' op):zcY P s' e op r↔zcY P s e op r:=by
 cases op with
 |call c =>
  obtain⟨callee,⟨args⟩,ts⟩:=c
  have ha:∀x∈args,zaA s s' x:=fun x hx=>h x (by simp[Op.operands,Call.operands,hx])
  cases callee with
  |value f =>
   have hf:zaA s s' f:=h f (by simp[Op.operands,Call.operands])
   simp only[zcY,callee,zak hf,zh8 args ha]
  |_=>simp only[zcY,zeo _ h hl]
 |buildSlice t len parts =>
  cases e with
  |true=>exact zcC (.buildSlice t len parts) r h trivial
  |false=>exact Iff.rfl
 |_=>simp only[zcY,zeo _ h hl]
def zaF(P:Program)(n:Nat)(ops:Array Oper)(o:Oper)(s s':St):Prop:=
 ∃d r,o.dst=some d∧d<n∧(s d).zaa=false∧s'=put s d r ∧
  match o.guard with
  |none=>zb8 P s o.op r
  |some g=>∃e,zcG ops s g=some e∧zcY P s e o.op r
theorem zeb{ops:Array Oper}{s s':St}{g:Nat×Bool}(h:∀d,(ops[g.1]?).bind (·.dst)=some d→s' d=s d):zcG ops s' g=zcG ops s g:=by
 unfold zcG
 cases hd:(ops[g.1]?).bind (·.dst) with
 |none=>rfl
 |some d=>simp only[h d hd]
theorem zam{s:St}{d:Nat}{r:AV}(h:(s d).zaa=false)(i:Nat):put s d r i=if i=d then (match r.refs d with | true=>.dead | false=>r) else s i:=by
 unfold put;rw[h];rfl
theorem zbj{s:St}{d:Nat}{r:AV}(hw:Wf s)(h:(s d).zaa=false){x:Operand}(hx:x≠.tmp d):zaA s (put s d r) x:=by
 cases x with
 |tmp t =>
  have ht:t≠d:=fun e=>hx (by rw[e])
  refine⟨by rw[zam h,if_neg ht],fun b hb=>?_⟩
  have hbd:b≠d:=by
   rintro rfl
   have:=hw t b hb
   rw[h] at this;cases this
  rw[zam h,if_neg hbd]
 |_=>trivial
theorem zi6{s:St}{d:Nat}{r:AV}(h:(s d).zaa=false)(hd:d<MARK)(i off:Nat):put s d r (LK i off)=s (LK i off):=by
 rw[zam h,if_neg (by unfold LK;unfold MARK at hd;omega)]
theorem zmQ{P:Program}{n:Nat}{ops:Array Oper}{oi oj:Oper}{s s1 s2:St}(hmi:∀d,oi.dst=some d→d<MARK)(hmj:∀d,oj.dst=some d→d<MARK)(hap:oi.apart ops oj=true)(hw:Wf s)
  (hi:zaF P n ops oi s s1)(hj:zaF P n ops oj s1 s2):∃s1',zaF P n ops oj s s1'∧zaF P n ops oi s1' s2:=by
 obtain⟨di,ri,hdi,hin,hoi,rfl,hvi⟩:=hi
 obtain⟨dj,rj,hdj,hjn,hoj,rfl,hvj⟩:=hj
 obtain⟨h1,h2,h3⟩:=Oper.apart_spec hap
 have hne:dj≠di:=fun e=>h2 di hdi (by rw[hdj,e])
 have hoj':(s dj).zaa=false:=by rw[zam hoi,if_neg hne] at hoj;exact hoj
 have hoi':(put s dj rj di).zaa=false:=by rw[zam hoj',if_neg (Ne.symm hne)];exact hoi
 have ag:∀(o:Oper) (d:Nat),d∉o.looksAt ops→∀x∈o.op.operands,x≠.tmp d:=by
  intro o d hd x hx e
  subst e
  exact hd (by simp only[Oper.looksAt,List.mem_append,List.mem_filterMap];exact .inl ⟨.tmp d,by simpa using hx,rfl⟩)
 have gd:∀(o:Oper) (d:Nat) (g:Nat×Bool),d∉o.looksAt ops→o.guard=some g→∀d',(ops[g.1]?).bind (·.dst)=some d'→d'≠d:=by
  intro o d g hd hg d' hd' e
  subst e
  refine hd ?_
  simp only[Oper.looksAt,List.mem_append,hg,hd']
  exact .inr (by simp)
 refine⟨put s dj rj,⟨dj,rj,hdj,hjn,hoj',rfl,?_⟩,⟨di,ri,hdi,hin,hoi',?_,?_⟩⟩
 ·have hag:∀x∈oj.op.operands,zaA s (put s di ri) x:=fun x hx=>zbj hw hoi (ag oj di (h1 di hdi) x hx)
  cases hg:oj.guard with
  |none=>rw[hg] at hvj;exact(zcC _ _ hag (zgZ (zi6 hoi (hmi di hdi)) _)).1 hvj
  |some g =>
   rw[hg] at hvj
   obtain⟨e,he,hv⟩:=hvj
   refine⟨e,?_,(zcO _ _ hag (zgZ (zi6 hoi (hmi di hdi)) _)).1 hv⟩
   rw[←he]
   exact(zeb (fun d' hd'=>by rw[zam hoi,if_neg (gd oj di g (h1 di hdi) hg d' hd')])).symm
 ·funext k
  rw[zam hoj,zam hoi,zam hoi',zam hoj']
  by_cases hkj:k=dj
  ·subst hkj;simp[hne]
  ·by_cases hki:k=di
   ·subst hki;simp[hkj]
   ·simp[hkj,hki]
 ·have hag:∀x∈oi.op.operands,zaA s (put s dj rj) x:=fun x hx=>zbj hw hoj' (ag oi dj (h3 dj hdj) x hx)
  cases hg:oi.guard with
  |none=>rw[hg] at hvi;exact(zcC _ _ hag (zgZ (zi6 hoj' (hmj dj hdj)) _)).2 hvi
  |some g =>
   rw[hg] at hvi
   obtain⟨e,he,hv⟩:=hvi
   refine⟨e,?_,(zcO _ _ hag (zgZ (zi6 hoj' (hmj dj hdj)) _)).2 hv⟩
   rw[←he]
   exact zeb (fun d' hd'=>by rw[zam hoj',if_neg (gd oi dj g (h3 dj hdj) hg d' hd')])
end Go.Ab
namespace Go.Ab
open Go Go.RowKit
variable [Amb]
def Sh(a b:AV):Prop:=b=a∨(∃cs cs',a=.box cs∧b=.box cs')∨(∃e z xs xs',a=.own e z xs∧b=.own e z xs'∧xs'.length=xs.length)∨(∃k cs cs',a=.gbox k cs∧b=.gbox k cs')
theorem Sh.owner{a b:AV}(h:Sh a b):b.zaa=a.zaa:=by
 rcases h with rfl | ⟨_,_,rfl,rfl⟩ | ⟨_,_,_,_,rfl,rfl,_⟩ | ⟨_,_,_,rfl,rfl⟩<;>rfl
theorem Sh.refs{a b:AV}(h:Sh a b)(j:Nat):b.refs j=a.refs j:=by
 rcases h with rfl | ⟨_,_,rfl,rfl⟩ | ⟨_,_,_,_,rfl,rfl,_⟩ | ⟨_,_,_,rfl,rfl⟩<;>rfl
def zcl(s s':St):Operand→Prop
 |.tmp t=>Sh (s t) (s' t)∧∀b,(s t).refs b=true→Sh (s b) (s' b)
 |_=>True
section
variable {P:Program}{s s':St}
theorem zsd{x:Operand}(h:zcl s s' x):look s' x=look s x:=by
 cases x with
 |tmp t =>
  obtain⟨h1,_⟩:=h
  simp only[look]
  rcases h1 with h1 | ⟨_,_,h1,h2⟩ | ⟨_,_,_,_,h1,h2,_⟩ | ⟨_,_,_,h1,h2⟩
  ·rw[h1]
  ·rw[h1,h2]
  ·rw[h1,h2]
  ·rw[h1,h2]
 |_=>rfl
theorem zcV{x:Operand}(h:zcl s s' x):sv s' x=sv s x:=by simp only[sv,zsd h]
theorem zrF{x:Operand}(h:zcl s s' x){b:Nat}(hb:(sv s x).2.refs b=true):Sh (s b) (s' b):=by
 have hl:(look s x).refs b=true:=zj4 hb
 cases x with
 |tmp t =>
  simp only[look] at hl
  split at hl
  ·obtain rfl:t=b:=by simpa[AV.refs] using hl
   exact h.1
  ·obtain rfl:t=b:=by simpa[AV.refs] using hl
   exact h.1
  ·obtain rfl:t=b:=by simpa[AV.refs] using hl
   exact h.1
  ·cases hl
  ·cases hl
  ·cases hl
  ·exact h.2 b hl
 |const v =>
  simp only[look,ze9] at hl
  split at hl
  ·split at hl<;>cases hl
  ·cases hl
  ·split at hl<;>cases hl
 |_=>cases hl
theorem zmf{o:Option Operand}{z:Int}(h:∀x,o=some x→zcl s s' x):zaw s' o z=zaw s o z:=by
 cases o with
 |none=>rfl
 |some x=>simp only[zaw,zcV (h x rfl)]
theorem zom{t:TypeId}{x i:Prop×AV}(h:∀b,x.2.refs b=true→Sh (s b) (s' b)):zaM P s' t x i=zaM P s t x i:=by
 unfold zaM
 split
 ·rfl
 ·rcases h _ (beq_self_eq_true _) with e | ⟨_,_,e1,e2⟩ | ⟨_,_,_,_,e1,e2,e3⟩ | ⟨_,_,_,e1,e2⟩
  ·rw[e]
  ·rw[e1,e2]
  ·rw[e1,e2];simp only[e3]
  ·rw[e1,e2]
 ·rcases h _ (beq_self_eq_true _) with e | ⟨_,_,e1,e2⟩ | ⟨_,_,_,_,e1,e2,e3⟩ | ⟨_,_,_,e1,e2⟩
  ·rw[e]
  ·rw[e1,e2];rfl
  ·rw[e1,e2];rfl
  ·rw[e1,e2];rfl
 ·rfl
theorem zwa{t:TypeId}{x:Prop×AV}{lo hi mx:Option Operand}(h:∀b,x.2.refs b=true→Sh (s b) (s' b))(h1:∀z,zaw s' lo z=zaw s lo z)(h2:∀z,zaw s' hi z=zaw s hi z)(h3:∀z,zaw s' mx z=zaw s mx z):zcc P s' t x lo hi mx=zcc P s t x lo hi mx:=by
 unfold zcc
 split
 ·simp only[h1,h2,h3]
 ·simp only[h1,h2,h3]
 ·simp only[h1,h2,h3]
 ·rcases h _ (beq_self_eq_true _) with e | ⟨_,_,e1,e2⟩ | ⟨_,_,_,_,e1,e2,e3⟩ | ⟨_,_,_,e1,e2⟩
  ·rw[e];simp only[h1,h2,h3]
  ·rw[e1,e2]
  ·rw[e1,e2];simp only[e3,h1,h2,h3]
  ·rw[e1,e2]
 ·rcases h _ (beq_self_eq_true _) with e | ⟨_,_,e1,e2⟩ | ⟨_,_,_,_,e1,e2,e3⟩ | ⟨_,_,_,e1,e2⟩
  ·rw[e];simp only[h1,h2,h3]
  ·rw[e1,e2];simp only[h1,h2,h3];rfl
  ·rw[e1,e2];simp only[h1,h2,h3];rfl
  ·rw[e1,e2];simp only[h1,h2,h3];rfl
 ·rfl
theorem zIr{t:TypeId}{x:Prop×AV}(h:∀b,x.2.refs b=true→Sh (s b) (s' b)):zpw P s' t x=zpw P s t x:=by
 unfold zpw
 split
 ·rfl
 ·rfl
 ·rfl
 ·rfl
 ·rcases h _ (beq_self_eq_true _) with e | ⟨_,_,e1,e2⟩ | ⟨_,_,_,_,e1,e2,e3⟩ | ⟨_,_,_,e1,e2⟩
  ·rw[e]
  ·rw[e1,e2]
  ·rw[e1,e2];simp only[e3]
  ·rw[e1,e2]
 ·rfl
 ·rfl
def zd2:Op→Bool
 |.move _=>true
 |.assign _=>true
 |.pick _ _ _=>true
 |.nilCheck _=>true
 |.binOp _ _ _ _ _=>true
 |.unOp _ _ _=>true
 |.slice _ _ _ _ _=>true
 |.fieldAddr _ _ _=>true
 |.field _ _ _=>true
 |.indexAddr _ _ _=>true
 |.index _ _ _=>true
 |.makeFunc _ _ _=>true
 |.extract _ _=>true
 |.build _ _=>true
 |.call c=>match c.callee with
  |.builtin .len=>true
  |.builtin .max=>true
  |.builtin .min=>true
  |_=>false
 |_=>false
def zaW(s:St)(op:Op):Prop:=match op with
 |.load _ x=>∃cs,(sv s x).2=.elem cs
 |.convert _ _ x=>∃k m,(sv s x).2=.x (.one (.int k m))
 |op=>zd2 op=true
theorem zs3(op:Op)(hl:zaW s op)(h:∀x∈op.operands,zcl s s' x):zaj P s' op=zaj P s op:=by
 cases op with
 |move x=>exact zcV (h x (by simp[Op.operands]))
 |assign x=>simp only[zaj,zdP,zsd (h x (by simp[Op.operands]))]
 |pick c x y=>simp only[zaj,zdP,zcV (h c (by simp[Op.operands])),zcV (h x (by simp[Op.operands])),zcV (h y (by simp[Op.operands]))]
 |load t x =>
  obtain⟨cs,hcs⟩:=hl
  have hx:=zcV (h x (by simp[Op.operands]))
  have e1:zhU P s' t (sv s x)=zhU P s t (sv s x):=by
   unfold zhU
   split
   ·rfl
   ·simp only[hcs,mem,zjj]
  simp only[zaj,zdP,hx,e1]
 |nilCheck x=>simp only[zaj,zdP,zcV (h x (by simp[Op.operands]))]
 |binOp op t x y yt=>simp only[zaj,zdP,zkK,zcV (h x (by simp[Op.operands])),zcV (h y (by simp[Op.operands]))]
 |unOp op t x=>simp only[zaj,zdP,zcV (h x (by simp[Op.operands]))]
 |convert src dst x =>
  obtain⟨k,m,hcs⟩:=hl
  have hx:=zcV (h x (by simp[Op.operands]))
  simp only[zaj,zdP,hx]
  generalize Ab.sv s x=q at hcs ⊢
  obtain⟨p,v⟩:=q
  dsimp only at hcs
  subst hcs
  rfl
 |slice t x lo hi mx =>
  have hx:=h x (by simp[Op.operands])
  have h1:∀z,zaw s' lo z=zaw s lo z:=fun z=>zmf (fun y hy=>h y (by subst hy;simp[Op.operands]))
  have h2:∀z,zaw s' hi z=zaw s hi z:=fun z=>zmf (fun y hy=>h y (by subst hy;simp[Op.operands]))
  have h3:∀z,zaw s' mx z=zaw s mx z:=fun z=>zmf (fun y hy=>h y (by subst hy;simp[Op.operands]))
  simp only[zaj,zdP,zcV hx,zwa (fun b hb=>zrF hx hb) h1 h2 h3]
 |fieldAddr t x f=>simp only[zaj,zdP,zcV (h x (by simp[Op.operands]))]
 |field t x f=>simp only[zaj,zdP,zcV (h x (by simp[Op.operands]))]
 |indexAddr t x i =>
  have hx:=h x (by simp[Op.operands])
  simp only[zaj,zdP,zcV hx,zcV (h i (by simp[Op.operands])),zom (fun b hb=>zrF hx hb)]
 |index t x i=>simp only[zaj,zdP,zcV (h x (by simp[Op.operands])),zcV (h i (by simp[Op.operands]))]
 |makeFunc fn first captured =>
  have:captured.toList.map (Ab.sv s')=captured.toList.map (Ab.sv s):=by
   apply List.map_congr_left
   intro x hx
   exact zcV (h x (by simp[Op.operands];exact .inr (by simpa using hx)))
  simp only[zaj,zdP,zdc,this]
 |extract x i=>simp only[zaj,zdP,zcV (h x (by simp[Op.operands]))]
 |call c =>
  obtain⟨callee,⟨args⟩,ts⟩:=c
  have ha:∀x∈args,zcl s s' x:=fun x hx=>h x (by simp[Op.operands,Call.operands,hx])
  simp only[zaj,zdP]
  unfold zc4
  split
  ·split
   ·rw[zcV (ha _ (by simp)),zIr (fun b hb=>zrF (ha _ (by simp)) hb)]
   ·rfl
  ·split
   ·rw[zcV (ha _ (by simp))]
   ·rfl
  ·split
   ·rw[zcV (ha _ (by simp)),zcV (ha _ (by simp))]
   ·rfl
  ·split
   ·rw[zcV (ha _ (by simp)),zcV (ha _ (by simp))]
   ·rfl
  ·rfl
 |build t parts =>
  have:(parts.toList.map fun x=>(x.1,sv s' x.2))=(parts.toList.map fun x=>(x.1,sv s x.2)):=by
   apply List.map_congr_left
   intro x hx
   rw[zcV (h x.2 (by simp only[Op.operands,List.mem_toArray,List.mem_map];exact⟨x,hx,rfl⟩))]
  simp only[zaj,zev,this]
 |_=>simp[zaW,zd2] at hl
theorem zeg{op:Op}(hl:zaW s op)(h:∀x∈op.operands,zcl s s' x):zaW s' op:=by
 cases op with
 |load t x =>
  obtain⟨cs,hcs⟩:=hl
  exact⟨cs,by rw[zcV (h x (by simp[Op.operands]))];exact hcs⟩
 |convert src dst x =>
  obtain⟨k,m,hcs⟩:=hl
  exact⟨k,m,by rw[zcV (h x (by simp[Op.operands]))];exact hcs⟩
 |_=>exact hl
theorem zs8{op:Op}{r:AV}(hl:zaW s op)(h:∀x∈op.operands,zcl s s' x)(hc:zb8 P s op r):zb8 P s' op r:=by
 have key:=zs3 (P:=P) op hl h
 cases op with
 |call c =>
  obtain⟨callee,args,ts⟩:=c
  cases callee with
  |value f=>simp[zaW,zd2] at hl
  |_=>simp only[zb8] at hc ⊢;rw[key];exact hc
 |alloc t=>simp[zaW,zd2] at hl
 |box t x=>simp[zaW,zd2] at hl
 |buildSlice t len parts=>simp[zaW,zd2] at hl
 |convert src dst x =>
  simp only[zb8] at hc ⊢
  rw[key,zcV (h x (by simp[Op.operands]))]
  exact hc
 |_=>simp only[zb8] at hc ⊢;rw[key];exact hc
theorem zqC{e:Bool}{op:Op}{r:AV}(hl:zaW s op)(h:∀x∈op.operands,zcl s s' x)(hc:zcY P s e op r):zcY P s' e op r:=by
 have key:=zs3 (P:=P) op hl h
 cases op with
 |call c =>
  obtain⟨callee,args,ts⟩:=c
  cases callee with
  |value f=>simp[zaW,zd2] at hl
  |_=>simp only[zcY] at hc ⊢;rw[key];exact hc
 |buildSlice t len parts=>simp[zaW,zd2] at hl
 |_=>simp only[zcY] at hc ⊢;rw[key];exact hc
end
def setW(s:St)(W:List (Nat×AV)):St:=fun i=>match W.find? (fun p=>p.1==i) with
 |some p=>p.2
 |none=>s i
def zi2(P:Program)(s:St)(t:TypeId)(addr x:Prop×AV):Option (Prop×Nat×AV):=
 match addr,x,(tk P t).cells with
 |(p,.ptr i off),(q,.x xv),some m=>match s i with
  |.box cs=>some ((p∧q∧xv.cells.length=m∧off+m≤cs.length)∧zej cs off m=false,i,.box (zae cs off xv.cells))
  |.gbox b cs=>some ((p∧q∧xv.cells.length=m∧off+m≤cs.length)∧zej cs off m=false,i,.gbox b (zae cs off xv.cells))
  |_=>none
 |(p,.eptr i k off),(q,.x xv),some m=>match s i with
  |.own e size xs=>some (p∧q∧xv.cells.length=m∧k<xs.length∧off+m≤size,i,.own e size (xs.set k (zae (xs.getD k []) off xv.cells)))
  |_=>none
 |_,_,_=>none
def zoI(s:St):AV→Bool
 |.ptr i _=>(s i).told
 |_=>true
theorem znS{cs:List CV}(h:(AV.box cs).told=true)(off m:Nat):zej cs off m=false:=by
 unfold zej
 rw[List.any_eq_false]
 simp only[AV.told,Bool.not_eq_true'] at h
 rw[List.any_eq_false] at h
 intro x hx
 exact h x (List.mem_of_mem_drop (List.mem_of_mem_take hx))
theorem zBX{P:Program}{s:St}{t:TypeId}{addr x:Prop×AV}(h:(zcs P s t addr x).1)(ht:zoI s addr.2=true):∃p i v,zi2 P s t addr x=some (p,i,v)∧p∧(zcs P s t addr x).2=setW s [(i,v)]∧Sh (s i) v∧(s i).zaa=true∧addr.2.refs i=true:=by
 have hset:∀i v,(fun j=>if j=i then v else s j)=setW s [(i,v)]:=by
  intro i v
  funext j
  unfold setW
  by_cases hj:j=i
  ·subst hj;simp
  ·have:(i==j)=false:=by simpa using fun e=>hj e.symm
   simp[hj,this]
 unfold zcs at h ⊢
 unfold zi2
 split at h
 ·rename_i p i off q xv m e
  split at h
  ·rename_i cs hs
   have hany:zej cs off m=false:=znS (by rw[←hs];exact ht) off m
   refine⟨(p∧q∧xv.cells.length=m∧off+m≤cs.length)∧zej cs off m=false,i,.box (zae cs off xv.cells),by simp only[e,hs],⟨h,hany⟩,by simp only[hs,hany];exact hset i _,by rw[hs];exact .inr (.inl ⟨_,_,rfl,rfl⟩),by rw[hs];rfl,by simp[AV.refs]⟩
  ·rename_i b cs hs
   have hany:zej cs off m=false:=znS (cs:=cs) (show (AV.gbox b cs).told=true by rw[←hs];exact ht) off m
   refine⟨(p∧q∧xv.cells.length=m∧off+m≤cs.length)∧zej cs off m=false,i,.gbox b (zae cs off xv.cells),by simp only[e,hs],⟨h,hany⟩,by simp only[hs,hany];exact hset i _,by rw[hs];exact .inr (.inr (.inr ⟨_,_,_,rfl,rfl⟩)),by rw[hs];rfl,by simp[AV.refs]⟩
  ·exact h.elim
 ·rename_i p i k off q xv m e
  split at h
  ·rename_i e' size xs hs
   refine⟨_,i,_,by simp only[e,hs];rfl,h,by simp only[hs];exact hset i _,by rw[hs];exact .inr (.inr (.inl ⟨_,_,_,_,rfl,rfl,by simp⟩)),by rw[hs];rfl,by simp[AV.refs]⟩
  ·exact h.elim
 ·exact h.elim
def zcA:List (AV×Option Nat)→List AV→Bool
 |(_,some _)::l,.box _::outs=>zcA l outs
 |(_,none)::l,_::outs=>zcA l outs
 |[],_=>true
 |_,_=>false
def writes(P:Program)(n:Nat)(o:Oper)(s:St)(W:List (Nat×AV))(dr:Option (Nat×AV)):Prop:=
 o.guard=none∧match o.op with
 |.store t addr x=>o.dst=none∧dr=none∧zdQ P t=true∧zaX s [x]=[]∧∃p i v,zi2 P s t (sv s addr) (uv s x)=some (p,i,v)∧p∧W=[(i,v)]
 |.call c=>match c.callee with
  |.value f=>∃d ys r outs,o.dst=some d∧d<n∧zlY P s (zaZ s f c.args.toList) ys r outs∧zcA ys outs=true∧r.av.zaa=false∧W=pairs ys outs∧dr=some (d,r.av)
  |_=>False
 |_=>False
def goW(s:St)(W:List (Nat×AV)):Option (Nat×AV)→St
 |none=>setW s W
 |some (d,r)=>put (setW s W) d r
def zmj(P:Program)(n:Nat)(o:Oper)(s s':St):Prop:=
 ∃W dr,writes P n o s W dr∧(∀d r,dr=some (d,r)→o.dst=some d∧(s d).zaa=false∧r.zaa=false∧∀j,r.refs j=false)∧(dr=none→o.dst=none)∧s'=goW s W dr
section
variable {P:Program}{s s':St}
theorem zI4(W:List (Nat×AV))(i:Nat):(∃v,(i,v)∈W∧setW s W i=v)∨((∀v,(i,v)∉W)∧setW s W i=s i):=by
 unfold setW
 cases hf:W.find? (fun p=>p.1==i) with
 |none =>
  refine .inr ⟨fun v hv=>?_,rfl⟩
  have:=List.find?_eq_none.1 hf (i,v) hv
  simp at this
 |some p =>
  have h1:=List.mem_of_find?_eq_some hf
  have h2:=List.find?_some hf
  simp at h2
  refine .inl ⟨p.2,?_,rfl⟩
  rw[←h2];exact h1
theorem zcv{W:List (Nat×AV)}{i:Nat}(h:∀v,(i,v)∉W):setW s W i=s i:=by
 unfold setW
 cases hf:W.find? (fun p=>p.1==i) with
 |none=>rfl
 |some p =>
  have h1:=List.mem_of_find?_eq_some hf
  have h2:=List.find?_some hf
  simp at h2
  exact absurd (by rw[←h2];exact h1) (h p.2)
theorem zqm(t t':St){W:List (Nat×AV)}{i:Nat}{v:AV}(h:(i,v)∈W):setW t W i=setW t' W i:=by
 unfold setW
 cases hf:W.find? (fun p=>p.1==i) with
 |none=>have:=List.find?_eq_none.1 hf (i,v) h;simp at this
 |some p=>rfl
theorem ze8{W:List (Nat×AV)}(h:∀i v,(i,v)∈W→Sh (s i) v∧(s i).zaa=true)(i:Nat):Sh (s i) (setW s W i):=by
 rcases zI4 (s:=s) W i with⟨v,hv,e⟩ | ⟨_,e⟩
 ·rw[e];exact(h i v hv).1
 ·rw[e];exact .inl rfl
theorem zuy{x:Operand}(h:zaA s s' x):zvs s' x=zvs s x:=by
 have hb:=fun b hb=>zaC h (b:=b) hb
 simp only[zvs,zak h]
 generalize Ab.sv s x=r at hb
 obtain⟨p,r⟩:=r
 cases r with
 |alias j=>simp only[hb j (by simp[AV.refs])]
 |ptr j off =>
  cases off with
  |zero=>simp only[hb j (by simp[AV.refs])]
  |succ k=>rfl
 |_=>rfl
theorem zlm:∀(args:List Operand),(∀x∈args,zaA s s' x)→zeE s' args=zeE s args
 |[],_=>rfl
 |x::r,h=>by simp only[zeE,zuy (h x (by simp)),zlm r (fun y hy=>h y (by simp[hy]))]
theorem zmJ:∀(caps:List (CV ⊕ (Nat×Nat))),(∀b,caps.any (zcK b)=true→s' b=s b)→ze4 s' caps=ze4 s caps
 |[],_=>rfl
 |c::r,h=>by
  have h1:zwD s' c=zwD s c:=by
   unfold zwD
   split
   ·rfl
   ·rename_i i;rw[h i (by simp[zcK])]
   ·rfl
  simp only[ze4,h1,zmJ r (fun b hb=>h b (by simp[hb]))]
theorem zoC{f:Operand}{args:List Operand}(hf:zaA s s' f)(h:∀x∈args,zaA s s' x):zaZ s' f args=zaZ s f args:=by
 have hb:=fun b hb=>zaC hf (b:=b) hb
 simp only[zaZ,zak hf,zlm args h]
 generalize Ab.sv s f=r at hb
 obtain⟨p,r⟩:=r
 have:fnM s' r=fnM s r:=by
  cases r with
  |cloR g caps=>simp only[fnM,zmJ caps (fun b hc=>hb b (by simpa[AV.refs] using hc))]
  |_=>rfl
 generalize zeE s args=b
 obtain⟨q,b⟩:=b
 cases b with
 |none=>rfl
 |some xs=>dsimp only;rw[this]
theorem zqg{s:St}:∀{l:List Operand} {p:Prop} {ys:List (AV×Option Nat)},zeE s l=(p,some ys)→∀y∈ys,∀i∈y.1.zcn,∃x∈l,(sv s x).2.refs i=true
 |[],p,ys,h,y,hm=>by
  simp only[zeE,Prod.mk.injEq,Option.some.injEq] at h
  obtain⟨_,rfl⟩:=h
  cases hm
 |x::l,p,ys,h,y,hm=>by
  intro i hi
  simp only[zeE] at h
  split at h
  ·rename_i q v q' vs e1 e2
   simp only[Prod.mk.injEq,Option.some.injEq] at h
   obtain⟨_,rfl⟩:=h
   rcases List.mem_cons.1 hm with e | e
   ·subst e
    refine⟨x,by simp,?_⟩
    unfold zvs at e1
    split at e1
    ·simp only[Prod.mk.injEq,Option.some.injEq] at e1;obtain⟨_,rfl⟩:=e1;cases hi
    ·split at e1<;>first | (simp only[Prod.mk.injEq,Option.some.injEq] at e1;obtain⟨_,rfl⟩:=e1;cases hi;done) | (simp at e1)
    ·split at e1<;>first | (simp only[Prod.mk.injEq,Option.some.injEq] at e1;obtain⟨_,rfl⟩:=e1;cases hi;done) | (simp at e1)
    ·rename_i e0
     simp only[Prod.mk.injEq,Option.some.injEq] at e1
     obtain⟨_,rfl⟩:=e1
     rw[e0]
     simp only[AV.zcn,List.mem_filterMap] at hi
     obtain⟨c,hc,hci⟩:=hi
     simp only[AV.refs]
     refine List.any_eq_true.2 ⟨c,hc,?_⟩
     cases c with
     |inl c=>cases hci
     |inr p=>simp only[zcq,Option.some.injEq] at hci;simp[zcK,hci]
    ·rename_i e0
     simp only[Prod.mk.injEq,Option.some.injEq] at e1
     obtain⟨_,rfl⟩:=e1
     rw[e0]
     simp only[AV.zcn,List.mem_singleton] at hi
     simp[AV.refs,hi]
    ·simp at e1
   ·obtain⟨x',h1,h2⟩:=zqg e2 y e i hi
    exact⟨x',List.mem_cons_of_mem _ h1,h2⟩
  ·simp at h
theorem zpJ{s:St}:∀{l:List (CV ⊕ (Nat×Nat))} {ys:List (AV×Option Nat)},ze4 s l=some ys→∀y∈ys,∀i∈y.1.zcn,l.any (zcK i)=true
 |[],ys,h,y,hm=>by
  simp only[ze4,Option.some.injEq] at h
  subst h;cases hm
 |c::l,ys,h,y,hm=>by
  intro i hi
  simp only[ze4] at h
  split at h
  ·rename_i x xs e1 e2
   injection h with h
   subst h
   rcases List.mem_cons.1 hm with e | e
   ·subst e
    unfold zwD at e1
    split at e1
    ·injection e1 with e1;subst e1;cases hi
    ·split at e1
     ·injection e1 with e1;subst e1;cases hi
     ·cases e1
    ·rename_i k off _
     by_cases hoff:1000000≤off
     ·simp only[hoff,decide_true,cond_true,Option.some.injEq] at e1
      subst e1
      simp only[AV.zcn,List.mem_singleton] at hi
      simp[zcK,hi]
     ·simp[hoff] at e1
   ·simp[zpJ e2 y e i hi]
  ·cases h
theorem zr4{s:St}{f:Operand}{args:List Operand}{p:Prop}{g:FuncId}{ys:List (AV×Option Nat)}(h:zaZ s f args=(p,some (g,ys))):∀y∈ys,∀i∈y.1.zcn,(sv s f).2.refs i=true∨∃x∈args,(sv s x).2.refs i=true:=by
 intro y hm i hi
 unfold zaZ at h
 split at h
 ·rename_i p' fv q xs ef e2
  split at h
  ·rename_i g' caps e1
   simp only[Prod.mk.injEq,Option.some.injEq] at h
   obtain⟨_,rfl,rfl⟩:=h
   rcases List.mem_append.1 hm with hm | hm
   ·exact .inr (zqg e2 y hm i hi)
   ·left
    rw[ef]
    unfold fnM at e1
    split at e1
    ·cases hc:ze4 s _ with
     |none=>rw[hc] at e1;cases e1
     |some zs =>
      rw[hc] at e1
      simp only[Option.map_some,Option.some.injEq,Prod.mk.injEq] at e1
      obtain⟨_,rfl⟩:=e1
      exact zpJ hc y hm i hi
    ·cases hc:zkD _ with
     |none=>rw[hc] at e1;cases e1
     |some zs =>
      rw[hc] at e1
      simp only[Option.map_some,Option.some.injEq,Prod.mk.injEq] at e1
      obtain⟨_,rfl⟩:=e1
      obtain⟨z,_,e⟩:=List.mem_map.1 hm
      subst e
      cases hi
  ·simp at h
 ·simp at h
theorem zpv{l:List Nat}{i:Nat}:∀{t r:List Nat},i∈addN l t r→i∈t∨i∈r
 |[],r,h=>.inr h
 |k::t,r,h=>by
  simp only[addN] at h
  cases hc:l.contains k<;>rw[hc] at h
  ·rcases List.mem_cons.1 h with e | e
   ·exact .inl (by simp[e])
   ·rcases zpv e with e | e
    ·exact .inl (List.mem_cons_of_mem _ e)
    ·exact .inr e
  ·rcases zpv h with e | e
   ·exact .inl (List.mem_cons_of_mem _ e)
   ·exact .inr e
theorem zpG{l:List Nat}{i:Nat}:∀{xs:List (AV×Option Nat)},i∈zgQ l xs→∃y∈xs,i∈y.1.zcn
 |[],h=>by cases h
 |(x,q)::r,h=>by
  simp only[zgQ] at h
  rcases zpv h with e | e
  ·exact⟨_,List.mem_cons_self,e⟩
  ·obtain⟨y,h1,h2⟩:=zpG e
   exact⟨y,List.mem_cons_of_mem _ h1,h2⟩
theorem zrD{xs:List (AV×Option Nat)}(h:∀y∈xs,∀i∈y.1.zcn,s' i=s i):ghost s' xs=ghost s xs:=by
 unfold ghost
 split
 ·rfl
 ·rename_i i r e
  obtain⟨y,h1,h2⟩:=zpG (l:=slotsOf xs) (i:=i) (xs:=xs) (by rw[e];simp)
  simp only[h y h1 i h2]
theorem zrP{f:Operand}{args:List Operand}(hf:zaA s s' f)(h:∀x∈args,zaA s s' x){ys:List (AV×Option Nat)}{r:RV}{outs:List AV}:zlY P s' (zaZ s f args) ys r outs↔zlY P s (zaZ s f args) ys r outs:=by
 unfold zlY
 split
 ·rename_i p g xs e
  have hg:ghost s' xs=ghost s xs:=zrD (fun y hy i hi=>by
   rcases zr4 e y hy i hi with k | ⟨x,hx,k⟩
   ·exact zaC hf k
   ·exact zaC (h x hx) k)
  rw[hg]
 ·exact Iff.rfl
theorem zki{n:Nat}{o:Oper}{W:List (Nat×AV)}{dr:Option (Nat×AV)}(h:∀x∈o.op.operands,zaA s s' x):writes P n o s' W dr↔writes P n o s W dr:=by
 unfold writes
 cases hop:o.op with
 |store t addr x =>
  rw[hop] at h
  have ha:=h addr (by simp[Op.operands])
  have hx:=h x (by simp[Op.operands])
  have huv:uv s' x=uv s x:=by simp only[uv,znK hx]
  have hl:zaX s' [x]=zaX s [x]:=zhZ [x] (fun y hy=>by simp at hy;subst hy;exact hx)
  have hst:zi2 P s' t (sv s addr) (uv s x)=zi2 P s t (sv s addr) (uv s x):=by
   unfold zi2
   split
   ·rename_i e _ _;rw[zaC ha (by rw[e];simp[AV.refs])]
   ·rename_i e _ _;rw[zaC ha (by rw[e];simp[AV.refs])]
   ·rfl
  simp only[huv,hl,zak ha,hst]
 |call c =>
  rw[hop] at h
  obtain⟨callee,⟨args⟩,ts⟩:=c
  cases callee with
  |value f =>
   have hf:zaA s s' f:=h f (by simp[Op.operands,Call.operands])
   have ha:∀x∈args,zaA s s' x:=fun x hx=>h x (by simp[Op.operands,Call.operands,hx])
   have:∀ys r outs,zlY P s' (zaZ s' f args) ys r outs↔zlY P s (zaZ s f args) ys r outs:=fun ys r outs=>by rw[zoC hf ha];exact zrP hf ha
   simp only[this]
  |_=>rfl
 |_=>rfl
end
theorem zrg{ops:Array Oper}{s s':St}{g:Nat×Bool}{e:Bool}(he:zcG ops s g=some e)(h:∀d,(ops[g.1]?).bind (·.dst)=some d→(s d).zaa=false→s' d=s d):zcG ops s' g=zcG ops s g:=by
 unfold zcG at he ⊢
 cases hd:(ops[g.1]?).bind (·.dst) with
 |none=>rfl
 |some d =>
  rw[hd] at he
  simp only at he ⊢
  rw[h d hd]
  cases hs:s d<;>rw[hs] at he<;>first | rfl | cases he
theorem zmy:∀(l:List (AV×Option Nat)) (outs:List AV),((pairs l outs).map (·.1)).Sublist (slotsOf l)
 |[],_=>by simp[pairs]
 |(x,none)::l,[]=>by simp[pairs]
 |(x,some i)::l,[]=>by simp[pairs]
 |(x,none)::l,o::outs=>by simpa[pairs,slotsOf] using zmy l outs
 |(x,some i)::l,o::outs=>by
  have:=zmy l outs
  simp only[pairs,slotsOf,List.map_cons,List.filterMap_cons]
  exact this.cons_cons i
theorem zjV:∀{l:List (AV×Option Nat)} {outs:List AV},zcA l outs=true→∀i o,(i,o)∈pairs l outs→∃cs,o=.box cs
 |[],_,_,i,o,h=>by simp[pairs] at h
 |(x,none)::l,[],hb,i,o,h=>by simp[pairs] at h
 |(x,some k)::l,[],hb,i,o,h=>by simp[pairs] at h
 |(x,none)::l,q::outs,hb,i,o,h=>by
  simp only[pairs] at h
  exact zjV (l:=l) (outs:=outs) (by simpa[zcA] using hb) i o h
 |(x,some k)::l,q::outs,hb,i,o,h=>by
  cases q with
  |box cs =>
   simp only[pairs] at h
   rcases List.mem_cons.1 h with e | e
   ·injection e with e1 e2;exact⟨cs,e2⟩
   ·exact zjV (l:=l) (outs:=outs) (by simpa[zcA] using hb) i o e
  |_=>simp[zcA] at hb
theorem zwo{s:St}{x:Operand}{p:Prop}{y:AV}{i:Nat}(h:zvs s x=(p,some (y,some i))):s i=y∧y.zaa=true:=by
 unfold zvs at h
 split at h
 ·simp at h
 ·split at h
  ·rename_i hs;simp only[Prod.mk.injEq,Option.some.injEq] at h;obtain⟨_,rfl,rfl⟩:=h;exact⟨hs,rfl⟩
  ·rename_i hs;simp only[Prod.mk.injEq,Option.some.injEq] at h;obtain⟨_,rfl,rfl⟩:=h;exact⟨hs,rfl⟩
  ·simp at h
 ·split at h
  ·rename_i hs;simp only[Prod.mk.injEq,Option.some.injEq] at h;obtain⟨_,rfl,rfl⟩:=h;exact⟨hs,rfl⟩
  ·simp at h
 ·simp at h
 ·simp at h
 ·simp at h
theorem znG{s:St}:∀{l:List Operand} {p:Prop} {ys:List (AV×Option Nat)},zeE s l=(p,some ys)→∀(y:AV) (i:Nat),(y,some i)∈ys→s i=y∧y.zaa=true
 |[],p,ys,h,y,i,hm=>by
  simp only[zeE,Prod.mk.injEq,Option.some.injEq] at h
  obtain⟨_,rfl⟩:=h
  cases hm
 |x::l,p,ys,h,y,i,hm=>by
  simp only[zeE] at h
  split at h
  ·rename_i q v q' vs e1 e2
   simp only[Prod.mk.injEq,Option.some.injEq] at h
   obtain⟨_,rfl⟩:=h
   rcases List.mem_cons.1 hm with e | e
   ·subst e;exact zwo e1
   ·exact znG e2 y i e
  ·simp at h
theorem zn3{s:St}:∀{l:List (CV ⊕ (Nat×Nat))} {ys:List (AV×Option Nat)},ze4 s l=some ys→∀(y:AV) (i:Nat),(y,some i)∈ys→s i=y∧y.zaa=true
 |[],ys,h,y,i,hm=>by
  simp only[ze4,Option.some.injEq] at h
  subst h;cases hm
 |c::l,ys,h,y,i,hm=>by
  simp only[ze4] at h
  split at h
  ·rename_i x xs e1 e2
   injection h with h
   subst h
   rcases List.mem_cons.1 hm with e | e
   ·subst e
    unfold zwD at e1
    split at e1
    ·injection e1 with e1;simp at e1
    ·split at e1
     ·rename_i hs;injection e1 with e1;simp only[Prod.mk.injEq,Option.some.injEq] at e1;obtain⟨rfl,rfl⟩:=e1;exact⟨hs,rfl⟩
     ·cases e1
    ·rename_i off _
     by_cases hoff:1000000≤off
     ·simp[hoff] at e1
     ·simp[hoff] at e1
   ·exact zn3 e2 y i e
  ·cases h
theorem zkb{s:St}{f:Operand}{args:List Operand}{p:Prop}{g:FuncId}{ys:List (AV×Option Nat)}(h:zaZ s f args=(p,some (g,ys)))(y:AV)(i:Nat)(hm:(y,some i)∈ys):s i=y∧y.zaa=true:=by
 unfold zaZ at h
 split at h
 ·rename_i p' fv q xs ef e2
  split at h
  ·rename_i g' caps e1
   simp only[Prod.mk.injEq,Option.some.injEq] at h
   obtain⟨_,rfl,rfl⟩:=h
   rcases List.mem_append.1 hm with hm | hm
   ·exact znG e2 y i hm
   ·unfold fnM at e1
    split at e1
    ·cases hc:ze4 s _ with
     |none=>rw[hc] at e1;cases e1
     |some zs =>
      rw[hc] at e1
      simp only[Option.map_some,Option.some.injEq,Prod.mk.injEq] at e1
      obtain⟨_,rfl⟩:=e1
      exact zn3 hc y i hm
    ·cases hc:zkD _ with
     |none=>rw[hc] at e1;cases e1
     |some zs =>
      rw[hc] at e1
      simp only[Option.map_some,Option.some.injEq,Prod.mk.injEq] at e1
      obtain⟨_,rfl⟩:=e1
      obtain⟨z,_,e⟩:=List.mem_map.1 hm
      simp at e
  ·simp at h
 ·simp at h
theorem znL{s:St}{f:Operand}{args:List Operand}{p:Prop}{g:FuncId}{xs zs:List (AV×Option Nat)}(h:zaZ s f args=(p,some (g,xs)))(hz:zs=xs∨∃i cs,ghost s xs=some (i,cs)∧zs=xs++[(.box cs,some i)])(y:AV)(i:Nat)(hm:(y,some i)∈zs):s i=y∧y.zaa=true:=by
 rcases hz with rfl | ⟨k,cs,hg,rfl⟩
 ·exact zkb h y i hm
 ·rcases List.mem_append.1 hm with hm | hm
  ·exact zkb h y i hm
  ·simp only[List.mem_singleton,Prod.mk.injEq,Option.some.injEq] at hm
   obtain⟨rfl,rfl⟩:=hm
   exact⟨znr hg,rfl⟩
theorem zk3{P:Program}{n:Nat}{o:Oper}{s:St}{W:List (Nat×AV)}{dr:Option (Nat×AV)}(h:writes P n o s W dr):(∀i v,(i,v)∈W→Sh (s i) v∧(s i).zaa=true)∧(W.map (·.1)).Nodup:=by
 unfold writes at h
 obtain⟨_,h⟩:=h
 split at h
 ·rename_i t addr x hop
  obtain⟨_,_,_,_,p,i,v,hst,_,rfl⟩:=h
  refine⟨fun j u hj=>?_,by simp⟩
  simp only[List.mem_singleton,Prod.mk.injEq] at hj
  obtain⟨rfl,rfl⟩:=hj
  unfold zi2 at hst
  split at hst
  ·split at hst
   ·rename_i cs hs
    simp only[Option.some.injEq,Prod.mk.injEq] at hst
    obtain⟨_,rfl,rfl⟩:=hst
    rw[hs]
    exact⟨.inr (.inl ⟨_,_,rfl,rfl⟩),rfl⟩
   ·rename_i b cs hs
    simp only[Option.some.injEq,Prod.mk.injEq] at hst
    obtain⟨_,rfl,rfl⟩:=hst
    rw[hs]
    exact⟨.inr (.inr (.inr ⟨_,_,_,rfl,rfl⟩)),rfl⟩
   ·cases hst
  ·split at hst
   ·rename_i e size xs hs
    simp only[Option.some.injEq,Prod.mk.injEq] at hst
    obtain⟨_,rfl,rfl⟩:=hst
    rw[hs]
    exact⟨.inr (.inr (.inl ⟨_,_,_,_,rfl,rfl,by simp⟩)),rfl⟩
   ·cases hst
  ·cases hst
 ·split at h
  ·obtain⟨d,ys,r,outs,_,_,hA,hbo,_,rfl,_⟩:=h
   obtain⟨hfit,hnd,p,g,xs,hc,hz⟩:=zhc hA
   refine⟨fun i v hiv=>?_,(zmy ys outs).nodup hnd⟩
   obtain⟨cs,rfl⟩:=zjV hbo i v hiv
   obtain⟨j,x,h1,h2⟩:=zdk hiv
   obtain⟨hs,ho⟩:=znL hc hz x i (List.mem_of_getElem? h1)
   have hf:=(zbe hfit).2 j x (.box cs) (by rw[List.getElem?_map,h1];rfl) h2
   rw[hs]
   cases x<;>first | exact⟨.inr (.inl ⟨_,_,rfl,rfl⟩),rfl⟩ | (simp[zau] at hf)
  ·exact h.elim
 ·exact h.elim
theorem za8{ops:Array Oper}(o:Oper)(d:Nat)(hd:d∉o.looksAt ops):∀x∈o.op.operands,x≠.tmp d:=by
 intro x hx e
 subst e
 exact hd (by simp only[Oper.looksAt,List.mem_append,List.mem_filterMap];exact .inl ⟨.tmp d,by simpa using hx,rfl⟩)
theorem zfK{ops:Array Oper}(o:Oper)(d:Nat)(g:Nat×Bool)(hd:d∉o.looksAt ops)(hg:o.guard=some g):∀d',(ops[g.1]?).bind (·.dst)=some d'→d'≠d:=by
 intro d' hd' e
 subst e
 refine hd ?_
 simp only[Oper.looksAt,List.mem_append,hg,hd']
 exact .inr (by simp)
def goV(s:St)(W:List (Nat×AV))(i:Nat):Option (Nat×AV)→AV
 |some (d,r)=>if i=d then r else setW s W i
 |none=>setW s W i
@[simp]theorem zoF(s:St)(W:List (Nat×AV))(i:Nat):goV s W i none=setW s W i:=rfl
@[simp]theorem zeT(s:St)(W:List (Nat×AV))(i d:Nat)(r:AV):goV s W i (some (d,r))=if i=d then r else setW s W i:=rfl
theorem zhv{s:St}{W:List (Nat×AV)}{dr:Option (Nat×AV)}(hd:∀d r,dr=some (d,r)→(setW s W d).zaa=false∧∀j,r.refs j=false)(i:Nat):goW s W dr i=goV s W i dr:=by
 cases dr with
 |none=>rfl
 |some p =>
  obtain⟨d,r⟩:=p
  obtain⟨h1,h2⟩:=hd d r rfl
  show put (setW s W) d r i=_
  rw[zam h1]
  by_cases hi:i=d
  ·simp[hi,h2]
  ·simp[hi]
theorem zmS{P:Program}{n:Nat}{ops:Array Oper}{ol ow:Oper}{s s1 s2:St}(hap1:∀d,ol.dst=some d→d∉ow.looksAt ops)(hap2:∀d,ow.dst=some d→d∉ol.looksAt ops)(hap3:∀d,ol.dst=some d→ow.dst≠some d)(hw:Wf s)
  (hl:zaF P n ops ol s s1)(hlt:zaW s ol.op)(hi:zmj P n ow s1 s2):∃s1',zmj P n ow s s1'∧zaF P n ops ol s1' s2∧zaW s1' ol.op:=by
 obtain⟨d,r,hd,hdn,hno,rfl,hv⟩:=hl
 obtain⟨W,dr,hwr,hdr,hdn',rfl⟩:=hi
 have hag:∀x∈ow.op.operands,zaA s (put s d r) x:=fun x hx=>zbj hw hno (za8 ow d (hap1 d hd) x hx)
 have hp:∀i,i≠d→put s d r i=s i:=fun i hi=>by rw[zam hno,if_neg hi]
 have hwr':=(zki hag).1 hwr
 obtain⟨hW',_⟩:=zk3 hwr'
 have hWd:∀i v,(i,v)∈W→i≠d:=by
  rintro i v hiv rfl
  have:=(hW' i v hiv).2
  rw[hno] at this;cases this
 have hW:∀i v,(i,v)∈W→(put s d r i).zaa=true:=by
  intro i v hiv
  rw[hp i (hWd i v hiv)];exact(hW' i v hiv).2
 have hdr':∀d' r',dr=some (d',r')→ow.dst=some d'∧(s d').zaa=false∧r'.zaa=false∧∀j,r'.refs j=false:=by
  intro d' r' h
  obtain⟨h1,h2,h3,h4⟩:=hdr d' r' h
  have hne:d'≠d:=fun e=>hap3 d hd (by rw[h1,e])
  rw[hp d' hne] at h2
  exact⟨h1,h2,h3,h4⟩
 have hsd:∀(t:St) (d':Nat),(t d').zaa=false→(∀i v,(i,v)∈W→(t i).zaa=true)→setW t W d'=t d':=by
  intro t d' h1 h2
  exact zcv (fun v hv=>by have:=h2 d' v hv;rw[h1] at this;cases this)
 have hg1:∀d' r',dr=some (d',r')→(setW s W d').zaa=false∧∀j,r'.refs j=false:=fun d' r' h=>by
  obtain⟨_,h2,_,h4⟩:=hdr' d' r' h
  exact⟨by rw[hsd s d' h2 (fun i v hv=>(hW' i v hv).2)];exact h2,h4⟩
 have hg2:∀d' r',dr=some (d',r')→(setW (put s d r) W d').zaa=false∧∀j,r'.refs j=false:=fun d' r' h=>by
  obtain⟨_,h2,_,h4⟩:=hdr d' r' h
  exact⟨by rw[hsd _ d' h2 (fun i v hv=>hW i v hv)];exact h2,h4⟩
 have hsd0:setW s W d=s d:=hsd s d hno (fun i v hv=>(hW' i v hv).2)
 have hs1d:(goW s W dr d)=s d:=by
  rw[zhv hg1]
  cases dr with
  |none=>exact hsd0
  |some p =>
   obtain⟨d',r'⟩:=p
   have hne:d≠d':=fun e=>hap3 d hd (by rw[e];exact(hdr' d' r' rfl).1)
   simp only[zeT,if_neg hne];exact hsd0
 have hno':(goW s W dr d).zaa=false:=by rw[hs1d];exact hno
 have hsh:∀i,(∀d',ow.dst=some d'→i≠d')→Sh (s i) (goW s W dr i):=by
  intro i hid
  rw[zhv hg1]
  cases dr with
  |none=>exact ze8 hW' i
  |some p =>
   obtain⟨d',r'⟩:=p
   simp only[zeT,if_neg (hid d' (hdr' d' r' rfl).1)]
   exact ze8 hW' i
 have hags:∀x∈ol.op.operands,zcl s (goW s W dr) x:=by
  intro x hx
  cases x with
  |tmp t =>
   refine⟨hsh t (fun d' hd' e=>?_),fun b hb=>hsh b (fun d' hd' e=>?_)⟩
   ·subst e;exact za8 ol t (hap2 t hd') _ hx rfl
   ·subst e
    obtain⟨h1,h2,_⟩:ow.dst=some b∧(s b).zaa=false∧True:=by
     cases hdd:dr with
     |none=>rw[hdn' hdd] at hd';cases hd'
     |some p =>
      obtain⟨d',r'⟩:=p
      obtain⟨k1,k2,_⟩:=hdr' d' r' hdd
      rw[hd'] at k1
      injection k1 with k1
      subst k1
      exact⟨hd',k2,trivial⟩
    have:=hw t b hb
    rw[h2] at this;cases this
  |_=>trivial
 refine⟨goW s W dr,⟨W,dr,hwr',hdr',hdn',rfl⟩,⟨d,r,hd,hdn,hno',?_,?_⟩,zeg hlt hags⟩
 ·funext i
  rw[zhv hg2,zam hno',zhv hg1]
  by_cases hi:i=d
  ·subst hi
   have e1:setW (put s i r) W i=put s i r i:=zcv (fun v hv=>hWd i v hv rfl)
   cases dr with
   |none=>simp[e1,zam hno]
   |some p =>
    obtain⟨d',r'⟩:=p
    have hne:i≠d':=fun e=>hap3 i hd (by rw[e];exact(hdr' d' r' rfl).1)
    simp[hne,e1,zam hno]
  ·have e1:setW (put s d r) W i=setW s W i:=by
    by_cases hW2:∃v,(i,v)∈W
    ·obtain⟨v,hv⟩:=hW2;exact zqm _ _ hv
    ·have hnn:∀v,(i,v)∉W:=fun v hv=>hW2 ⟨v,hv⟩
     rw[zcv hnn,zcv hnn,hp i hi]
   cases dr with
   |none=>simp only[zoF,if_neg hi,e1]
   |some p =>
    obtain⟨d',r'⟩:=p
    simp only[zeT,if_neg hi,e1]
 ·cases hg:ol.guard with
  |none=>rw[hg] at hv;exact zs8 hlt hags hv
  |some g =>
   rw[hg] at hv
   obtain⟨e,he,hv⟩:=hv
   refine⟨e,?_,zqC hlt hags hv⟩
   rw[←he]
   refine zrg he (fun d' hd' ho=>?_)
   rw[zhv hg1]
   have hnn:∀v,(d',v)∉W:=fun v hv=>by have:=(hW' d' v hv).2;rw[ho] at this;cases this
   cases hdd:dr with
   |none=>exact zcv hnn
   |some p =>
    obtain⟨d2,r2⟩:=p
    have hne:d'≠d2:=zfK ol d2 g (hap2 d2 (hdr' d2 r2 hdd).1) hg d' hd'
    simp only[zeT,if_neg hne]
    exact zcv hnn
theorem Sh.symm{a b:AV}(h:Sh a b):Sh b a:=by
 rcases h with rfl | ⟨_,_,rfl,rfl⟩ | ⟨_,_,_,_,rfl,rfl,h⟩ | ⟨_,_,_,rfl,rfl⟩
 ·exact .inl rfl
 ·exact .inr (.inl ⟨_,_,rfl,rfl⟩)
 ·exact .inr (.inr (.inl ⟨_,_,_,_,rfl,rfl,h.symm⟩))
 ·exact .inr (.inr (.inr ⟨_,_,_,rfl,rfl⟩))
theorem zcl.symm{s s':St}{x:Operand}(h:zcl s s' x):zcl s' s x:=by
 cases x with
 |tmp t=>exact⟨h.1.symm,fun b hb=>(h.2 b (by rw[←h.1.refs b];exact hb)).symm⟩
 |_=>trivial
theorem zmL{P:Program}{n:Nat}{ops:Array Oper}{ol ow:Oper}{s s1 s2:St}(hap1:∀d,ol.dst=some d→d∉ow.looksAt ops)(hap2:∀d,ow.dst=some d→d∉ol.looksAt ops)(hap3:∀d,ol.dst=some d→ow.dst≠some d)(hw:Wf s)
  (hi:zmj P n ow s s1)(hl:zaF P n ops ol s1 s2)(hlt:zaW s1 ol.op):∃s1',zaF P n ops ol s s1'∧zaW s ol.op∧zmj P n ow s1' s2:=by
 obtain⟨W,dr,hwr,hdr,hdn',rfl⟩:=hi
 obtain⟨hW,_⟩:=zk3 hwr
 obtain⟨d,r,hd,hdn,hno1,rfl,hv⟩:=hl
 have hsd:∀(t:St) (d':Nat),(t d').zaa=false→(∀i v,(i,v)∈W→(t i).zaa=true)→setW t W d'=t d':=by
  intro t d' h1 h2
  exact zcv (fun v hv=>by have:=h2 d' v hv;rw[h1] at this;cases this)
 have hg1:∀d' r',dr=some (d',r')→(setW s W d').zaa=false∧∀j,r'.refs j=false:=fun d' r' h=>by
  obtain⟨_,h2,_,h4⟩:=hdr d' r' h
  exact⟨by rw[hsd s d' h2 (fun i v hv=>(hW i v hv).2)];exact h2,h4⟩
 have hne:∀d' r',dr=some (d',r')→d≠d':=fun d' r' h e=>hap3 d hd (by rw[e];exact(hdr d' r' h).1)
 have hg0:goW s W dr d=setW s W d:=by
  rw[zhv hg1]
  cases hdd:dr with
  |none=>rfl
  |some p=>obtain⟨d',r'⟩:=p;simp only[zeT,if_neg (hne d' r' hdd)]
 have hno:(s d).zaa=false:=by
  have:=(ze8 (s:=s) hW d).owner
  rw[←hg0,hno1] at this
  exact this.symm
 have hWd:∀i v,(i,v)∈W→i≠d:=by
  rintro i v hiv rfl
  have:=(hW i v hiv).2
  rw[hno] at this;cases this
 have hsh:∀i,(∀d',ow.dst=some d'→i≠d')→Sh (s i) (goW s W dr i):=by
  intro i hid
  rw[zhv hg1]
  cases hdd:dr with
  |none=>exact ze8 hW i
  |some p =>
   obtain⟨d',r'⟩:=p
   simp only[zeT,if_neg (hid d' (hdr d' r' hdd).1)]
   exact ze8 hW i
 have hags:∀x∈ol.op.operands,zcl s (goW s W dr) x:=by
  intro x hx
  cases x with
  |tmp t =>
   refine⟨hsh t (fun d' hd' e=>?_),fun b hb=>hsh b (fun d' hd' e=>?_)⟩
   ·subst e;exact za8 ol t (hap2 t hd') _ hx rfl
   ·subst e
    have h2:(s b).zaa=false:=by
     cases hdd:dr with
     |none=>rw[hdn' hdd] at hd';cases hd'
     |some p =>
      obtain⟨d',r'⟩:=p
      obtain⟨k1,k2,_⟩:=hdr d' r' hdd
      rw[hd'] at k1
      injection k1 with k1
      subst k1
      exact k2
    have:=hw t b hb
    rw[h2] at this;cases this
  |_=>trivial
 have hp:∀i,i≠d→put s d r i=s i:=fun i hi=>by rw[zam hno,if_neg hi]
 have hag:∀x∈ow.op.operands,zaA s (put s d r) x:=fun x hx=>zbj hw hno (za8 ow d (hap1 d hd) x hx)
 have hlt':=zeg hlt (fun x hx=>(hags x hx).symm)
 have hdr2:∀d' r',dr=some (d',r')→ow.dst=some d'∧(put s d r d').zaa=false∧r'.zaa=false∧∀j,r'.refs j=false:=by
  intro d' r' h
  obtain⟨h1,h2,h3,h4⟩:=hdr d' r' h
  rw[←hp d' (Ne.symm (hne d' r' h))] at h2
  exact⟨h1,h2,h3,h4⟩
 have hg2:∀d' r',dr=some (d',r')→(setW (put s d r) W d').zaa=false∧∀j,r'.refs j=false:=fun d' r' h=>by
  obtain⟨_,h2,_,h4⟩:=hdr2 d' r' h
  refine⟨?_,h4⟩
  rw[hsd _ d' h2 (fun i v hv=>by rw[hp i (hWd i v hv)];exact(hW i v hv).2)]
  exact h2
 refine⟨put s d r,⟨d,r,hd,hdn,hno,rfl,?_⟩,hlt',⟨W,dr,(zki hag).2 hwr,hdr2,hdn',?_⟩⟩
 ·cases hg:ol.guard with
  |none=>rw[hg] at hv;exact zs8 hlt (fun x hx=>(hags x hx).symm) hv
  |some g =>
   rw[hg] at hv
   obtain⟨e,he,hv⟩:=hv
   refine⟨e,?_,zqC hlt (fun x hx=>(hags x hx).symm) hv⟩
   rw[←he]
   refine zrg he (fun d' hd' ho=>?_)
   rw[zhv hg1] at ho ⊢
   cases hdd:dr with
   |none =>
    rw[hdd] at ho
    have hnn:∀v,(d',v)∉W:=fun v hv=>by
     have:=(ze8 (s:=s) hW d').owner
     rw[(hW d' v hv).2] at this
     simp only[zoF] at ho
     rw[ho] at this;cases this
    exact(zcv hnn).symm
   |some p =>
    obtain⟨d2,r2⟩:=p
    have hne2:d'≠d2:=zfK ol d2 g (hap2 d2 (hdr d2 r2 hdd).1) hg d' hd'
    rw[hdd] at ho
    simp only[zeT,if_neg hne2] at ho ⊢
    have hnn:∀v,(d',v)∉W:=fun v hv=>by
     have:=(ze8 (s:=s) hW d').owner
     rw[(hW d' v hv).2,ho] at this;cases this
    exact(zcv hnn).symm
 ·funext i
  rw[zhv hg2,zam hno1,zhv hg1]
  by_cases hi:i=d
  ·subst hi
   have e1:setW (put s i r) W i=put s i r i:=zcv (fun v hv=>hWd i v hv rfl)
   cases hdd:dr with
   |none=>simp[e1,zam hno]
   |some p =>
    obtain⟨d',r'⟩:=p
    simp[hne d' r' hdd,e1,zam hno]
  ·have e1:setW (put s d r) W i=setW s W i:=by
    by_cases hW2:∃v,(i,v)∈W
    ·obtain⟨v,hv⟩:=hW2;exact zqm _ _ hv
    ·have hnn:∀v,(i,v)∉W:=fun v hv=>hW2 ⟨v,hv⟩
     rw[zcv hnn,zcv hnn,hp i hi]
   cases hdd:dr with
   |none=>simp only[zoF,if_neg hi,e1]
   |some p =>
    obtain⟨d',r'⟩:=p
    simp only[zeT,if_neg hi,e1]
theorem zqD{s:St}{op:Op}(h:zd2 op=true):zaW s op:=by
 cases op<;>first | exact h | (simp[zd2] at h)
theorem zo8{P:Program}{s:St}{t:TypeId}{addr x:Prop×AV}{p:Prop}{i:Nat}{v:AV}(h:zi2 P s t addr x=some (p,i,v))(hp:p):(zcs P s t addr x).1∧(zcs P s t addr x).2=setW s [(i,v)]:=by
 have hset:∀i v,(fun j=>if j=i then v else s j)=setW s [(i,v)]:=by
  intro i v
  funext j
  unfold setW
  by_cases hj:j=i
  ·subst hj;simp
  ·have:(i==j)=false:=by simpa using fun e=>hj e.symm
   simp[hj,this]
 unfold zi2 at h
 unfold zcs
 split at h
 ·rename_i e
  split at h
  ·rename_i hs
   simp only[Option.some.injEq,Prod.mk.injEq] at h
   obtain⟨rfl,rfl,rfl⟩:=h
   simp only[e,hs,hp.2];exact⟨hp.1,hset _ _⟩
  ·rename_i hs
   simp only[Option.some.injEq,Prod.mk.injEq] at h
   obtain⟨rfl,rfl,rfl⟩:=h
   simp only[e,hs,hp.2];exact⟨hp.1,hset _ _⟩
  ·cases h
 ·rename_i e
  split at h
  ·rename_i hs
   simp only[Option.some.injEq,Prod.mk.injEq] at h
   obtain⟨rfl,rfl,rfl⟩:=h
   simp only[e,hs];exact⟨hp,hset _ _⟩
  ·cases h
 ·cases h
theorem zeS:∀(l:List (AV×Option Nat)) (outs:List AV) (s:St),zcA l outs=true→(slotsOf l).Nodup→zaI s l outs=setW s (pairs l outs)
 |[],outs,s,_,_=>by
  cases outs<;>(funext i;rfl)
 |(x,none)::l,[],s,h,_=>by simp[zcA] at h
 |(x,some k)::l,[],s,h,_=>by simp[zcA] at h
 |(x,none)::l,o::outs,s,h,hn=>by
  simp only[zaI,pairs]
  exact zeS l outs s (by simpa[zcA] using h) (by simpa[slotsOf] using hn)
 |(x,some k)::l,o::outs,s,h,hn=>by
  cases o with
  |box cs =>
   simp only[zaI,pairs]
   simp only[slotsOf,List.filterMap_cons] at hn
   have hni:=(List.nodup_cons.1 hn).1
   rw[zeS l outs _ (by simpa[zcA] using h) (List.nodup_cons.1 hn).2]
   funext i
   unfold setW
   simp only[List.find?_cons]
   by_cases hik:k=i
   ·subst hik
    simp only[beq_self_eq_true]
    have:(pairs l outs).find? (fun p=>p.1==k)=none:=by
     rw[List.find?_eq_none]
     rintro⟨j,v⟩ hj
     simp only[beq_iff_eq]
     rintro rfl
     obtain⟨m,y,h1,_⟩:=zdk hj
     exact hni (zdR h1)
    rw[this]
    simp[zht]
   ·have:(k==i)=false:=by simpa using hik
    simp only[this]
    cases (pairs l outs).find? (fun p=>p.1==i) with
    |some p=>rfl
    |none=>simp[zht,Ne.symm hik]
  |_=>simp[zcA] at h
section
variable {P:Program}{S0:Env}{w0 w:World}{n:Nat}{s:St}{a:Act}
theorem zAt(hR:Rel S0 w0 n s a w)(o:Oper)(hdm:∀d,o.dst=some d→S0.m≤d){s':St}(h:zmj P n o s s'){K':Act→World→Prop}{Q:Exit→Act→World→Prop}
  (hK:∀a' w',Rel S0 w0 n s' a' w'→K' a' w'):o.wp P a w K' Q:=by
 obtain⟨W,dr,hw,hdr,hdn,rfl⟩:=h
 unfold writes at hw
 obtain⟨hg,hw⟩:=hw
 split at hw
 ·rename_i t addr x hop
  obtain⟨hdst,rfl,ho,hl,p,i,v,hst,hp,rfl⟩:=hw
  obtain⟨h1,h2⟩:=zo8 hst hp
  refine zeX (P:=P) (K:=fun t=>t=setW s [(i,v)]) hR o hdm ?_ (fun s1 a' w' hR' hs'=>by subst hs';exact hK a' w' hR')
  rw[hop,hdst]
  have hnl:zbc s (sv s addr) (sv s x)=none:=by
   cases hlk:zbc s (sv s addr) (sv s x) with
   |none=>rfl
   |some y =>
    obtain⟨p',i',off,d⟩:=y
    obtain⟨_,_,_,e2,_⟩:=zc9 hlk
    simp[zaX,e2,zib] at hl
  simp only[zcH,hnl,hl,zas]
  exact⟨ho,h1,h2⟩
 ·rename_i c hop
  split at hw
  ·rename_i f hf
   obtain⟨d,ys,r,outs,hdst,hdn',hA,hbo,hro,rfl,rfl⟩:=hw
   have hnd:=(zhc hA).2.1
   refine zo2 (P:=P) (f:=f) (args:=c.args) (K:=fun t=>t=goW s (pairs ys outs) (some (d,r.av))) hR ?_ ⟨c.argTypes,by rw[hop];cases c;simp at hf;simp[hf]⟩ hdst (hdm d hdst) (fun s1 a' w' hR' hs'=>by subst hs';exact hK a' w' hR')
   refine zdT.2 ⟨ys,r,outs,hA,hdn',?_⟩
   show put (zaI s ys outs) d r.av=put (setW s (pairs ys outs)) d r.av
   rw[zeS ys outs s hbo hnd]
  ·exact hw.elim
 ·exact hw.elim
theorem zsI{o:Oper}{s':St}(hw:Wf s)(h:zmj P n o s s'):Wf s':=by
 obtain⟨W,dr,hwr,hdr,_,rfl⟩:=h
 obtain⟨hW,_⟩:=zk3 hwr
 have h1:Wf (setW s W):=by
  intro i j hij
  have hi:=ze8 (s:=s) hW i
  rw[hi.refs] at hij
  rw[(ze8 (s:=s) hW j).owner]
  exact hw i j hij
 cases dr with
 |none=>exact h1
 |some p =>
  obtain⟨d,r⟩:=p
  exact za3 h1 (fun j hj=>by rw[(hdr d r rfl).2.2.2 j] at hj;cases hj)
end
end Go.Ab
namespace Go.Ab
open Go Go.RowKit
variable [Amb]
def zfY:Op→Bool
 |.buildSlice _ _ _=>true
 |.makeMap _ _=>true
 |.makeSlice _ _ _=>true
 |.call c=>match c.callee with
  |.builtin .append=>true
  |_=>false
 |_=>false
def zbN(ops:Array Oper)(op:Op):Bool:=
 match op with
 |.store _ _ _=>false
 |.makeMap _ _=>false
 |.mapUpdate _ _ _ _=>false
 |.assign (.tmp t)=>!(ops.toList.any fun o=>o.dst==some t&&zfY o.op)
 |.call c=>match c.callee with
  |.builtin .append=>false
  |_=>true
 |_=>true
def zdo(P:Program)(n:Nat)(ops:Array Oper)(o:Oper)(s:St)(K:St→Prop):Prop:=
 match o.dst with
 |none=>False
 |some d=>d<n∧(s d).zaa=false ∧
  match o.guard with
  |none=>match o.op with
   |.alloc t=>match zeroOf P t with
    |some cs=>K (put s d (.box cs))
    |none=>False
   |.box _ x=>match sv s x with
    |(p,.x xv)=>p∧K (put s d (.box xv.cells))
    |_=>False
   |.buildSlice t len parts=>(zaB P (sv s) t len parts.toList).1∧K (put s d (zaB P (sv s) t len parts.toList).2)
   |.convert src dst x=>match za6 P dst with
    |true=>(zez P src dst (sv s x)).1∧K (put s d (zez P src dst (sv s x)).2)
    |false=>(zaj P s (.convert src dst x)).1∧K (put s d (zaj P s (.convert src dst x)).2)
   |.call c=>match c.callee with
    |.value f=>∃rv:RV,zh5 P s f c.args.toList rv∧(rv.flat || (zaX s c.args.toList).isEmpty)=true∧K (put s d rv.av)
    |_=>(zaj P s (.call c)).1∧K (put s d (zaj P s (.call c)).2)
   |op=>(zaj P s op).1∧K (put s d (zaj P s op).2)
  |some g=>match zcG ops s g with
   |some e=>match o.op with
    |.call c=>match c.callee with
     |.value f=>zjT P e (callee s f c.args.toList) (fun rv=>K (put s d (.cond e rv.av)))
     |_=>(e=true→(zaj P s (.call c)).1)∧(zaj P s (.call c)).2.zaa=false∧K (put s d (.cond e (zaj P s (.call c)).2))
    |.buildSlice t len parts=>match e with
     |true=>(zaB P (sv s) t len parts.toList).1∧K (put s d (zaB P (sv s) t len parts.toList).2)
     |false=>K (put s d (.cond false (.x (.one (.bool false)))))
    |op=>(e=true→(zaj P s op).1)∧(zaj P s op).2.zaa=false∧K (put s d (.cond e (zaj P s op).2))
   |none=>False
theorem zfn{P:Program}{n:Nat}{ops:Array Oper}{o:Oper}{s:St}{K:St→Prop}(h:zdo P n ops o s K):∃s',zaF P n ops o s s'∧K s':=by
 unfold zdo at h
 cases hd:o.dst with
 |none=>rw[hd] at h;exact h.elim
 |some d =>
  rw[hd] at h
  obtain⟨hn,ho,h⟩:=h
  unfold zaF
  cases hg:o.guard with
  |none =>
   rw[hg] at h
   simp only at h ⊢
   cases hop:o.op with
   |alloc t =>
    rw[hop] at h
    simp only at h
    cases hz:zeroOf P t with
    |none=>rw[hz] at h;exact h.elim
    |some cs=>rw[hz] at h;exact⟨_,⟨d,_,hd,hn,ho,rfl,by simp only[zb8,hz]⟩,h⟩
   |box t x =>
    rw[hop] at h
    simp only at h
    split at h
    ·rename_i p xv e
     exact⟨_,⟨d,_,hd,hn,ho,rfl,by simp only[zb8,e];first | exact⟨h.1,rfl⟩ | exact⟨h.1,trivial⟩⟩,h.2⟩
    ·exact h.elim
   |buildSlice t len parts=>rw[hop] at h;exact⟨_,⟨d,_,hd,hn,ho,rfl,h.1,rfl⟩,h.2⟩
   |convert src dst x =>
    rw[hop] at h
    simp only at h
    cases hsl:za6 P dst with
    |true=>rw[hsl] at h;exact⟨_,⟨d,_,hd,hn,ho,rfl,by simp only[zb8,hsl];first | exact⟨h.1,rfl⟩ | exact⟨h.1,trivial⟩⟩,h.2⟩
    |false=>rw[hsl] at h;exact⟨_,⟨d,_,hd,hn,ho,rfl,by simp only[zb8,hsl];first | exact⟨h.1,rfl⟩ | exact⟨h.1,trivial⟩⟩,h.2⟩
   |call c =>
    rw[hop] at h
    simp only at h
    cases hc:c.callee with
    |value f =>
     rw[hc] at h
     obtain⟨rv,h1,h2,h3⟩:=h
     exact⟨_,⟨d,_,hd,hn,ho,rfl,by simp only[zb8,hc];exact⟨rv,h1,h2,rfl⟩⟩,h3⟩
    |_=>rw[hc] at h;exact⟨_,⟨d,_,hd,hn,ho,rfl,by simp only[zb8,hc];first | exact⟨h.1,rfl⟩ | exact⟨h.1,trivial⟩⟩,h.2⟩
   |_=>rw[hop] at h;exact⟨_,⟨d,_,hd,hn,ho,rfl,h.1,rfl⟩,h.2⟩
  |some g =>
   rw[hg] at h
   simp only at h ⊢
   cases he:zcG ops s g with
   |none=>rw[he] at h;exact h.elim
   |some e =>
    rw[he] at h
    simp only at h
    cases hop:o.op with
    |call c =>
     rw[hop] at h
     simp only at h
     cases hc:c.callee with
     |value f =>
      rw[hc] at h
      obtain⟨rv,h1,h3⟩:=zh9 h
      exact⟨_,⟨d,.cond e rv.av,hd,hn,ho,rfl,e,rfl,by simp only[zcY,hc];exact h1 _ rfl⟩,h3⟩
     |_=>rw[hc] at h;exact⟨_,⟨d,_,hd,hn,ho,rfl,e,rfl,by simp only[zcY,hc];first | exact⟨h.1,h.2.1,rfl⟩ | exact⟨h.1,h.2.1,trivial⟩⟩,h.2.2⟩
    |buildSlice t len parts =>
     rw[hop] at h
     cases e with
     |true=>exact⟨_,⟨d,_,hd,hn,ho,rfl,true,rfl,h.1,rfl⟩,h.2⟩
     |false=>exact⟨_,⟨d,_,hd,hn,ho,rfl,false,rfl,rfl⟩,h⟩
    |_=>rw[hop] at h;exact⟨_,⟨d,_,hd,hn,ho,rfl,e,rfl,h.1,h.2.1,rfl⟩,h.2.2⟩
def zd6(o:Oper):Bool:=match o.op with
 |.call c=>match c.callee with
  |.value _=>o.guard.isNone
  |_=>false
 |_=>false
def zdM(o:Oper):Bool:=match o.op with
 |.store _ _ _=>o.guard.isNone
 |_=>false
def zMo(P:Program)(n:Nat)(o:Oper)(s:St)(K:St→Prop):Prop:=
 match o.dst,o.op with
 |some d,.call c=>match c.callee with
  |.value f=>d<n∧(s d).zaa=false∧zkr P (callee s f c.args.toList) (fun rv=>(rv.flat || (zaX s c.args.toList).isEmpty)=true∧K (put s d rv.av)) (zfS P s (zaZ s f c.args.toList) (fun ys rv outs=>zcA ys outs=true∧rv.av.zaa=false∧K (put (zaI s ys outs) d rv.av)))
  |_=>False
 |_,_=>False
def zeh(s:St)(op:Op):Prop:=match op with
 |.store _ a x=>zaX s [x]=[]∧zoI s (sv s a).2=true
 |_=>True
def zc8(P:Program)(n:Nat)(m:Bool)(ops:Array Oper):List Oper→St→(St→Prop)→Prop
 |[],s,K=>K s
 |o::r,s,K=>match zbN ops o.op with
  |true=>match m&&zd6 o with
   |true=>zMo P n o s (fun s'=>zc8 P n m ops r s' K)
   |false=>(m=true→zaW s o.op)∧zdo P n ops o s (fun s'=>zc8 P n m ops r s' K)
  |false=>match zdM o with
   |true=>zeh s o.op∧aop P n ops o s (fun s'=>zc8 P n m ops r s' K)
   |false=>aop P n ops o s (fun s'=>zc8 P n m ops r s' K)
theorem zlR{P:Program}{src dst:TypeId}{x:Prop×AV}{j:Nat}:(zez P src dst x).2.refs j=false:=by
 unfold zez
 split<;>rfl
theorem zg5{P:Program}{s:St}(hw:Wf s){op:Op}{r:AV}(h:zb8 P s op r){j:Nat}(hr:r.refs j=true):(s j).zaa=true:=by
 cases op with
 |convert src dst x =>
  simp only[zb8] at h
  split at h
  ·obtain⟨_,rfl⟩:=h;rw[zlR] at hr;cases hr
  ·obtain⟨_,rfl⟩:=h;exact zbE hw _ hr
 |alloc t =>
  simp only[zb8] at h
  split at h
  ·subst h;cases hr
  ·exact h.elim
 |box t x =>
  simp only[zb8] at h
  split at h
  ·obtain⟨_,rfl⟩:=h;cases hr
  ·exact h.elim
 |buildSlice t len parts =>
  obtain⟨_,rfl⟩:=h
  simp only[zaB] at hr
  split at hr<;>cases hr
 |call c =>
  simp only[zb8] at h
  split at h
  ·obtain⟨rv,_,_,rfl⟩:=h
   cases rv<;>cases hr
  ·obtain⟨_,rfl⟩:=h;exact zbE hw _ hr
 |_=>obtain⟨_,rfl⟩:=h;exact zbE hw _ hr
theorem zlJ{P:Program}{s:St}(hw:Wf s){e:Bool}{op:Op}{r:AV}(h:zcY P s e op r){j:Nat}(hr:r.refs j=true):(s j).zaa=true:=by
 cases op with
 |call c =>
  simp only[zcY] at h
  split at h
  ·obtain⟨rv,_,_,rfl⟩:=zs9 h
   cases rv<;>cases hr
  ·obtain⟨_,_,rfl⟩:=h;exact zbE (P:=P) (op:=.call c) hw hr
 |buildSlice t len parts =>
  cases e with
  |true=>exact zg5 (op:=.buildSlice t len parts) hw h hr
  |false=>obtain rfl:=h;cases hr
 |_=>obtain⟨_,_,rfl⟩:=h;exact zbE hw _ hr
theorem zjQ{P:Program}{n:Nat}{ops:Array Oper}{o:Oper}{s s':St}(hw:Wf s)(h:zaF P n ops o s s'):Wf s':=by
 obtain⟨d,r,_,_,_,rfl,hv⟩:=h
 refine za3 hw (fun j hj=>?_)
 cases hg:o.guard with
 |none=>rw[hg] at hv;exact zg5 hw hv hj
 |some g=>rw[hg] at hv;obtain⟨e,_,hv⟩:=hv;exact zlJ hw hv hj
theorem zro{s:St}(hw:Wf s)(i:Nat):Wf (freeze s i):=by
 intro j k hjk
 have hj':(s j).refs k=true:=by
  unfold freeze at hjk
  by_cases hj:j=i
  ·subst hj
   simp only[if_pos] at hjk
   rcases zgz (a:=s j) with (⟨e,size,xs,hs⟩ | ⟨cs,hs⟩) | hs
   ·rw[hs] at hjk;cases hjk
   ·rw[hs] at hjk;cases hjk
   ·rw[hs] at hjk;exact hjk
  ·simp only[if_neg hj] at hjk
   cases hr:(s j).refs i with
   |true=>rw[hr] at hjk;simp only[if_true] at hjk;rw[zcL] at hjk;cases hjk
   |false=>rw[hr] at hjk;exact hjk
 have hko:=hw j k hj'
 have hki:k≠i:=by
  rintro rfl
  unfold freeze at hjk
  by_cases hj:j=k
  ·subst hj;have:=zaP hj';rw[this] at hko;cases hko
  ·simp only[if_neg hj,hj',if_true,zcL] at hjk;cases hjk
 have:freeze s i k=s k:=by
  unfold freeze
  cases hr:(s k).refs i with
  |true=>rw[zaP hr] at hko;cases hko
  |false=>simp[hki]
 rw[this];exact hko
theorem zdv:∀(l:List Nat) {s:St},Wf s→Wf (zas s l)
 |[],_,h=>h
 |i::r,_,h=>zdv r (zro h i)
theorem zeQ{s:St}(hw:Wf s){i:Nat}{r:AV}(ho:(s i).zaa=true)(hr:r.zaa=true):Wf (fun j=>if j=i then r else s j):=by
 intro j k hjk
 have hj':(s j).refs k=true:=by
  by_cases hj:j=i
  ·subst hj
   simp only[if_pos] at hjk
   have:=zaP hjk
   rw[hr] at this;cases this
  ·simpa only[if_neg hj] using hjk
 have:=hw j k hj'
 by_cases hk:k=i
 ·simp only[if_pos hk];exact hr
 ·simp only[if_neg hk];exact this
theorem ziJ{s:St}(hw:Wf s)(i off m:Nat):Wf (unlink s i off m):=by
 intro j k hjk
 rcases zay s i off m j with e | e<;>rw[e] at hjk
 ·have:=hw j k hjk
  rw[zav this];exact this
 ·cases hjk
theorem zpX{P:Program}{s:St}(hw:Wf s){t:TypeId}{i off d:Nat}(h:(zar P s t i off d).1):Wf (zar P s t i off d).2:=by
 unfold zar at h ⊢
 split at h
 ·rename_i cs hk hs
  obtain⟨_,hd,hf⟩:=h
  have hso:(s i).zaa=true:=by rw[hs];rfl
  have hu:=ziJ hw i off 1
  have hown:∀k,(s k).zaa=true→(if k=i then AV.box (cs.set off .any) else if k=LK i off then AV.link i off d else unlink s i off 1 k).zaa=true:=by
   intro k hk
   by_cases h1:k=i
   ·simp only[if_pos h1];rfl
   ·have h2:k≠LK i off:=by rintro rfl;rw[zcS hf] at hk;cases hk
    simp only[if_neg h1,if_neg h2]
    rw[zav hk];exact hk
  intro j k hjk
  refine hown k ?_
  by_cases h1:j=i
  ·simp only[if_pos h1] at hjk;cases hjk
  ·by_cases h2:j=LK i off
   ·simp only[if_neg h1,if_pos h2,AV.refs,Bool.or_eq_true,beq_iff_eq] at hjk
    rcases hjk with rfl | rfl
    ·exact hso
    ·exact AV.zcD hd
   ·simp only[if_neg h1,if_neg h2] at hjk
    rcases zay s i off 1 j with e | e<;>rw[e] at hjk
    ·exact hw j k hjk
    ·cases hjk
 ·rename_i b cs hk hs
  obtain⟨_,hd,hf⟩:=h
  have hso:(s i).zaa=true:=by rw[hs];rfl
  have hu:=ziJ hw i off 1
  have hown:∀k,(s k).zaa=true→(if k=i then AV.gbox b (cs.set off .any) else if k=LK i off then AV.link i off d else unlink s i off 1 k).zaa=true:=by
   intro k hk
   by_cases h1:k=i
   ·simp only[if_pos h1];rfl
   ·have h2:k≠LK i off:=by rintro rfl;rw[zcS hf] at hk;cases hk
    simp only[if_neg h1,if_neg h2]
    rw[zav hk];exact hk
  intro j k hjk
  refine hown k ?_
  by_cases h1:j=i
  ·simp only[if_pos h1] at hjk;cases hjk
  ·by_cases h2:j=LK i off
   ·simp only[if_neg h1,if_pos h2,AV.refs,Bool.or_eq_true,beq_iff_eq] at hjk
    rcases hjk with rfl | rfl
    ·exact hso
    ·exact AV.zcD hd
   ·simp only[if_neg h1,if_neg h2] at hjk
    rcases zay s i off 1 j with e | e<;>rw[e] at hjk
    ·exact hw j k hjk
    ·cases hjk
 ·exact h.elim
theorem zxj{P:Program}{s:St}(hw:Wf s){t:TypeId}{x y:Prop×AV}:Wf (zcs P s t x y).2:=by
 unfold zcs
 split
 ·split
  ·rename_i hs
   dsimp only
   split
   ·exact zeQ hw (by rw[hs];rfl) rfl
   ·exact zeQ (ziJ hw _ _ _) (by rw[zav (by rw[hs];rfl),hs];rfl) rfl
  ·rename_i hs
   dsimp only
   split
   ·exact zeQ hw (by rw[hs];rfl) rfl
   ·exact zeQ (ziJ hw _ _ _) (by rw[zav (by rw[hs];rfl),hs];rfl) rfl
  ·exact hw
 ·split
  ·rename_i hs;exact zeQ hw (by rw[hs];rfl) rfl
  ·exact hw
 ·exact hw
theorem zjC{P:Program}{s:St}(hw:Wf s){t t':TypeId}{x y:Prop×AV}:Wf (zax P s t t' x y).2.1∧∀j,(zax P s t t' x y).2.2.refs j=false:=by
 unfold zax
 split
 ·unfold zd7
  split
  ·exact⟨za3 (v:=.dead) hw (fun j h=>(by cases h)),fun _=>rfl⟩
  ·exact⟨hw,fun _=>rfl⟩
  ·exact⟨hw,fun _=>rfl⟩
 unfold zdA
 split
 ·split
  ·exact⟨za3 (v:=.dead) hw (fun j h=>(by cases h)),fun _=>rfl⟩
  ·exact⟨hw,fun _=>rfl⟩
  ·split<;>exact⟨hw,fun _=>rfl⟩
  ·exact⟨hw,fun _=>rfl⟩
 ·exact⟨hw,fun _=>rfl⟩
theorem zyf{P:Program}{s:St}(hw:Wf s){t:TypeId}{x:Prop×AV}:Wf (zl7 P s t x).2:=by
 unfold zl7
 split
 ·split
  ·rename_i hs;exact zeQ hw (by rw[hs];rfl) rfl
  ·exact hw
 ·exact hw
theorem zo6{P:Program}{s:St}(hw:Wf s){t:TypeId}{m k x:Prop×AV}:Wf (zcd P s t m k x).2:=by
 unfold zcd
 split
 ·split
  ·rename_i hs
   split
   ·exact zeQ hw (by rw[hs];rfl) rfl
   ·exact hw
  ·rename_i hs
   split
   ·exact zeQ hw (by rw[hs];rfl) rfl
   ·exact hw
  ·exact hw
 ·exact hw
theorem zn6{P:Program}{s:St}(hw:Wf s){f:Operand}{args:List Operand}{ys:List (AV×Option Nat)}{r:RV}{outs:List AV}(hF:zlY P s (zaZ s f args) ys r outs):Wf (zaI s ys outs):=by
 obtain⟨hf,hnd,p,g,xs,h,hz⟩:=zhc hF
 obtain⟨hl,hfit⟩:=zbe hf
 refine(zdh ys outs s hw hnd (by simpa using hl) (fun j x i o h1 h2=>?_)).wf hw
 obtain⟨hs,ho⟩:=znL h hz x i (List.mem_of_getElem? h1)
 have hff:=hfit j x o (by rw[List.getElem?_map,h1];rfl) h2
 rw[hs]
 refine⟨zfX hff,ho,?_⟩
 cases x<;>cases o<;>first | rfl | (simp[zau] at hff)
theorem zrN{P:Program}{n:Nat}{s:St}{op:Op}{dst:Option Tmp}{K:St→Prop}(hw:Wf s)(h:zcH P n s op dst K) :
  ∃s',zcH P n s op dst (fun t=>t=s')∧K s'∧Wf s':=by
 have nr:∀j,AV.refs j .dead=true→(s j).zaa=true:=fun j h=>by cases h
 have plain:∀d,(zaj P s op).1∧d<n∧K (put s d (zaj P s op).2)→∃s',((zaj P s op).1∧d<n∧put s d (zaj P s op).2=s')∧K s'∧Wf s':=
  fun d h=>⟨_,⟨h.1,h.2.1,rfl⟩,h.2.2,za3 hw (fun j hj=>zbE hw _ hj)⟩
 cases dst with
 |none =>
  cases op<;>try (exact h.elim)
  case store t addr x =>
   simp only[zcH] at h ⊢
   split at h
   ·rename_i e
    exact⟨_,⟨h.1,h.2.1,h.2.2.1,rfl⟩,h.2.2.2,zpX hw h.2.2.1⟩
   ·rename_i e
    exact⟨_,⟨h.1,h.2.1,rfl⟩,h.2.2,zxj (zdv _ hw)⟩
  case mapUpdate t m k x =>
   simp only[zcH] at h ⊢
   obtain⟨x',_,h',has⟩:=zqc h
   exact⟨_,has _ ⟨h'.1,rfl⟩,h'.2,zo6 hw⟩
  case call c =>
   simp only[zcH] at h ⊢
   split at h
   ·split at h
    ·exact⟨_,⟨h.1,rfl⟩,h.2,zyf hw⟩
    ·exact h.elim
   ·exact h.elim
  case makeMap t r=>cases r<;>exact h.elim
  case assign x=>cases x<;>exact h.elim
  all_goals exact h.elim
 |some d =>
  cases op<;>try (exact plain d h)
  case alloc t =>
   simp only[zcH] at h ⊢
   cases hz:zeroOf P t with
   |none=>rw[hz] at h;exact h.elim
   |some cs=>rw[hz] at h;exact⟨_,⟨h.1,rfl⟩,h.2,za3 hw (fun j hj=>by cases hj)⟩
  case makeMap t r =>
   cases r with
   |none=>exact⟨_,⟨h.1,rfl⟩,h.2,za3 hw (fun j hj=>by cases hj)⟩
   |some r=>exact plain d h
  case makeSlice t l c =>
   refine⟨_,⟨h.1,h.2.1,rfl⟩,h.2.2,za3 hw (fun j hj=>?_)⟩
   rw[zuq] at hj
   cases hj
  case convert src dst x =>
   simp only[zcH] at h ⊢
   cases hsl:za6 P dst with
   |false=>rw[hsl] at h;exact plain d h
   |true=>rw[hsl] at h;exact⟨_,⟨h.1,h.2.1,rfl⟩,h.2.2,za3 hw (fun j hj=>by rw[zlR] at hj;cases hj)⟩
  case box t x =>
   simp only[zcH] at h ⊢
   split at h
   ·rename_i p i off e
    refine⟨_,⟨h.1,h.2.1,rfl⟩,h.2.2,za3 hw (fun j hj=>?_)⟩
    exact zes hw x (by rw[e];exact hj)
   split at h
   ·rename_i p i e
    obtain⟨e,hti⟩:=zke e
    refine⟨_,⟨h.1,h.2.1,h.2.2.1,h.2.2.2.1,rfl⟩,h.2.2.2.2,?_⟩
    have hio:(s i).zaa=true:=AV.zcD hti
    have hw1:Wf (put s d (.box [.any])):=za3 hw (fun j hj=>by cases hj)
    have hfr:=h.2.2.2.1
    have hko:∀j,(put s d (.box [.any]) j).zaa=true→j≠LK d 0:=by
     rintro j hj rfl
     have hLd:LK d 0≠d:=by unfold LK;omega
     rcases zbK (s:=s) (v:=.box [.any]) hLd with h' | ⟨_,_,h'⟩<;>rw[h'] at hj
     ·rw[zcS hfr] at hj;cases hj
     ·cases hj
    intro j m hjm
    unfold zml at hjm ⊢
    have ho:(put s d (.box [.any]) m).zaa=true:=by
     by_cases hjk:j=LK d 0
     ·rw[if_pos hjk] at hjm
      simp only[AV.refs,Bool.or_eq_true,beq_iff_eq] at hjm
      rcases hjm with rfl | rfl
      ·rw[zbb rfl];rfl
      ·rw[zbn h.2.2.1 hio];exact hio
     ·rw[if_neg hjk] at hjm
      exact hw1 j m hjm
    rw[if_neg (hko m ho)]
    exact ho
   split at h
   ·exact⟨_,⟨h.1,h.2.1,rfl⟩,h.2.2,za3 (zdv _ hw) (fun j hj=>by cases hj)⟩
   ·exact h.elim
  case build t parts =>
   refine⟨_,⟨h.1,h.2.1,rfl⟩,h.2.2,za3 (zdv _ hw) (fun j hj=>?_)⟩
   simp only[zev] at hj
   split at hj<;>cases hj
  case buildSlice t len parts =>
   refine⟨_,⟨h.1,h.2.1,rfl⟩,h.2.2,za3 (zdv _ hw) (fun j hj=>?_)⟩
   simp only[zaB] at hj
   split at hj<;>cases hj
  case assign x =>
   cases x with
   |tmp t =>
    simp only[zcH] at h ⊢
    cases hs:s t with
    |own e size xs =>
     rw[hs] at h
     exact⟨_,⟨h.1,rfl⟩,h.2,za3 (za3 hw nr) (fun j hj=>by cases hj)⟩
    |mp c bs es =>
     rw[hs] at h
     exact⟨_,⟨h.1,rfl⟩,h.2,za3 (za3 hw nr) (fun j hj=>by cases hj)⟩
    |view i lo len wh =>
     rw[hs] at h
     dsimp only at h ⊢
     have hvr:∀j,(AV.view i lo len wh).refs j=true→(s j).zaa=true:=fun j hj=>hw t j (by rw[hs];exact hj)
     cases hid:decide (i=d) with
     |false =>
      rw[hid] at h
      exact⟨_,⟨h.1,rfl⟩,h.2,za3 hw hvr⟩
     |true =>
      rw[hid] at h
      obtain⟨hd,h⟩:=h
      dsimp only
      unfold zfh at h ⊢
      split at h
      ·split at h
       ·exact⟨_,⟨hd,rfl⟩,h,za3 (za3 hw nr) (fun j hj=>by cases hj)⟩
       ·exact⟨_,⟨hd,rfl⟩,h,za3 (zro hw _) (fun j hj=>by cases hj)⟩
      ·exact h.elim
    |_ =>
     rw[hs] at h
     exact⟨_,⟨h.1,rfl⟩,h.2,za3 hw (fun j hj=>zlv hw _ hj)⟩
   |_=>exact plain d h
  case call c =>
   simp only[zcH] at h ⊢
   split at h
   ·rename_i f hf0
    have hM:(znn s (ziA s c.args.toList) fun s=>zfS P s (zaZ s f c.args.toList) (fun xs r outs=>d<n∧K (put (zaI s xs outs) d r.av)))→∃s',(znn s (ziA s c.args.toList) fun s=>zfS P s (zaZ s f c.args.toList) (fun xs r outs=>d<n∧put (zaI s xs outs) d r.av=s'))∧K s'∧Wf s':=by
     intro h
     have hw:=zdv (ziA s c.args.toList) hw
     unfold znn at h ⊢
     generalize zas s (ziA s c.args.toList)=s at hw h ⊢
     obtain⟨zs,r,outs,hF,hd,hk⟩:=zdT.1 h
     exact⟨_,zdT.2 ⟨zs,r,outs,hF,hd,rfl⟩,hk,za3 (zn6 hw hF) (fun j hj=>by cases r<;>cases hj)⟩
    replace hM:(zkw P (zgU s f c.args.toList) (fun r=>d<n∧K (put s d r.av)) (znn s (ziA s c.args.toList) fun s=>zfS P s (zaZ s f c.args.toList) (fun xs r outs=>d<n∧K (put (zaI s xs outs) d r.av))))→∃s',(zkw P (zgU s f c.args.toList) (fun r=>d<n∧put s d r.av=s') (znn s (ziA s c.args.toList) fun s=>zfS P s (zaZ s f c.args.toList) (fun xs r outs=>d<n∧put (zaI s xs outs) d r.av=s')))∧K s'∧Wf s':=by
     intro h
     unfold zkw at h ⊢
     split at h
     ·obtain⟨hp,⟨r,h1,hfl,h2,h3⟩ | h⟩:=h
      ·exact⟨_,⟨hp,.inl ⟨r,h1,hfl,h2,rfl⟩⟩,h3,za3 hw (fun j hj=>by cases r<;>cases hj)⟩
      ·obtain⟨s',h1,h2,h3⟩:=hM h
       exact⟨s',⟨hp,.inr h1⟩,h2,h3⟩
     ·exact hM h
    unfold zkr at h ⊢
    split at h
    ·obtain⟨hp,⟨r,h1,h2,h3⟩ | ⟨xs',r,h1,h4,h5,h2,h3⟩ | h⟩:=h
     ·have hac:Wf (zbA s c.args.toList r):=by
       unfold zbA
       cases r.flat with
       |true=>exact hw
       |false=>exact zdv _ hw
      exact⟨_,⟨hp,.inl ⟨r,h1,h2,rfl⟩⟩,h3,za3 hac (fun j hj=>by cases r<;>cases hj)⟩
     ·exact⟨_,⟨hp,.inr (.inl ⟨xs',r,h1,h4,h5,h2,rfl⟩)⟩,h3,za3 hw (fun j hj=>by cases r<;>cases hj)⟩
     ·obtain⟨s',h1,h2,h3⟩:=hM h
      exact⟨s',⟨hp,.inr (.inr h1)⟩,h2,h3⟩
    ·exact hM h
   ·split at h
    ·obtain⟨x',_,h',has⟩:=zlW h
     exact⟨_,has _ ⟨h'.1,h'.2.1,rfl⟩,h'.2.2,za3 (zjC hw).1 (fun j hj=>by rw[(zjC hw).2 j] at hj;cases hj)⟩
    ·exact h.elim
   ·exact plain d h
theorem zrl{P:Program}{n:Nat}{s:St}{e:Bool}{op:Op}{dst:Option Tmp}{K:St→Prop}(hw:Wf s)(h:zj8 P n s e op dst K) :
  ∃s',zj8 P n s e op dst (fun t=>t=s')∧K s'∧Wf s':=by
 cases dst with
 |none=>exact h.elim
 |some d =>
  cases op<;>try (exact⟨_,⟨h.1,h.2.1,h.2.2.1,rfl⟩,h.2.2.2,za3 hw (fun j hj=>zbE hw _ hj)⟩)
  case buildSlice t len parts =>
   cases e with
   |true=>exact⟨_,⟨h.1,h.2.1,rfl⟩,h.2.2,za3 hw (fun j hj=>zg5 (P:=P) (op:=.buildSlice t len parts) hw ⟨h.1,rfl⟩ hj)⟩
   |false=>exact⟨_,⟨h.1,rfl⟩,h.2,za3 hw (fun j hj=>by cases hj)⟩
  case call c =>
   simp only[zj8] at h ⊢
   split at h
   ·obtain⟨r,h1,h3,h4⟩:=zh9 h
    exact⟨_,h1 _ ⟨h3,rfl⟩,h4,za3 hw (fun j hj=>by cases r<;>cases hj)⟩
   ·exact⟨_,⟨h.1,h.2.1,h.2.2.1,rfl⟩,h.2.2.2,za3 hw (fun j hj=>zbE (P:=P) (op:=.call c) hw hj)⟩
theorem zrG{P:Program}{n:Nat}{s:St}{e:Bool}{op:Op}{dst:Option Tmp}{K:St→Prop}(hw:Wf s)(h:zp3 P n s e op dst K) :
  ∃s',zp3 P n s e op dst (fun t=>t=s')∧K s'∧Wf s':=by
 unfold zp3 at h ⊢
 split at h
 ·rename_i d c
  dsimp only at h ⊢
  split at h
  ·rename_i f hf
   cases e with
   |false=>exact⟨_,⟨h.1,rfl⟩,h.2,za3 hw (fun j hj=>by cases hj)⟩
   |true =>
    dsimp only at h ⊢
    obtain⟨zs,r,outs,hF,hd,ho,hk⟩:=zdT.1 h
    exact⟨_,zdT.2 ⟨zs,r,outs,hF,hd,ho,rfl⟩,hk,za3 (zn6 hw hF) (fun j hj=>by cases r<;>cases hj)⟩
  ·exact h.elim
 ·exact h.elim
theorem zgP{P:Program}{n:Nat}{ops:Array Oper}{o:Oper}{s:St}{K:St→Prop}(hw:Wf s)(h:aop P n ops o s K) :
  ∃s',aop P n ops o s (fun t=>t=s')∧K s'∧Wf s':=by
 unfold aop at h ⊢
 cases hg:o.guard with
 |none=>rw[hg] at h;exact zrN hw h
 |some g =>
  rw[hg] at h
  simp only at h ⊢
  cases he:zcG ops s g with
  |none=>rw[he] at h;exact h.elim
  |some e =>
   rw[he] at h
   simp only at h ⊢
   split at h
   ·exact zrG hw h
   ·exact zrl hw h
def stepD(P:Program)(n:Nat)(m:Bool)(ops:Array Oper)(i:Nat)(s s':St):Prop:=
 ∃o,ops[i]?=some o∧match zbN ops o.op with
  |true=>match m&&zd6 o with
   |true=>zaF P n ops o s s'∨zmj P n o s s'
   |false=>zaF P n ops o s s'∧(m=true→zaW s o.op)
  |false=>match zdM o with
   |true=>zmj P n o s s'
   |false=>aop P n ops o s (fun t=>t=s')
theorem zpk{P:Program}{n:Nat}{m:Bool}{ops:Array Oper}{i:Nat}{s s':St}(hw:Wf s)(h:stepD P n m ops i s s'):Wf s':=by
 obtain⟨o,_,h⟩:=h
 split at h
 ·split at h
  ·exact h.elim (zjQ hw) (zsI hw)
  ·exact zjQ hw h.1
 ·split at h
  ·exact zsI hw h
  ·obtain⟨s1,_,h2,h3⟩:=zgP hw h
   rw[←h2];exact h3
theorem zhF{o:Oper}(h:zdM o=true):∃t addr x,o.op=.store t addr x∧o.guard=none:=by
 unfold zdM at h
 split at h
 ·rename_i t addr x e
  exact⟨t,addr,x,e,by simpa using h⟩
 ·cases h
theorem zuR{o:Oper}(h:zd6 o=true):∃c f,o.op=.call c∧c.callee=.value f∧o.guard=none:=by
 unfold zd6 at h
 split at h
 ·rename_i c e
  split at h
  ·rename_i f hf;exact⟨c,f,e,hf,by simpa using h⟩
  ·cases h
 ·cases h
theorem zmB{P:Program}{n:Nat}{ops:Array Oper}{o:Oper}{s:St}{K:St→Prop}(hu:zdM o=true)(hl:zeh s o.op)(h:aop P n ops o s K):∃s',zmj P n o s s'∧K s':=by
 obtain⟨t,addr,x,hop,hg⟩:=zhF hu
 unfold aop at h
 rw[hg] at h
 rw[hop] at h hl
 have hl':zaX s [x]=[]:=hl.1
 cases hd:o.dst with
 |some d=>rw[hd] at h;exact h.1.elim
 |none =>
  rw[hd] at h
  have hnl:zbc s (sv s addr) (sv s x)=none:=by
   cases hlk:zbc s (sv s addr) (sv s x) with
   |none=>rfl
   |some y =>
    obtain⟨p',i',off,d⟩:=y
    obtain⟨_,_,_,e2,_⟩:=zc9 hlk
    simp[zaX,e2,zib] at hl'
  simp only[zcH,hnl,hl',zas] at h
  obtain⟨h1,h2,h3⟩:=h
  obtain⟨p,i,v,k1,k2,k3,_⟩:=zBX h2 hl.2
  refine⟨_,⟨[(i,v)],none,⟨hg,?_⟩,fun d r h=>(by cases h),fun _=>hd,rfl⟩,?_⟩
  ·rw[hop]
   exact⟨hd,rfl,h1,hl',p,i,v,k1,k2,rfl⟩
  ·rw[k3] at h3
   exact h3
theorem zyp{P:Program}{n:Nat}{ops:Array Oper}{o:Oper}{s:St}{K:St→Prop}(hc:zd6 o=true)(h:zMo P n o s K):∃s',(zaF P n ops o s s'∨zmj P n o s s')∧K s':=by
 obtain⟨c,f,hop,hf,hg⟩:=zuR hc
 unfold zMo at h
 rw[hop] at h
 cases hd:o.dst with
 |none=>rw[hd] at h;exact h.elim
 |some d =>
  rw[hd] at h
  simp only[hf] at h
  obtain⟨hdn,hno,h⟩:=h
  rcases zBa h with⟨r,h1,h2,h3⟩ | h
  ·refine⟨_,.inl ⟨d,r.av,hd,hdn,hno,rfl,?_⟩,h3⟩
   rw[hg,hop]
   simp only[zb8,hf]
   exact⟨r,h1,h2,rfl⟩
  ·obtain⟨ys,r,outs,hA,hbo,hro,hk⟩:=zdT.1 h
   have hnd:=(zhc hA).2.1
   ·refine⟨_,.inr ⟨pairs ys outs,some (d,r.av),⟨hg,?_⟩,fun d' r' h'=>?_,fun h'=>(by cases h'),rfl⟩,?_⟩
    ·rw[hop]
     simp only[hf]
     exact⟨d,ys,r,outs,hd,hdn,hA,hbo,hro,rfl,rfl⟩
    ·simp only[Option.some.injEq,Prod.mk.injEq] at h'
     obtain⟨rfl,rfl⟩:=h'
     exact⟨hd,hno,hro,fun j=>by cases r<;>rfl⟩
    ·show K (put (setW s (pairs ys outs)) d r.av)
     rw[←zeS ys outs s hbo hnd]
     exact hk
theorem zhu{P:Program}{n:Nat}{m:Bool}{ops:Array Oper}{K:St→Prop}:∀(l:List Oper) (k:Nat) (s:St),Wf s→(∀j,l[j]?=ops[k+j]?)→zc8 P n m ops l s K →
  ∃s',chain (stepD P n m ops) (List.range' k l.length) s s'∧K s'
 |[],_,s,_,_,h=>⟨s,rfl,h⟩
 |o::l,k,s,hw,hl,h=>by
  have h0:ops[k]?=some o:=by simpa using (hl 0).symm
  have hnext:∀j,l[j]?=ops[(k+1)+j]?:=fun j=>by have:=hl (j+1);simpa[Nat.add_assoc,Nat.add_comm 1 j] using this
  simp only[zc8] at h
  have:∃s1,stepD P n m ops k s s1∧zc8 P n m ops l s1 K:=by
   split at h
   ·rename_i hc
    split at h
    ·rename_i hm
     obtain⟨s1,h1,h2⟩:=zyp (ops:=ops) (by simp only[Bool.and_eq_true] at hm;exact hm.2) h
     exact⟨s1,⟨o,h0,by rw[hc];simp only[hm];exact h1⟩,h2⟩
    ·rename_i hm
     obtain⟨s1,h1,h2⟩:=zfn h.2
     exact⟨s1,⟨o,h0,by rw[hc];simp only[hm];exact⟨h1,h.1⟩⟩,h2⟩
   ·rename_i hc
    split at h
    ·rename_i hu
     obtain⟨s1,h1,h2⟩:=zmB hu h.1 h.2
     exact⟨s1,⟨o,h0,by rw[hc];simp only[hu];exact h1⟩,h2⟩
    ·rename_i hu
     obtain⟨s1,h1,h2,_⟩:=zgP hw h
     exact⟨s1,⟨o,h0,by rw[hc];simp only[hu];exact h1⟩,h2⟩
  obtain⟨s1,h1,h2⟩:=this
  obtain⟨s',h3,h4⟩:=zhu l (k+1) s1 (zpk hw h1) hnext h2
  exact⟨s',⟨s1,h1,h3⟩,h4⟩
def zzG(m:Bool)(ops:Array Oper)(oi oj:Oper):Bool:=
 (zbN ops oi.op&&zbN ops oj.op&&!(m&&zd6 oi&&zd6 oj)) || (zdM oi&&!zbN ops oi.op&&(m || zd2 oj.op)&&zbN ops oj.op&&!zd6 oj) || (zdM oj&&!zbN ops oj.op&&(m || zd2 oi.op)&&zbN ops oi.op&&!zd6 oi)
def zvI(m:Bool)(ops:Array Oper)(b:Array Nat)(i j:Nat):Bool:=
 (b.getD i 0).testBit j ||
 match ops[i]?,ops[j]? with
 |some oi,some oj=>zzG m ops oi oj&&oj.apart ops oi
 |_,_=>false
def zql(o:Oper):Bool:=match o.dst with
 |some d=>decide (d<MARK)
 |none=>true
theorem zfD{o:Oper}(h:zql o=true):∀d,o.dst=some d→d<MARK:=by
 intro d hd
 unfold zql at h
 rw[hd] at h
 exact of_decide_eq_true h
def zj7(m:Bool)(ops:Array Oper):Bool:=
 let b:=Region.before ops
 ops.toList.all zql&&(List.range ops.size).all fun i =>
  (match ops[i]? with
   |some o=>o.after.toList.all fun e=>!Region.binds .any e || decide (e.on<i)
   |none=>false) &&
  (List.range i).all fun j=>zvI m ops b i j
def zoy(ops:Array Oper):Bool:=ops.toList.any fun o=>match o.op with
 |.call c=>match c.callee with
  |.value (.tmp _)=>zd6 o
  |_=>false
 |.store _ _ _=>zdM o
 |_=>false
theorem zCv{m:Bool}{s:St}{op:Op}(h:m=true→zaW s op)(hl:(m || zd2 op)=true):zaW s op:=by
 cases m with
 |true=>exact h rfl
 |false=>exact zqD (by simpa using hl)
theorem zs4{P:Program}{n:Nat}{m:Bool}{ops:Array Oper}{i j:Nat}{oi oj:Oper}{s s1 s2:St}(lwi:∀d,oi.dst=some d→d<MARK)(lwj:∀d,oj.dst=some d→d<MARK)(hi:ops[i]?=some oi)(hj:ops[j]?=some oj)(hmix:zzG m ops oi oj=true)(hap:oj.apart ops oi=true)(hw:Wf s)
  (h1:stepD P n m ops j s s1)(h2:stepD P n m ops i s1 s2):∃s1',stepD P n m ops i s s1'∧stepD P n m ops j s1' s2:=by
 obtain⟨o1,ho1,h1⟩:=h1
 rw[hj] at ho1;injection ho1 with ho1;subst ho1
 obtain⟨o2,ho2,h2⟩:=h2
 rw[hi] at ho2;injection ho2 with ho2;subst ho2
 obtain⟨a1,a2,a3⟩:=Oper.apart_spec hap
 have b3:∀d,oi.dst=some d→oj.dst≠some d:=fun d h h'=>a2 d h' h
 unfold zzG at hmix
 rw[Bool.or_eq_true,Bool.or_eq_true] at hmix
 rcases hmix with (hmix | hmix) | hmix
 ·simp only[Bool.and_eq_true,Bool.not_eq_true'] at hmix
  obtain⟨⟨ci,cj⟩,hcc⟩:=hmix
  rw[cj] at h1
  rw[ci] at h2
  cases hmi:m&&zd6 oi with
  |false =>
   rw[hmi] at h2
   obtain⟨h2,l2⟩:=h2
   cases hmj:m&&zd6 oj with
   |false =>
    rw[hmj] at h1
    obtain⟨h1,l1⟩:=h1
    obtain⟨s1',k1,k2⟩:=zmQ lwj lwi hap hw h1 h2
    have ag:∀{t t':St} {o o':Oper} {x:Operand},Wf t→zaF P n ops o t t'→(∀d,o.dst=some d→d<MARK)→(∀d,o.dst=some d→d∉o'.looksAt ops)→x∈o'.op.operands→zcl t t' x:=by
     rintro t t' o o' x hwt ⟨d,r,hd,hdn,hno,rfl,_⟩ hml ha hx
     have:=zbj (r:=r) hwt hno (za8 o' d (ha d hd) x hx)
     cases x with
     |tmp u=>exact⟨.inl this.1,fun b hb=>.inl (this.2 b hb)⟩
     |_=>trivial
    refine⟨s1',⟨oi,hi,?_⟩,⟨oj,hj,?_⟩⟩
    ·rw[ci,hmi]
     exact⟨k1,fun hm=>zeg (l2 hm) (fun x hx=>(ag hw h1 lwj a1 hx).symm)⟩
    ·rw[cj,hmj]
     exact⟨k2,fun hm=>zeg (l1 hm) (fun x hx=>ag hw k1 lwi a3 hx)⟩
   |true =>
    have hm:m=true:=by rw[Bool.and_eq_true] at hmj;exact hmj.1
    rw[hmj] at h1
    rcases h1 with h1 | h1
    ·obtain⟨s1',k1,k2⟩:=zmQ lwj lwi hap hw h1 h2
     have hla:zaW s oi.op:=by
      obtain⟨d,r,hd,hdn,hno,rfl,_⟩:=h1
      refine zeg (l2 hm) (fun x hx=>?_)
      have:=zbj (r:=r) hw hno (za8 oi d (a1 d hd) x hx)
      refine zcl.symm ?_
      cases x with
      |tmp u=>exact⟨.inl this.1,fun b hb=>.inl (this.2 b hb)⟩
      |_=>trivial
     exact⟨s1',⟨oi,hi,by rw[ci,hmi];exact⟨k1,fun _=>hla⟩⟩,⟨oj,hj,by rw[cj,hmj];exact .inl k2⟩⟩
    ·obtain⟨s1',k1,k2,k3⟩:=zmL (ol:=oi) (ow:=oj) a3 a1 b3 hw h1 h2 (l2 hm)
     exact⟨s1',⟨oi,hi,by rw[ci,hmi];exact⟨k1,fun _=>k2⟩⟩,⟨oj,hj,by rw[cj,hmj];exact .inr k3⟩⟩
  |true =>
   have hm:m=true:=by rw[Bool.and_eq_true] at hmi;exact hmi.1
   have hmj:(m&&zd6 oj)=false:=by
    rw[hmi,Bool.true_and] at hcc
    rw[hcc,Bool.and_false]
   rw[hmi] at h2
   rw[hmj] at h1
   obtain⟨h1,l1⟩:=h1
   rcases h2 with h2 | h2
   ·obtain⟨s1',k1,k2⟩:=zmQ lwj lwi hap hw h1 h2
    have hla:zaW s1' oj.op:=by
     obtain⟨d,r,hd,hdn,hno,rfl,_⟩:=k1
     refine zeg (l1 hm) (fun x hx=>?_)
     have:=zbj (r:=r) hw hno (za8 oj d (a3 d hd) x hx)
     cases x with
     |tmp u=>exact⟨.inl this.1,fun b hb=>.inl (this.2 b hb)⟩
     |_=>trivial
    exact⟨s1',⟨oi,hi,by rw[ci,hmi];exact .inl k1⟩,⟨oj,hj,by rw[cj,hmj];exact⟨k2,fun _=>hla⟩⟩⟩
   ·obtain⟨s1',k1,k2,k3⟩:=zmS (ol:=oj) (ow:=oi) a1 a3 a2 hw h1 (l1 hm) h2
    exact⟨s1',⟨oi,hi,by rw[ci,hmi];exact .inr k1⟩,⟨oj,hj,by rw[cj,hmj];exact⟨k2,fun _=>k3⟩⟩⟩
 ·simp only[Bool.and_eq_true,Bool.not_eq_true'] at hmix
  obtain⟨⟨⟨⟨ui,ci⟩,lj⟩,cj⟩,hcb⟩:=hmix
  rw[cj] at h1
  rw[ci] at h2
  simp only[ui] at h2
  have hmj:(m&&zd6 oj)=false:=by rw[hcb,Bool.and_false]
  simp only[hmj] at h1
  obtain⟨s1',k1,k2,k3⟩:=zmS (ol:=oj) (ow:=oi) a1 a3 a2 hw h1.1 (zCv h1.2 lj) h2
  exact⟨s1',⟨oi,hi,by rw[ci];simp only[ui];exact k1⟩,⟨oj,hj,by rw[cj];simp only[hmj];exact⟨k2,fun _=>k3⟩⟩⟩
 ·simp only[Bool.and_eq_true,Bool.not_eq_true'] at hmix
  obtain⟨⟨⟨⟨uj,cj⟩,li⟩,ci⟩,hcb⟩:=hmix
  rw[cj] at h1
  rw[ci] at h2
  simp only[uj] at h1
  have hmi:(m&&zd6 oi)=false:=by rw[hcb,Bool.and_false]
  simp only[hmi] at h2
  obtain⟨s1',k1,k2,k3⟩:=zmL (ol:=oi) (ow:=oj) a3 a1 b3 hw h1 h2.1 (zCv h2.2 li)
  exact⟨s1',⟨oi,hi,by rw[ci];simp only[hmi];exact⟨k1,fun _=>k2⟩⟩,⟨oj,hj,by rw[cj];simp only[uj];exact k3⟩⟩
theorem znJ(ops:Array Oper)(acc:Array Nat)(k:Nat)(hacc:∀i j,(acc.getD i 0).testBit j=true→zmx ops i j){o:Oper}(ho:ops[k]?=some o) :
  ∀(l:List Edge) (s:Nat),(∀e∈l,e∈o.after)→(∀j,s.testBit j=true→zmx ops k j) →
   ∀j,(l.foldl (fun s e=>if Region.binds .any e then s ||| 2 ^ e.on ||| acc.getD e.on 0 else s) s).testBit j=true→zmx ops k j
 |[],s,_,hs,j,h=>hs j h
 |e::l,s,hl,hs,j,h=>by
  refine znJ ops acc k hacc ho l _ (fun x hx=>hl x (by simp[hx])) (fun j hj=>?_) j h
  dsimp only at hj
  split at hj
  ·rename_i hb
   rw[Nat.testBit_or,Nat.testBit_or,Bool.or_eq_true,Bool.or_eq_true] at hj
   rcases hj with (hj | hj) | hj
   ·exact hs j hj
   ·rw[Nat.testBit_two_pow] at hj
    obtain rfl:=of_decide_eq_true hj
    exact .edge ho (hl e (by simp)) hb
   ·exact .far ho (hl e (by simp)) hb (hacc _ _ hj)
  ·exact hs j hj
theorem zyd(acc:Array Nat)(v i:Nat):(acc.push v).getD i 0=if i=acc.size then v else acc.getD i 0:=by
 simp only[Array.getD_eq_getD_getElem?,Array.getElem?_push]
 split<;>simp
theorem zeF(ops:Array Oper)(i j:Nat)(h:((Region.before ops).getD i 0).testBit j=true):zmx ops i j:=by
 have key:∀(l:List Oper) (acc:Array Nat),(∀m,l[m]?=ops[acc.size+m]?)→(∀i j,(acc.getD i 0).testBit j=true→zmx ops i j) →
   ∀i j,((l.foldl (fun acc o=>acc.push (o.after.foldl (fun s e=>if Region.binds .any e then s ||| 2 ^ e.on ||| acc.getD e.on 0 else s) 0)) acc).getD i 0).testBit j=true→zmx ops i j:=by
  intro l
  induction l with
  |nil=>intro acc _ hacc i j h;exact hacc i j h
  |cons o l ih =>
   intro acc hl hacc i j h
   have h0:ops[acc.size]?=some o:=by simpa using (hl 0).symm
   refine ih _ (fun m=>by have:=hl (m+1);simpa[Nat.add_assoc,Nat.add_comm 1 m] using this) (fun i j hij=>?_) i j h
   rw[zyd] at hij
   split at hij
   ·rename_i hi
    subst hi
    rw[←Array.foldl_toList] at hij
    exact znJ ops acc acc.size hacc h0 o.after.toList 0 (fun e he=>by simpa using he) (fun j hj=>by simp at hj) j hij
   ·exact hacc i j hij
 unfold Region.before at h
 rw[←Array.foldl_toList] at h
 exact key ops.toList #[] (fun m=>by simp) (fun i j hij=>by simp at hij) i j h
end Go.Ab
