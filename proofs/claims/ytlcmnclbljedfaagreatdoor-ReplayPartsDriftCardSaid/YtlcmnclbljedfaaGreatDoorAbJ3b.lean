/- A part of the proof: lemmas and contracts of functions. -/
import Derived.Test.YtlcmnclbljedfaaGreatDoorAbJ3
set_option linter.all false
namespace Go.Ab
open Go Go.RowKit
variable [Amb]
def znx(o:Oper):Bool:=match o.op with
 |.call c=>match c.callee with
  |.builtin .append=>o.guard.isNone
  |_=>false
 |_=>false
def takes(s:St)(v:AV):Option Nat:=match zaE s v with
 |some (some i,_)=>some i
 |_=>none
def zc6(s:St):Option Nat→St
 |some i=>put s i .dead
 |none=>s
def AV.zpx:AV→Bool
 |.own _ _ _=>true
 |.gown _ _ _ _=>true
 |_=>false
theorem zg9{a:AV}(h:a.zpx=true):a.zaa=true:=by cases a<;>first | rfl | cases h
theorem ziw{s:St}{v:AV}{i:Nat}(h:takes s v=some i):(s i).zpx=true∧v.refs i=true:=by
 unfold takes at h
 split at h
 ·rename_i j q hs
  injection h with h
  subst h
  unfold zaE at hs
  split at hs
  ·simp at hs
  ·split at hs
   ·rename_i e z xs e1
    simp only[Option.some.injEq,Prod.mk.injEq] at hs
    obtain⟨rfl,_⟩:=hs
    exact⟨by rw[e1];rfl,by simp[AV.refs]⟩
   ·rename_i v e z xs e1
    simp only[Option.some.injEq,Prod.mk.injEq] at hs
    obtain⟨rfl,_⟩:=hs
    exact⟨by rw[e1];rfl,by simp[AV.refs]⟩
   ·cases hs
  ·split at hs
   ·rename_i e z xs e1
    simp only[Option.some.injEq,Prod.mk.injEq] at hs
    obtain⟨rfl,_⟩:=hs
    exact⟨by rw[e1];rfl,by simp[AV.refs]⟩
   ·cases hs
  ·cases hs
 ·cases h
section
variable {P:Program}{s s1:St}
theorem zcR{t t':TypeId}{x y:Prop×AV}(h:(zax P s t t' x y).1):(zax P s t t' x y).2.1=zc6 s (takes s x.2)∧∃e z xs,(zax P s t t' x y).2.2=.own e z xs:=by
 unfold zax at h ⊢
 unfold takes
 split at h
 ·rename_i l e0
  unfold zd7 at h ⊢
  split at h
  ·rename_i e1 e2;simp only[e1,e2];exact⟨rfl,_,_,_,rfl⟩
  ·rename_i e1 e2;simp only[e1,e2];exact⟨rfl,_,_,_,rfl⟩
  ·exact h.elim
 ·unfold zdA at h ⊢
  split at h
  ·rename_i e1
   split at h
   ·rename_i e2 e3 e4;simp only[e1,e2,e3,e4];exact⟨rfl,_,_,_,rfl⟩
   ·rename_i e2 e3 e4;simp only[e1,e2,e3,e4];exact⟨rfl,_,_,_,rfl⟩
   ·rename_i e2 e3 e4
    split at h
    ·rename_i e5;simp only[e1,e2,e3,e4,e5];exact⟨rfl,_,_,_,rfl⟩
    ·exact h.elim
   ·exact h.elim
  ·exact h.elim
theorem zd9{t t':TypeId}{x y:Prop×AV}(h1:zaE s1 x.2=zaE s x.2)(h2:∀size,zbO s1 size y.2=zbO s size y.2) :
  ((zax P s1 t t' x y).1↔(zax P s t t' x y).1)∧(zax P s1 t t' x y).2.2=(zax P s t t' x y).2.2:=by
 unfold zax
 cases strOf y.2 with
 |some l =>
  dsimp only
  unfold zd7
  rw[h1]
  split<;>exact⟨Iff.rfl,rfl⟩
 |none =>
  dsimp only
  unfold zdA
  split
  ·rw[h1,h2]
   split
   ·exact⟨Iff.rfl,rfl⟩
   ·exact⟨Iff.rfl,rfl⟩
   ·split<;>exact⟨Iff.rfl,rfl⟩
   ·exact⟨Iff.rfl,rfl⟩
  ·exact⟨Iff.rfl,rfl⟩
theorem zdB{v:AV}(h:∀b,v.refs b=true→s1 b=s b):zaE s1 v=zaE s v:=by
 unfold zaE
 split
 ·rfl
 ·simp only[h _ (beq_self_eq_true _)]
 ·simp only[h _ (beq_self_eq_true _)]
 ·rfl
def zbq(s:St):AV→Bool
 |.x _=>true
 |.elem _=>true
 |.ptr i _=>match s i with
  |.box _=>true
  |_=>false
 |.alias i=>match s i with
  |.mp _ _ _=>true
  |_=>false
 |.cond _ v=>zbq s v
 |_=>false
def AV.bx:AV→Bool
 |.box _=>true
 |.mp _ _ _=>true
 |_=>false
theorem zAC{a:AV}(h:a.bx=true):a.zaa=true:=by cases a<;>first | rfl | cases h
theorem zxW{a:AV}(h:a.bx=true):a.zpx=false:=by cases a<;>first | rfl | cases h
theorem zvP{a:AV}(h:a.bx=true)(j:Nat):a.refs j=false:=by cases a<;>first | rfl | cases h
def zDt:AV→Bool
 |.x (.one .any)=>false
 |_=>true
def zdC:Op→Option (List Operand)
 |.move x=>some [x]
 |.nilCheck x=>some [x]
 |.load _ x=>some [x]
 |.fieldAddr _ x _=>some [x]
 |.field _ x _=>some [x]
 |.extract x _=>some [x]
 |.unOp _ _ x=>some [x]
 |.convert _ _ x=>some [x]
 |.binOp _ _ x y _=>some [x,y]
 |.index _ x i=>some [x,i]
 |.pick c x y=>some [c,x,y]
 |.build _ ps=>some (ps.toList.map (·.2))
 |.buildSlice _ _ ps=>some (ps.toList.map (·.2))
 |.alloc _=>some []
 |.box _ x=>some [x]
 |.call c=>match c.callee with
  |.value f=>some (f::c.args.toList)
  |.builtin .len=>some c.args.toList
  |_=>none
 |_=>none
def zdq(s:St):List Operand→Bool
 |[]=>true
 |x::r=>zbq s (look s x)&&zdq s r
def zbZ(P:Program)(s:St)(op:Op):Prop:=
 (match zdC op with
  |some l=>zdq s l=true
  |none=>False) ∧
 match op with
 |.load t x=>zDt (zeD (tk P t) (zbp P t) (sv s x).1 (mem s (sv s x).2)).2=true
 |_=>True
theorem znX:∀{l:List Operand},zdq s l=true→∀x∈l,zbq s (look s x)=true
 |[],_,x,h=>by cases h
 |y::r,h,x,hx=>by
  simp only[zdq,Bool.and_eq_true] at h
  rcases List.mem_cons.1 hx with rfl | hx
  ·exact h.1
  ·exact znX h.2 x hx
theorem zqx{op:Op}{l:List Operand}(h:zdC op=some l):∀x∈op.operands,x∈l:=by
 intro x hx
 cases op<;>simp only[zdC] at h<;>first | (cases h;done) | (injection h with h;subst h;first | (simpa[Op.operands] using hx) | (simp[Op.operands] at hx)) | skip
 rename_i c
 obtain⟨callee,args,ts⟩:=c
 cases callee with
 |value f=>injection h with h;subst h;simpa[Op.operands,Call.operands] using hx
 |builtin b =>
  cases b<;>first | (cases h;done) | (injection h with h;subst h;simpa[Op.operands,Call.operands] using hx)
 |_=>cases h
theorem zgR{op:Op}(h:zbZ P s op):∀x∈op.operands,zbq s (look s x)=true:=by
 intro x hx
 obtain⟨h,_⟩:=h
 split at h
 ·rename_i l e
  exact znX h x (zqx e x hx)
 ·exact h.elim
theorem zg4:∀{v:AV} {b:Nat},zbq s v=true→v.refs b=true→(s b).bx=true
 |.ptr i off,b,h,hr=>by
  obtain rfl:i=b:=by simpa[AV.refs] using hr
  unfold zbq at h
  split at h
  ·rename_i cs e;rw[e];rfl
  ·cases h
 |.alias i,b,h,hr=>by
  obtain rfl:i=b:=by simpa[AV.refs] using hr
  unfold zbq at h
  split at h
  ·rename_i e;rw[e];rfl
  ·cases h
 |.cond e v,b,h,hr=>zg4 (v:=v) h hr
 |.x _,b,_,hr=>by cases hr
 |.elem _,b,_,hr=>by cases hr
theorem zjz{x:Operand}(hp:zbq s (look s x)=true)(hs:∀t,x=.tmp t→s1 t=s t)(hb:∀i,(s i).bx=true→s1 i=s i):zaA s s1 x:=by
 cases x with
 |tmp t =>
  refine⟨hs t rfl,fun b hbr=>?_⟩
  have hp':zbq s (look s (.tmp t))=true:=hp
  simp only[look] at hp'
  split at hp'
  ·rename_i cs e;rw[e] at hbr;cases hbr
  ·rename_i e;simp only[zbq,e] at hp';cases hp'
  ·rename_i e;rw[e] at hbr;cases hbr
  ·cases hp'
  ·cases hp'
  ·cases hp'
  ·exact hb b (zg4 hp' hbr)
 |_=>trivial
theorem zlT:∀{v:AV},(∀b,v.refs b=true→s1 b=s b)→zbq s1 v=zbq s v
 |.ptr i off,h=>by simp only[zbq,h i (by simp[AV.refs])]
 |.alias i,h=>by simp only[zbq,h i (by simp[AV.refs])]
 |.cond e v,h=>zlT (v:=v) h
 |.x _,_=>rfl
 |.elem _,_=>rfl
 |.dead,_=>rfl
 |.tup _,_=>rfl
 |.box _,_=>rfl
 |.eptr _ _ _,_=>rfl
 |.own _ _ _,_=>rfl
 |.mp _ _ _,_=>rfl
 |.view _ _ _ _,_=>rfl
 |.cloR _ _,_=>rfl
 |.link _ _ _,_=>rfl
 |.res _,_=>rfl
 |.ptr2 _ _,_=>rfl
 |.gbox _ _,_=>rfl
 |.gown _ _ _ _,_=>rfl
 |.gmap _ _ _ _,_=>rfl
theorem zuO{x:Operand}(h:zaA s s1 x){b:Nat}(hb:(look s x).refs b=true):s1 b=s b:=by
 cases x with
 |tmp t =>
  simp only[look] at hb
  split at hb
  ·obtain rfl:t=b:=by simpa[AV.refs] using hb
   exact h.1
  ·obtain rfl:t=b:=by simpa[AV.refs] using hb
   exact h.1
  ·obtain rfl:t=b:=by simpa[AV.refs] using hb
   exact h.1
  ·cases hb
  ·cases hb
  ·cases hb
  ·exact h.2 b hb
 |const v =>
  simp only[look,ze9] at hb
  split at hb
  ·split at hb<;>cases hb
  ·cases hb
  ·split at hb<;>cases hb
 |_=>cases hb
theorem zja:∀{l:List Operand},(∀x∈l,zaA s s1 x)→zdq s1 l=zdq s l
 |[],_=>rfl
 |x::r,h=>by
  have hx:=h x (by simp)
  simp only[zdq,zjB hx,zlT (fun b hb=>zuO hx hb),zja (l:=r) (fun y hy=>h y (by simp[hy]))]
theorem zqb{op:Op}{l:List Operand}(h:zdC op=some l):∀x∈l,x∈op.operands:=by
 intro x hx
 cases op<;>simp only[zdC] at h<;>first | (cases h;done) | (injection h with h;subst h;first | (simpa[Op.operands] using hx) | (simp[Op.operands] at hx)) | skip
 rename_i c
 obtain⟨callee,args,ts⟩:=c
 cases callee with
 |value f=>injection h with h;subst h;simpa[Op.operands,Call.operands] using hx
 |builtin b =>
  cases b<;>first | (cases h;done) | (injection h with h;subst h;simpa[Op.operands,Call.operands] using hx)
 |_=>cases h
theorem zcU{op:Op}(h:∀x∈op.operands,zaA s s1 x):zbZ P s1 op↔zbZ P s op:=by
 have h1:(match zdC op with | some l=>zdq s1 l=true | none=>False)↔(match zdC op with | some l=>zdq s l=true | none=>False):=by
  cases e:zdC op with
  |none=>exact Iff.rfl
  |some l =>
   dsimp only
   rw[zja (fun x hx=>h x (zqb e x hx))]
 unfold zbZ
 rw[h1]
 cases op with
 |load t x =>
  have hx:=h x (by simp[Op.operands])
  simp only[zak hx,mem_congr (fun b hb=>zaC hx hb)]
 |_=>exact Iff.rfl
theorem zjZ{op:Op}(h:zbZ P s op):zHO P s s1 op:=by
 cases op with
 |load t x =>
  obtain⟨_,h⟩:=h
  unfold zHO
  dsimp only at h ⊢
  generalize zeD (tk P t) (zbp P t) (sv s x).1 (mem s (sv s x).2)=v at h
  have key:∀(t:St) (r:AV),za0 t r v=v:=by
   intro t r
   rcases zex t r v with e | ⟨p,i,off,d,e,_⟩
   ·exact e
   ·rw[e] at h;cases h
  rw[key,key]
 |_=>trivial
def zjg(g:Nat):Op→Bool
 |.move (.tmp k)=>k==g
 |_=>false
def zem(g:Nat):List Bool→List Oper→Bool
 |f::fr,o::r=>(!f || (o.dst != some g&&!zjg g o.op))&&zem g fr r
 |_,_=>true
theorem zif{g:Nat}:∀{fl:List Bool} {l:List Oper} {i:Nat} {o:Oper},zem g fl l=true→fl[i]?=some true→l[i]?=some o→o.dst≠some g∧zjg g o.op=false
 |[],l,i,o,_,h,_=>by simp at h
 |f::fr,[],i,o,_,_,h=>by simp at h
 |f::fr,x::r,0,o,h,h1,h2=>by
  simp only[List.getElem?_cons_zero,Option.some.injEq] at h1 h2
  subst h1;subst h2
  simp only[zem,Bool.and_eq_true] at h
  have:=h.1
  simp only[Bool.not_true,Bool.false_or,Bool.and_eq_true,bne_iff_ne,ne_eq,Bool.not_eq_true'] at this
  exact this
 |f::fr,x::r,i+1,o,h,h1,h2=>by
  simp only[zem,Bool.and_eq_true] at h
  exact zif h.2 (by simpa using h1) (by simpa using h2)
theorem zmP{g:Nat}{fl:List Bool}{l:List Oper}{i:Nat}{o:Oper}(h:zem g fl l=true)(h1:fl[i]?=some true)(h2:l[i]?=some o):o.dst≠some g:=(zif h h1 h2).1
def zt2(s:St)(d:Nat)(fl:List Bool)(ops:Array Oper):Option Nat→Prop
 |some g=>(g=d∨(s d).zaa=false)∧zem g fl ops.toList=true
 |none=>(s d).zaa=false
def zOP(n:Nat)(s:St)(d:Nat)(fl:List Bool)(ops:Array Oper)(x:AV)(tk:Option Nat):Prop:=
 zt2 s d fl ops tk∨∃g,x=.alias g∧tk=some g∧n≤g∧(s g).isG=true∧(s d).zaa=false
theorem zhg{n dj:Nat}{s:St}{r:AV}{x x':Prop×AV}(hj:(s dj).zaa=false)(hd:dj<n):zNC n (put s dj r) x x'↔zNC n s x x':=by
 have e:∀g,n≤g→put s dj r g=s g:=fun g hg=>by rw[zam hj,if_neg (by omega)]
 unfold zNC
 constructor
 ·rintro (h | ⟨p,v,g,e1,z,xs,h1,h2,h3,h4⟩)
  ·exact .inl h
  ·exact .inr ⟨p,v,g,e1,z,xs,h1,h2,by rw[←e g h2];exact h3,h4⟩
 ·rintro (h | ⟨p,v,g,e1,z,xs,h1,h2,h3,h4⟩)
  ·exact .inl h
  ·exact .inr ⟨p,v,g,e1,z,xs,h1,h2,by rw[e g h2];exact h3,h4⟩
theorem zg6{n dj:Nat}{s:St}{r:AV}{x:Prop×AV}{k:Prop×AV→Prop}(hj:(s dj).zaa=false)(hd:dj<n):zp1 n (put s dj r) x k↔zp1 n s x k:=by
 have e:∀g,n≤g→put s dj r g=s g:=fun g hg=>by rw[zam hj,if_neg (by omega)]
 unfold zp1
 split
 ·constructor
  ·rintro⟨g,h1,⟨a,b,c,h2⟩,h3⟩;exact⟨g,h1,⟨a,b,c,by rw[←e g h1];exact h2⟩,h3⟩
  ·rintro⟨g,h1,⟨a,b,c,h2⟩,h3⟩;exact⟨g,h1,⟨a,b,c,by rw[e g h1];exact h2⟩,h3⟩
 ·exact Iff.rfl
def zdw(P:Program)(n:Nat)(fl:List Bool)(ops:Array Oper)(o:Oper)(s s':St):Prop:=
 ∃d x y t t' x',o.dst=some d∧d<n∧o.op=.call ⟨.builtin .append,⟨[x,y]⟩,⟨[t,t']⟩⟩∧o.guard=none∧zNC n s (sv s x) x'∧(∀k',k' x'→zp1 n s (sv s x) k')∧zOP n s d fl ops x'.2 (takes s x'.2) ∧
  (zax P s t t' x' (sv s y)).1∧s'=put (zax P s t t' x' (sv s y)).2.1 d (zax P s t t' x' (sv s y)).2.2
def zqJ(s:St)(tk:Option Nat)(k:Nat):AV:=match tk with
 |some g=>if k=g then .dead else if (s k).refs g=true then .dead else s k
 |none=>s k
theorem zsF{s:St}{d:Nat}{tk:Option Nat}{v:AV}(hv:∀j,v.refs j=false)(ho:∀g,tk=some g→(s g).zaa=true)(hd:tk=some d∨(s d).zaa=false)(k:Nat) :
  put (zc6 s tk) d v k=if k=d then v else zqJ s tk k:=by
 by_cases hk:k=d
 ·subst hk;rw[if_pos rfl];exact zbb (hv k)
 ·rw[if_neg hk]
  cases tk with
  |none =>
   have hnd:(s d).zaa=false:=by
    rcases hd with h | h
    ·cases h
    ·exact h
   show put s d v k=s k
   rw[zam hnd,if_neg hk]
  |some g =>
   have hog:=ho g rfl
   have hnd:(put s g .dead d).zaa=false:=by
    by_cases hg:d=g
    ·subst hg
     have:put s d .dead d=.dead:=zbb rfl
     rw[this];rfl
    ·rcases hd with h | h
     ·injection h with h;exact absurd h.symm hg
     ·rcases zbK (s:=s) (v:=.dead) hg with e | ⟨_,_,e⟩
      ·rw[e];exact h
      ·rw[e];rfl
   show put (put s g .dead) d v k=if k=g then .dead else if (s k).refs g=true then .dead else s k
   rw[zam hnd,if_neg hk]
   by_cases hg:k=g
   ·subst hg
    rw[if_pos rfl]
    exact zbb rfl
   ·rw[if_neg hg]
    cases hr:(s k).refs g with
    |true=>rw[zfg hg hog hr,if_pos rfl]
    |false=>rw[zio hg hr,if_neg (by simp)]
end
section
variable {P:Program}{n:Nat}{fl:List Bool}{ops:Array Oper}
theorem zte{s:St}{g:Nat}(hg:(s g).zpx=true):zbq s (look s (.tmp g))=false:=by
 simp only[look]
 cases h:s g<;>rw[h] at hg<;>first | (simp[AV.zpx] at hg;done) | rfl | (simp only[zbq,h])
theorem zlj{s:St}(hw:Wf s){op:Op}(hp:zbZ P s op){g:Nat}(hg:(s g).zpx=true){r:AV} :
  (zb8 P s op r→r.refs g=false)∧∀e,zcY P s e op r→r.refs g=false:=by
 have hgo:(s g).zaa=true:=zg9 hg
 have hw2:Wf (put s g .dead):=za3 hw (fun j h=>by cases h)
 have hag:∀x∈op.operands,zaA s (put s g .dead) x:=by
  intro x hx
  have hpx:=zgR hp x hx
  refine zjz hpx (fun t ht=>?_) (fun i hi=>?_)
  ·subst ht
   have htg:t≠g:=by rintro rfl;rw[zte hg] at hpx;cases hpx
   refine zio htg ?_
   cases hr:(s t).refs g with
   |false=>rfl
   |true =>
    exfalso
    simp only[look] at hpx
    split at hpx
    ·rename_i cs e;rw[e] at hr;cases hr
    ·rename_i e;simp only[zbq,e] at hpx;cases hpx
    ·rename_i e;rw[e] at hr;cases hr
    ·cases hpx
    ·cases hpx
    ·cases hpx
    ·rw[zxW (zg4 hpx hr)] at hg;cases hg
  ·have hig:i≠g:=by rintro rfl;rw[zxW hi] at hg;cases hg
   exact zio hig (zvP hi g)
 have hd:(put s g .dead g).zaa=false:=by rw[zbb rfl];rfl
 refine⟨fun h=>?_,fun e h=>?_⟩
 ·cases hr:r.refs g with
  |false=>rfl
  |true =>
   have:=zg5 hw2 ((zcC op r hag (zjZ hp)).2 h) hr
   rw[hd] at this;cases this
 ·cases hr:r.refs g with
  |false=>rfl
  |true =>
   have:=zlJ hw2 ((zcO op r hag (zjZ hp)).2 h) hr
   rw[hd] at this;cases this
theorem zyK{s:St}{t g:Nat}(hp:zbq s (look s (.tmp t))=true)(hg:(s g).zpx=true):t≠g∧(s t).refs g=false:=by
 refine⟨(by rintro rfl;rw[zte hg] at hp;cases hp),?_⟩
 cases hr:(s t).refs g with
 |false=>rfl
 |true =>
  exfalso
  simp only[look] at hp
  split at hp
  ·rename_i cs e;rw[e] at hr;cases hr
  ·rename_i e;simp only[zbq,e] at hp;cases hp
  ·rename_i e;rw[e] at hr;cases hr
  ·cases hp
  ·cases hp
  ·cases hp
  ·rw[zxW (zg4 hp hr)] at hg;cases hg
theorem zk6{s:St}{d dj:Nat}{tk:Option Nat}{v r:AV}(hv:∀j,v.refs j=false)(ho:∀g,tk=some g→(s g).zpx=true∧dj≠g∧r.refs g=false)(hd:tk=some d∨(s d).zaa=false)
  (hj:(s dj).zaa=false)(hne:dj≠d):(∀k,put (zc6 s tk) d v k=if k=d then v else zqJ s tk k)∧(put (zc6 s tk) d v dj).zaa=false∧put (zc6 (put s dj r) tk) d v=put (put (zc6 s tk) d v) dj r:=by
 have hos:∀g,tk=some g→(s g).zaa=true:=fun g hg=>zg9 (ho g hg).1
 have hat:=zsF hv hos hd
 have hpk:∀k,put s dj r k=if k=dj then (match r.refs dj with | true=>.dead | false=>r) else s k:=fun k=>zam hj k
 have hpd:put s dj r d=s d:=by rw[hpk,if_neg (Ne.symm hne)]
 have hat2:=zsF (s:=put s dj r) (d:=d) (tk:=tk) (v:=v) hv (fun g hg=>by rw[hpk,if_neg (Ne.symm (ho g hg).2.1)];exact hos g hg) (by rw[hpd];exact hd)
 have hdj:(put (zc6 s tk) d v dj).zaa=false:=by
  rw[hat,if_neg hne]
  cases tk with
  |none=>exact hj
  |some g =>
   show (if dj=g then AV.dead else if (s dj).refs g=true then .dead else s dj).zaa=false
   rw[if_neg (ho g rfl).2.1]
   split
   ·rfl
   ·exact hj
 refine⟨hat,hdj,?_⟩
 funext k
 rw[hat2,zam hdj]
 by_cases hkj:k=dj
 ·subst hkj
  rw[if_neg hne,if_pos rfl]
  have hr':put s k r k=(match r.refs k with | true=>.dead | false=>r):=by rw[hpk,if_pos rfl]
  cases tk with
  |none=>exact hr'
  |some g =>
   show (if k=g then AV.dead else if (put s k r k).refs g=true then .dead else put s k r k)=_
   rw[if_neg (ho g rfl).2.1,hr']
   have:AV.refs g (match r.refs k with | true=>AV.dead | false=>r)=false:=by
    cases r.refs k with
    |true=>rfl
    |false=>exact(ho g rfl).2.2
   rw[this,if_neg (by simp)]<;>cases r.refs k<;>rfl
 ·rw[if_neg hkj,hat]
  have hsk:put s dj r k=s k:=by rw[hpk,if_neg hkj]
  unfold zqJ
  rw[hsk]
theorem ztC{s:St}{P:Program}{t t':TypeId}{x y:Prop×AV}(hw:Wf s):∀j,(zax P s t t' x y).2.2.refs j=false:=(zjC hw).2
theorem ziv{oi oj:Oper}{j:Nat}{s s1 s2:St}(hw:Wf s)(hjo:ops[j]?=some oj)(hfl:fl[j]?=some true)
  (a1:∀d,oj.dst=some d→d∉oi.looksAt ops)(a2:∀d,oi.dst=some d→d∉oj.looksAt ops)(a3:∀d,oj.dst=some d→oi.dst≠some d)
  (hj:zaF P n ops oj s s1)(hp:zbZ P s oj.op)(hi:zdw P n fl ops oi s1 s2):∃s1',zdw P n fl ops oi s s1'∧zaF P n ops oj s1' s2∧zbZ P s1' oj.op:=by
 obtain⟨dj,r,hdj,hjn,hoj,rfl,hvj⟩:=hj
 obtain⟨d,x,y,t,t',x',hd,hdn,hop,hgd,hsr,has,hok,hc,rfl⟩:=hi
 have hne:dj≠d:=fun e=>a3 dj hdj (by rw[hd,e])
 have hag:∀z∈oi.op.operands,zaA s (put s dj r) z:=fun z hz=>zbj hw hoj (za8 oi dj (a1 dj hdj) z hz)
 have hx:=hag x (by rw[hop];simp[Op.operands,Call.operands])
 have hy:=hag y (by rw[hop];simp[Op.operands,Call.operands])
 rw[zak hy] at hc ⊢
 rw[zak hx] at hsr has
 have hsr':=(zhg hoj hjn).1 hsr
 have has':∀k',k' x'→zp1 n s (sv s x) k':=fun k' h=>(zg6 hoj hjn).1 (has k' h)
 have hxb:∀b,x'.2.refs b=true→put s dj r b=s b:=by
  intro b hb
  rcases hsr' with rfl | ⟨p,v,g,e,z,xs,_,hng,_,rfl⟩
  ·exact zaC hx hb
  ·obtain rfl:g=b:=by simpa[AV.refs] using hb
   have hjn':@LT.lt Nat _ dj n:=hjn
   have hne':g≠dj:=by omega
   rw[zam hoj,if_neg hne']
 have hsrc:zaE (put s dj r) x'.2=zaE s x'.2:=zdB hxb
 have hnew:∀size,zbO (put s dj r) size (sv s y).2=zbO s size (sv s y).2:=fun size=>zdH (fun b hb=>zaC hy hb)
 obtain⟨hcc,hcv⟩:=zd9 (P:=P) (t:=t) (t':=t') (x:=x') (y:=sv s y) hsrc hnew
 have htk:takes (put s dj r) x'.2=takes s x'.2:=by unfold takes;rw[hsrc]
 have hpd:put s dj r d=s d:=by rw[zam hoj,if_neg (Ne.symm hne)]
 have hst2:=(zcR hc).1
 have hc':=hcc.1 hc
 obtain⟨hst,e0,z0,xs0,hv0⟩:=zcR hc'
 rw[htk] at hst2 hok
 rw[hst2,hcv]
 generalize htke:takes s x'.2=tk at *
 have hval:(∀g,(s g).zpx=true→r.refs g=false):=by
  intro g hg
  have h:=zlj (P:=P) hw hp hg (r:=r)
  cases hgj:oj.guard with
  |none=>rw[hgj] at hvj;exact h.1 hvj
  |some gg=>rw[hgj] at hvj;obtain⟨e,_,hv⟩:=hvj;exact h.2 e hv
 have ho:∀g,tk=some g→(s g).zpx=true∧dj≠g∧r.refs g=false:=by
  intro g hg
  have hog:=(ziw (htke.trans hg)).1
  refine⟨hog,?_,hval g hog⟩
  rcases hok with hok | ⟨g',_,hg',hng,hG,_⟩
  ·rw[hg] at hok
   have:=zmP hok.2 hfl (by simpa using hjo)
   rintro rfl
   exact this hdj
  ·rw[hg] at hg';injection hg' with hg'
   have hjn':@LT.lt Nat _ dj n:=hjn
   subst hg'
   intro e'
   have e2:@Eq Nat dj g:=e'
   omega
 have hdd:tk=some d∨(s d).zaa=false:=by
  rcases hok with hok | ⟨g',_,hg',hng,hG,hod⟩
  ·cases tk with
   |none=>exact .inr (by rw[←hpd];exact hok)
   |some g =>
    rcases hok.1 with h | h
    ·exact .inl (by rw[h])
    ·exact .inr (by rw[←hpd];exact h)
  ·exact .inr (by rw[←hpd];exact hod)
 obtain⟨hat,hdjo,hswap⟩:=zk6 (r:=r) (ztC (P:=P) (t:=t) (t':=t') (x:=x') (y:=sv s y) hw) ho hdd hoj hne
 have hkeep:∀k,k≠d→(∀g,tk=some g→k≠g∧(s k).refs g=false)→put (zc6 s tk) d (zax P s t t' x' (sv s y)).2.2 k=s k:=by
  intro k hk h
  rw[hat,if_neg hk]
  cases tk with
  |none=>rfl
  |some g=>show (if k=g then AV.dead else if (s k).refs g=true then .dead else s k)=s k;rw[if_neg (h g rfl).1,(h g rfl).2];simp
 have hagj:∀z∈oj.op.operands,zaA s (put (zc6 s tk) d (zax P s t t' x' (sv s y)).2.2) z:=by
  intro z hz
  have hpz:=zgR hp z hz
  refine zjz hpz (fun t0 ht=>?_) (fun i hi=>?_)
  ·subst ht
   refine hkeep t0 ?_ (fun g hg=>zyK hpz (ho g hg).1)
   rintro rfl
   exact za8 oj t0 (a2 t0 hd) _ hz rfl
  ·refine hkeep i ?_ (fun g hg=>?_)
   ·rintro rfl
    rcases hdd with h | h
    ·have e:=(ho i h).1
     rw[zxW hi] at e;cases e
    ·rw[zAC hi] at h;cases h
   ·have e:=(ho g hg).1
    exact⟨(by rintro rfl;rw[zxW hi] at e;cases e),zvP hi g⟩
 refine⟨put (zc6 s tk) d (zax P s t t' x' (sv s y)).2.2,⟨d,x,y,t,t',x',hd,hdn,hop,hgd,hsr',has',?_,hc',by rw[hst]⟩,⟨dj,r,hdj,hjn,hdjo,hswap,?_⟩,(zcU hagj).2 hp⟩
 ·rw[htke]
  rcases hok with hok | ⟨g',hx',hg',hng,hG,hod⟩
  ·refine .inl ?_
   cases tk with
   |none=>show (s d).zaa=false;rw[←hpd];exact hok
   |some g=>refine⟨?_,hok.2⟩;rw[←hpd];exact hok.1
  ·have hjn':@LT.lt Nat _ dj n:=hjn
   have hne':¬@Eq Nat g' dj:=by omega
   exact .inr ⟨g',hx',hg',hng,by rw[zam hoj,if_neg hne'] at hG;exact hG,by rw[←hpd];exact hod⟩
 ·cases hgj:oj.guard with
  |none =>
   rw[hgj] at hvj
   exact(zcC oj.op r hagj (zjZ hp)).2 hvj
  |some gg =>
   rw[hgj] at hvj
   obtain⟨e,he,hv⟩:=hvj
   refine⟨e,?_,(zcO oj.op r hagj (zjZ hp)).2 hv⟩
   rw[←he]
   refine zeb (fun d' hd'=>?_)
   have hdd':=zfK oj d gg (a2 d hd) hgj d' hd'
   refine hkeep d' hdd' (fun g hg=>?_)
   have eg:=(ho g hg).1
   unfold zcG at he
   rw[hd'] at he
   simp only at he
   split at he
   ·rename_i b hs
    exact⟨(by rintro rfl;rw[hs] at eg;simp[AV.zpx] at eg),by rw[hs];rfl⟩
   ·rename_i e' b hs
    exact⟨(by rintro rfl;rw[hs] at eg;simp[AV.zpx] at eg),by rw[hs];rfl⟩
   ·cases he
theorem zix{oi oj:Oper}{j:Nat}{s s1 s2:St}(hw:Wf s)(hjo:ops[j]?=some oj)(hfl:fl[j]?=some true)
  (a1:∀d,oj.dst=some d→d∉oi.looksAt ops)(a2:∀d,oi.dst=some d→d∉oj.looksAt ops)(a3:∀d,oj.dst=some d→oi.dst≠some d)
  (hi:zdw P n fl ops oi s s1)(hj:zaF P n ops oj s1 s2)(hp:zbZ P s1 oj.op):∃s1',zaF P n ops oj s s1'∧zbZ P s oj.op∧zdw P n fl ops oi s1' s2:=by
 obtain⟨d,x,y,t,t',x',hd,hdn,hop,hgd,hsr,has,hok,hc,rfl⟩:=hi
 obtain⟨dj,r,hdj,hjn,hoj1,rfl,hvj⟩:=hj
 have hne:dj≠d:=fun e=>a3 dj hdj (by rw[hd,e])
 obtain⟨hst,e0,z0,xs0,hv0⟩:=zcR hc
 generalize htke:takes s x'.2=tk at hst hok
 have ho1:∀g,tk=some g→(s g).zpx=true∧dj≠g:=by
  intro g hg
  refine⟨(ziw (htke.trans hg)).1,?_⟩
  rcases hok with hok | ⟨g',_,hg',hng,hG,_⟩
  ·rw[hg] at hok
   have:=zmP hok.2 hfl (by simpa using hjo)
   rintro rfl
   exact this hdj
  ·rw[hg] at hg';injection hg' with hg'
   have hjn':@LT.lt Nat _ dj n:=hjn
   subst hg'
   intro e'
   have e2:@Eq Nat dj g:=e'
   omega
 have hdd:tk=some d∨(s d).zaa=false:=by
  rcases hok with hok | ⟨g',_,hg',hng,hG,hod⟩
  ·cases tk with
   |none=>exact .inr hok
   |some g =>
    rcases hok.1 with h | h
    ·exact .inl (by rw[h])
    ·exact .inr h
  ·exact .inr hod
 have hvr:=ztC (P:=P) (t:=t) (t':=t') (x:=x') (y:=sv s y) hw
 have hos:∀g,tk=some g→(s g).zaa=true:=fun g hg=>zg9 (ho1 g hg).1
 have hat:=zsF hvr hos hdd
 rw[hst] at hp hoj1 hvj ⊢
 have hback:∀k,k≠d→put (zc6 s tk) d (zax P s t t' x' (sv s y)).2.2 k=.dead∨put (zc6 s tk) d (zax P s t t' x' (sv s y)).2.2 k=s k:=by
  intro k hk
  rw[hat,if_neg hk]
  cases tk with
  |none=>exact .inr rfl
  |some g =>
   show (if k=g then AV.dead else if (s k).refs g=true then .dead else s k)=.dead∨(if k=g then AV.dead else if (s k).refs g=true then .dead else s k)=s k
   split
   ·exact .inl rfl
   ·split
    ·exact .inl rfl
    ·exact .inr rfl
 have hagj:∀z∈oj.op.operands,zaA (put (zc6 s tk) d (zax P s t t' x' (sv s y)).2.2) s z:=by
  intro z hz
  have hpz:=zgR hp z hz
  refine zjz hpz (fun t0 ht=>?_) (fun i hi=>?_)
  ·subst ht
   rcases hback t0 (by rintro rfl;exact za8 oj t0 (a2 t0 hd) _ hz rfl) with e | e
   ·simp only[look,e] at hpz;cases hpz
   ·exact e.symm
  ·rcases hback i (by rintro rfl;rw[hat,if_pos rfl,hv0] at hi;cases hi) with e | e
   ·rw[e] at hi;cases hi
   ·exact e.symm
 have hp':=(zcU hagj).2 hp
 have hdjo:(s dj).zaa=false:=by
  cases h:(s dj).zaa with
  |false=>rfl
  |true =>
   exfalso
   rw[hat,if_neg hne] at hoj1
   cases tk with
   |none=>rw[show zqJ s none dj=s dj from rfl,h] at hoj1;cases hoj1
   |some g =>
    have:(if dj=g then AV.dead else if (s dj).refs g=true then .dead else s dj).zaa=false:=hoj1
    rw[if_neg (ho1 g rfl).2] at this
    split at this
    ·rename_i hr;rw[zaP hr] at h;cases h
    ·rw[h] at this;cases this
 have hgv:∀gg,oj.guard=some gg→∀e,zcG ops (put (zc6 s tk) d (zax P s t t' x' (sv s y)).2.2) gg=some e→zcG ops s gg=some e:=by
  intro gg hgj e he
  rw[←he]
  refine zeb (fun d' hd'=>?_)
  rcases hback d' (zfK oj d gg (a2 d hd) hgj d' hd') with e1 | e1
  ·unfold zcG at he
   rw[hd'] at he
   simp only[e1] at he
   cases he
  ·exact e1.symm
 have hcalm:match oj.guard with
   |none=>zb8 P s oj.op r
   |some g=>∃e,zcG ops s g=some e∧zcY P s e oj.op r:=by
  cases hgj:oj.guard with
  |none=>rw[hgj] at hvj;exact(zcC oj.op r hagj (zjZ hp)).2 hvj
  |some gg =>
   rw[hgj] at hvj
   obtain⟨e,he,hv⟩:=hvj
   exact⟨e,hgv gg hgj e he,(zcO oj.op r hagj (zjZ hp)).2 hv⟩
 have hval:(∀g,(s g).zpx=true→r.refs g=false):=by
  intro g hg
  have h:=zlj (P:=P) hw hp' hg (r:=r)
  cases hgj:oj.guard with
  |none=>rw[hgj] at hcalm;exact h.1 hcalm
  |some gg=>rw[hgj] at hcalm;obtain⟨e,_,hv⟩:=hcalm;exact h.2 e hv
 have ho:∀g,tk=some g→(s g).zpx=true∧dj≠g∧r.refs g=false:=fun g hg=>⟨(ho1 g hg).1,(ho1 g hg).2,hval g (ho1 g hg).1⟩
 obtain⟨_,_,hswap⟩:=zk6 (r:=r) hvr ho hdd hdjo hne
 have hag:∀z∈oi.op.operands,zaA s (put s dj r) z:=fun z hz=>zbj hw hdjo (za8 oi dj (a1 dj hdj) z hz)
 have hx:=hag x (by rw[hop];simp[Op.operands,Call.operands])
 have hy:=hag y (by rw[hop];simp[Op.operands,Call.operands])
 have hxb:∀b,x'.2.refs b=true→put s dj r b=s b:=by
  intro b hb
  rcases hsr with rfl | ⟨p,v,g,e,z,xs,_,hng,_,rfl⟩
  ·exact zaC hx hb
  ·obtain rfl:g=b:=by simpa[AV.refs] using hb
   have hjn':@LT.lt Nat _ dj n:=hjn
   have hne':g≠dj:=by omega
   rw[zam hdjo,if_neg hne']
 have hsrc:zaE (put s dj r) x'.2=zaE s x'.2:=zdB hxb
 have hnew:∀size,zbO (put s dj r) size (sv s y).2=zbO s size (sv s y).2:=fun size=>zdH (fun b hb=>zaC hy hb)
 obtain⟨hcc,hcv⟩:=zd9 (P:=P) (t:=t) (t':=t') (x:=x') (y:=sv s y) hsrc hnew
 have htk:takes (put s dj r) x'.2=tk:=by unfold takes;rw[hsrc];exact htke
 have hpd:put s dj r d=s d:=by rw[zam hdjo,if_neg (Ne.symm hne)]
 have hc2:=hcc.2 hc
 refine⟨put s dj r,⟨dj,r,hdj,hjn,hdjo,rfl,hcalm⟩,hp',⟨d,x,y,t,t',x',hd,hdn,hop,hgd,?_,?_,?_,?_,?_⟩⟩
 ·rw[zak hx];exact(zhg hdjo hjn).2 hsr
 ·intro k' h;rw[zak hx];exact(zg6 hdjo hjn).2 (has k' h)
 ·rw[htk]
  rcases hok with hok | ⟨g',hx',hg',hng,hG,hod⟩
  ·refine .inl ?_
   cases tk with
   |none=>show (put s dj r d).zaa=false;rw[hpd];exact hok
   |some g=>refine⟨?_,hok.2⟩;rw[hpd];exact hok.1
  ·have hjn':@LT.lt Nat _ dj n:=hjn
   have hne':¬@Eq Nat g' dj:=by omega
   exact .inr ⟨g',hx',hg',hng,by rw[zam hdjo,if_neg hne'];exact hG,by rw[hpd];exact hod⟩
 ·rw[zak hy];exact hc2
 ·rw[zak hy,(zcR hc2).1,htk,hcv];exact hswap.symm
theorem znH{s:St}{k e z:Nat}{xs:List (List CV)}(h:s k=.own e z xs):sv s (.tmp k)=(True,.alias k):=by
 unfold sv
 simp only[look,h]
 rfl
def zjn(s:St)(o:Oper):Prop:=∃k e z xs,o.op=.move (.tmp k)∧o.guard=none∧s k=.own e z xs
theorem zHn{oi oj:Oper}{j:Nat}{s s1 s2:St}(hw:Wf s)(hjo:ops[j]?=some oj)(hfl:fl[j]?=some true)
  (a1:∀d,oj.dst=some d→d∉oi.looksAt ops)(a2:∀d,oi.dst=some d→d∉oj.looksAt ops)(a3:∀d,oj.dst=some d→oi.dst≠some d)
  (hj:zaF P n ops oj s s1)(hp:zjn s oj)(hi:zdw P n fl ops oi s1 s2):∃s1',zdw P n fl ops oi s s1'∧zaF P n ops oj s1' s2∧zjn s1' oj:=by
 obtain⟨dj,r,hdj,hjn,hoj,rfl,hvj⟩:=hj
 obtain⟨km,e1,z1,xs1,hmv,hgj,hkm⟩:=hp
 have hr:r=.alias km:=by
  rw[hgj,hmv] at hvj
  have:r=(sv s (.tmp km)).2:=hvj.2
  rw[this,znH hkm]
 obtain⟨d,x,y,t,t',x',hd,hdn,hop,hgd,hsr,has,hok,hc,rfl⟩:=hi
 have hne:dj≠d:=fun e=>a3 dj hdj (by rw[hd,e])
 have hag:∀z∈oi.op.operands,zaA s (put s dj r) z:=fun z hz=>zbj hw hoj (za8 oi dj (a1 dj hdj) z hz)
 have hx:=hag x (by rw[hop];simp[Op.operands,Call.operands])
 have hy:=hag y (by rw[hop];simp[Op.operands,Call.operands])
 rw[zak hy] at hc ⊢
 rw[zak hx] at hsr has
 have hsr':=(zhg hoj hjn).1 hsr
 have has':∀k',k' x'→zp1 n s (sv s x) k':=fun k' h=>(zg6 hoj hjn).1 (has k' h)
 have hxb:∀b,x'.2.refs b=true→put s dj r b=s b:=by
  intro b hb
  rcases hsr' with rfl | ⟨p,v,g,e,z,xs,_,hng,_,rfl⟩
  ·exact zaC hx hb
  ·obtain rfl:g=b:=by simpa[AV.refs] using hb
   have hjn':@LT.lt Nat _ dj n:=hjn
   have hne':g≠dj:=by omega
   rw[zam hoj,if_neg hne']
 have hsrc:zaE (put s dj r) x'.2=zaE s x'.2:=zdB hxb
 have hnew:∀size,zbO (put s dj r) size (sv s y).2=zbO s size (sv s y).2:=fun size=>zdH (fun b hb=>zaC hy hb)
 obtain⟨hcc,hcv⟩:=zd9 (P:=P) (t:=t) (t':=t') (x:=x') (y:=sv s y) hsrc hnew
 have htk:takes (put s dj r) x'.2=takes s x'.2:=by unfold takes;rw[hsrc]
 have hpd:put s dj r d=s d:=by rw[zam hoj,if_neg (Ne.symm hne)]
 have hst2:=(zcR hc).1
 have hc':=hcc.1 hc
 obtain⟨hst,e0,z0,xs0,hv0⟩:=zcR hc'
 rw[htk] at hst2 hok
 rw[hst2,hcv]
 generalize htke:takes s x'.2=tk at *
 have ho:∀g,tk=some g→(s g).zpx=true∧dj≠g∧r.refs g=false:=by
  intro g hg
  have hog:=(ziw (htke.trans hg)).1
  refine⟨hog,?_⟩
  rcases hok with hok | ⟨g',_,hg',hng,hG,_⟩
  ·rw[hg] at hok
   obtain⟨h1,h2⟩:=zif hok.2 hfl (by simpa using hjo)
   refine⟨?_,?_⟩
   ·rintro rfl
    exact h1 hdj
   ·rw[hr];rw[hmv] at h2;exact h2
  ·rw[hg] at hg';injection hg' with hg'
   have hjn':@LT.lt Nat _ dj n:=hjn
   subst hg'
   refine⟨fun e'=>?_,?_⟩
   ·have e2:@Eq Nat dj g:=e'
    omega
   ·rw[hr]
    have hne':¬@Eq Nat g dj:=by omega
    rw[zam hoj,if_neg hne'] at hG
    show (km==g)=false
    rw[beq_eq_false_iff_ne]
    rintro rfl
    rw[hkm] at hG;cases hG
 have hdd:tk=some d∨(s d).zaa=false:=by
  rcases hok with hok | ⟨g',_,hg',hng,hG,hod⟩
  ·cases tk with
   |none=>exact .inr (by rw[←hpd];exact hok)
   |some g =>
    rcases hok.1 with h | h
    ·exact .inl (by rw[h])
    ·exact .inr (by rw[←hpd];exact h)
  ·exact .inr (by rw[←hpd];exact hod)
 obtain⟨hat,hdjo,hswap⟩:=zk6 (r:=r) (ztC (P:=P) (t:=t) (t':=t') (x:=x') (y:=sv s y) hw) ho hdd hoj hne
 have hkeep:∀k,k≠d→(∀g,tk=some g→k≠g∧(s k).refs g=false)→put (zc6 s tk) d (zax P s t t' x' (sv s y)).2.2 k=s k:=by
  intro k hk h
  rw[hat,if_neg hk]
  cases tk with
  |none=>rfl
  |some g=>show (if k=g then AV.dead else if (s k).refs g=true then .dead else s k)=s k;rw[if_neg (h g rfl).1,(h g rfl).2];simp
 have hkmk:put (zc6 s tk) d (zax P s t t' x' (sv s y)).2.2 km=s km:=by
  refine hkeep km ?_ (fun g hg=>⟨?_,by rw[hkm];rfl⟩)
  ·rintro rfl
   exact za8 oj km (a2 km hd) (.tmp km) (by rw[hmv];simp[Op.operands]) rfl
  ·rintro rfl
   have:=(ho km hg).2.2
   rw[hr] at this
   simp[AV.refs] at this
 refine⟨put (zc6 s tk) d (zax P s t t' x' (sv s y)).2.2,⟨d,x,y,t,t',x',hd,hdn,hop,hgd,hsr',has',?_,hc',by rw[hst]⟩,⟨dj,r,hdj,hjn,hdjo,hswap,?_⟩,⟨km,e1,z1,xs1,hmv,hgj,by rw[hkmk];exact hkm⟩⟩
 ·rw[htke]
  rcases hok with hok | ⟨g',hx',hg',hng,hG,hod⟩
  ·refine .inl ?_
   cases tk with
   |none=>show (s d).zaa=false;rw[←hpd];exact hok
   |some g=>refine⟨?_,hok.2⟩;rw[←hpd];exact hok.1
  ·have hjn':@LT.lt Nat _ dj n:=hjn
   have hne':¬@Eq Nat g' dj:=by omega
   exact .inr ⟨g',hx',hg',hng,by rw[zam hoj,if_neg hne'] at hG;exact hG,by rw[←hpd];exact hod⟩
 ·rw[hgj,hmv]
  refine⟨?_,?_⟩
  ·show (sv _ (.tmp km)).1
   rw[znH (hkmk.trans hkm)];trivial
  ·show r=(sv _ (.tmp km)).2
   rw[hr,znH (hkmk.trans hkm)]
theorem zGJ{oi oj:Oper}{j:Nat}{s s1 s2:St}(hw:Wf s)(hjo:ops[j]?=some oj)(hfl:fl[j]?=some true)
  (a1:∀d,oj.dst=some d→d∉oi.looksAt ops)(a2:∀d,oi.dst=some d→d∉oj.looksAt ops)(a3:∀d,oj.dst=some d→oi.dst≠some d)
  (hi:zdw P n fl ops oi s s1)(hj:zaF P n ops oj s1 s2)(hp:zjn s1 oj):∃s1',zaF P n ops oj s s1'∧zjn s oj∧zdw P n fl ops oi s1' s2:=by
 obtain⟨d,x,y,t,t',x',hd,hdn,hop,hgd,hsr,has,hok,hc,rfl⟩:=hi
 obtain⟨dj,r,hdj,hjn,hoj1,rfl,hvj⟩:=hj
 have hne:dj≠d:=fun e=>a3 dj hdj (by rw[hd,e])
 obtain⟨hst,e0,z0,xs0,hv0⟩:=zcR hc
 generalize htke:takes s x'.2=tk at hst hok
 have ho1:∀g,tk=some g→(s g).zpx=true∧dj≠g:=by
  intro g hg
  refine⟨(ziw (htke.trans hg)).1,?_⟩
  rcases hok with hok | ⟨g',_,hg',hng,hG,_⟩
  ·rw[hg] at hok
   have:=zmP hok.2 hfl (by simpa using hjo)
   rintro rfl
   exact this hdj
  ·rw[hg] at hg';injection hg' with hg'
   have hjn':@LT.lt Nat _ dj n:=hjn
   subst hg'
   intro e'
   have e2:@Eq Nat dj g:=e'
   omega
 have hdd:tk=some d∨(s d).zaa=false:=by
  rcases hok with hok | ⟨g',_,hg',hng,hG,hod⟩
  ·cases tk with
   |none=>exact .inr hok
   |some g =>
    rcases hok.1 with h | h
    ·exact .inl (by rw[h])
    ·exact .inr h
  ·exact .inr hod
 have hvr:=ztC (P:=P) (t:=t) (t':=t') (x:=x') (y:=sv s y) hw
 have hos:∀g,tk=some g→(s g).zaa=true:=fun g hg=>zg9 (ho1 g hg).1
 have hat:=zsF hvr hos hdd
 rw[hst] at hp hoj1 hvj ⊢
 obtain⟨km,e1,z1,xs1,hmv,hgj,hkm⟩:=hp
 have hback:∀k,k≠d→put (zc6 s tk) d (zax P s t t' x' (sv s y)).2.2 k=.dead∨put (zc6 s tk) d (zax P s t t' x' (sv s y)).2.2 k=s k:=by
  intro k hk
  rw[hat,if_neg hk]
  cases tk with
  |none=>exact .inr rfl
  |some g =>
   show (if k=g then AV.dead else if (s k).refs g=true then .dead else s k)=.dead∨(if k=g then AV.dead else if (s k).refs g=true then .dead else s k)=s k
   split
   ·exact .inl rfl
   ·split
    ·exact .inl rfl
    ·exact .inr rfl
 have hkd:km≠d:=by
  rintro rfl
  exact za8 oj km (a2 km hd) (.tmp km) (by rw[hmv];simp[Op.operands]) rfl
 have hks:s km=.own e1 z1 xs1:=by
  rcases hback km hkd with e | e
  ·rw[e] at hkm;cases hkm
  ·rw[←e];exact hkm
 have hr:r=.alias km:=by
  rw[hgj,hmv] at hvj
  have:r=(sv _ (.tmp km)).2:=hvj.2
  rw[this,znH hkm]
 have hdjo:(s dj).zaa=false:=by
  cases h:(s dj).zaa with
  |false=>rfl
  |true =>
   exfalso
   rw[hat,if_neg hne] at hoj1
   cases tk with
   |none=>rw[show zqJ s none dj=s dj from rfl,h] at hoj1;cases hoj1
   |some g =>
    have:(if dj=g then AV.dead else if (s dj).refs g=true then .dead else s dj).zaa=false:=hoj1
    rw[if_neg (ho1 g rfl).2] at this
    split at this
    ·rename_i hr;rw[zaP hr] at h;cases h
    ·rw[h] at this;cases this
 have hcalm:match oj.guard with
   |none=>zb8 P s oj.op r
   |some g=>∃e,zcG ops s g=some e∧zcY P s e oj.op r:=by
  rw[hgj,hmv]
  refine⟨?_,?_⟩
  ·show (sv s (.tmp km)).1
   rw[znH hks];trivial
  ·show r=(sv s (.tmp km)).2
   rw[hr,znH hks]
 have hval:∀g,tk=some g→r.refs g=false:=by
  intro g hg
  rw[hr]
  show (km==g)=false
  rw[beq_eq_false_iff_ne]
  rintro rfl
  rw[hat,if_neg hkd,hg] at hkm
  have:(if km=km then AV.dead else if (s km).refs km=true then .dead else s km)=.own e1 z1 xs1:=hkm
  rw[if_pos rfl] at this;cases this
 have ho:∀g,tk=some g→(s g).zpx=true∧dj≠g∧r.refs g=false:=fun g hg=>⟨(ho1 g hg).1,(ho1 g hg).2,hval g hg⟩
 obtain⟨_,_,hswap⟩:=zk6 (r:=r) hvr ho hdd hdjo hne
 have hag:∀z∈oi.op.operands,zaA s (put s dj r) z:=fun z hz=>zbj hw hdjo (za8 oi dj (a1 dj hdj) z hz)
 have hx:=hag x (by rw[hop];simp[Op.operands,Call.operands])
 have hy:=hag y (by rw[hop];simp[Op.operands,Call.operands])
 have hxb:∀b,x'.2.refs b=true→put s dj r b=s b:=by
  intro b hb
  rcases hsr with rfl | ⟨p,v,g,e,z,xs,_,hng,_,rfl⟩
  ·exact zaC hx hb
  ·obtain rfl:g=b:=by simpa[AV.refs] using hb
   have hjn':@LT.lt Nat _ dj n:=hjn
   have hne':g≠dj:=by omega
   rw[zam hdjo,if_neg hne']
 have hsrc:zaE (put s dj r) x'.2=zaE s x'.2:=zdB hxb
 have hnew:∀size,zbO (put s dj r) size (sv s y).2=zbO s size (sv s y).2:=fun size=>zdH (fun b hb=>zaC hy hb)
 obtain⟨hcc,hcv⟩:=zd9 (P:=P) (t:=t) (t':=t') (x:=x') (y:=sv s y) hsrc hnew
 have htk:takes (put s dj r) x'.2=tk:=by unfold takes;rw[hsrc];exact htke
 have hpd:put s dj r d=s d:=by rw[zam hdjo,if_neg (Ne.symm hne)]
 have hc2:=hcc.2 hc
 refine⟨put s dj r,⟨dj,r,hdj,hjn,hdjo,rfl,hcalm⟩,⟨km,e1,z1,xs1,hmv,hgj,hks⟩,⟨d,x,y,t,t',x',hd,hdn,hop,hgd,?_,?_,?_,?_,?_⟩⟩
 ·rw[zak hx];exact(zhg hdjo hjn).2 hsr
 ·intro k' h;rw[zak hx];exact(zg6 hdjo hjn).2 (has k' h)
 ·rw[htk]
  rcases hok with hok | ⟨g',hx',hg',hng,hG,hod⟩
  ·refine .inl ?_
   cases tk with
   |none=>show (put s dj r d).zaa=false;rw[hpd];exact hok
   |some g=>refine⟨?_,hok.2⟩;rw[hpd];exact hok.1
  ·have hjn':@LT.lt Nat _ dj n:=hjn
   have hne':¬@Eq Nat g' dj:=by omega
   exact .inr ⟨g',hx',hg',hng,by rw[zam hdjo,if_neg hne'];exact hG,by rw[hpd];exact hod⟩
 ·rw[zak hy];exact hc2
 ·rw[zak hy,(zcR hc2).1,htk,hcv];exact hswap.symm
end
section
variable {P:Program}{n:Nat}{fl:List Bool}{ops:Array Oper}
theorem zqA{o:Oper}(h:znx o=true):∃c,o.op=.call c∧c.callee=.builtin .append∧o.guard=none:=by
 unfold znx at h
 split at h
 ·rename_i c e
  split at h
  ·rename_i hf;exact⟨c,e,hf,by simpa using h⟩
  ·cases h
 ·cases h
theorem zhe{o:Oper}(h:znx o=true):zbN ops o.op=false∧zdM o=false:=by
 obtain⟨c,e,hf,_⟩:=zqA h
 refine⟨?_,?_⟩
 ·rw[e];simp only[zbN,hf]
 ·unfold zdM;rw[e]
def zoQ(P:Program)(n:Nat)(fl:List Bool)(ops:Array Oper)(i:Nat)(s s':St):Prop:=
 ∃o,ops[i]?=some o∧match znx o with
  |true=>zdw P n fl ops o s s'
  |false=>stepD P n false ops i s s'∧(fl[i]?=some true→zbZ P s o.op)
theorem zmF{o:Oper}{s s':St}(h:zdw P n fl ops o s s'):aop P n ops o s (fun t=>t=s'):=by
 obtain⟨d,x,y,t,t',x',hd,hdn,hop,hgd,_,has,hok,hc,rfl⟩:=h
 unfold aop
 rw[hgd,hd,hop]
 exact has (fun z=>(zax P s t t' z (sv s y)).1∧d<n∧put (zax P s t t' z (sv s y)).2.1 d (zax P s t t' z (sv s y)).2.2=put (zax P s t t' x' (sv s y)).2.1 d (zax P s t t' x' (sv s y)).2.2) ⟨hc,hdn,rfl⟩
theorem zyO{i:Nat}{s s':St}(h:zoQ P n fl ops i s s'):stepD P n false ops i s s':=by
 obtain⟨o,ho,h⟩:=h
 split at h
 ·rename_i hu
  obtain⟨h1,h2⟩:=zhe (ops:=ops) hu
  refine⟨o,ho,?_⟩
  rw[h1,h2]
  exact zmF h
 ·exact h.1
theorem ztn{i:Nat}{s s':St}(hw:Wf s)(h:zoQ P n fl ops i s s'):Wf s':=zpk hw (zyO h)
def zfE(s:St)(fl:List Bool)(ops:Array Oper)(o:Oper):Prop:=match o.dst,o.op with
 |some d,.call c=>match c.args.toList with
  |x::_=>zt2 s d fl ops (takes s (sv s x).2)
  |[]=>False
 |_,_=>False
def zP3(P:Program)(s:St)(op:Op):Bool→Prop
 |true=>zbZ P s op
 |false=>True
def zkI(P:Program)(n:Nat)(fl:List Bool)(ops:Array Oper):List Bool→List Oper→St→(St→Prop)→Prop
 |_,[],s,K=>K s
 |fr,o::r,s,K=>match znx o with
  |true=>zfE s fl ops o∧aop P n ops o s (fun s'=>zkI P n fl ops fr.tail r s' K)
  |false=>zP3 P s o.op (fr.headD false)∧zc8 P n false ops [o] s (fun s'=>zkI P n fl ops fr.tail r s' K)
theorem zjv{o:Oper}{s:St}{K:St→Prop}(hu:znx o=true)(hs:zfE s fl ops o)(h:aop P n ops o s K):∃s',zdw P n fl ops o s s'∧K s':=by
 obtain⟨c,hop,hf,hg⟩:=zqA hu
 obtain⟨callee,args,ts⟩:=c
 dsimp only at hf
 subst hf
 unfold aop at h
 rw[hg,hop] at h
 unfold zfE at hs
 rw[hop] at hs
 cases hd:o.dst with
 |none=>rw[hd] at hs;exact hs.elim
 |some d =>
  rw[hd] at hs h
  obtain⟨args⟩:=args
  obtain⟨ts⟩:=ts
  match args,ts,hs,h with
  |[x,y],[t,t'],hs,h =>
   obtain⟨x',hsr,h',has⟩:=zlW (n:=n) (s:=s) (x:=sv s x) (k:=fun z=>(zax P s t t' z (sv s y)).1∧d<n∧K (put (zax P s t t' z (sv s y)).2.1 d (zax P s t t' z (sv s y)).2.2)) h
   refine⟨_,⟨d,x,y,t,t',x',hd,h'.2.1,hop,hg,hsr,has,?_,h'.1,rfl⟩,h'.2.2⟩
   rcases hsr with rfl | ⟨p,v,g,e,z,xs,ex,hng,hsg,rfl⟩
   ·exact .inl hs
   ·have ht:takes s (AV.alias g)=some g:=by unfold takes zaE;simp only[hsg]
    refine .inr ⟨g,rfl,ht,hng,by rw[hsg];rfl,?_⟩
    have hs':zt2 s d fl ops (takes s (sv s x).2):=hs
    rw[ex] at hs'
    exact hs'
theorem zv2{o:Oper}{k:Nat}{s:St}{K:St→Prop}(hw:Wf s)(h0:ops[k]?=some o)(h:zc8 P n false ops [o] s K):∃s1,stepD P n false ops k s s1∧K s1:=by
 simp only[zc8] at h
 split at h
 ·rename_i hc
  simp only[Bool.false_and] at h
  obtain⟨s1,h1,h2⟩:=zfn h.2
  exact⟨s1,⟨o,h0,by rw[hc];simp only[Bool.false_and];exact⟨h1,h.1⟩⟩,h2⟩
 ·rename_i hc
  split at h
  ·rename_i hu
   obtain⟨s1,h1,h2⟩:=zmB hu h.1 h.2
   exact⟨s1,⟨o,h0,by rw[hc];simp only[hu];exact h1⟩,h2⟩
  ·rename_i hu
   obtain⟨s1,h1,h2,_⟩:=zgP hw h
   exact⟨s1,⟨o,h0,by rw[hc];simp only[hu];exact h1⟩,h2⟩
theorem zv3{l:List Bool}(h:l[0]?=some true):l.headD false=true:=by
 cases l with
 |nil=>cases h
 |cons b r=>simpa using h
theorem zhx{K:St→Prop}:∀(l:List Oper) (fr:List Bool) (k:Nat) (s:St),Wf s→(∀j,l[j]?=ops[k+j]?)→(∀j,fr[j]?=fl[k+j]?)→zkI P n fl ops fr l s K →
  ∃s',chain (zoQ P n fl ops) (List.range' k l.length) s s'∧K s'
 |[],_,_,s,_,_,_,h=>⟨s,rfl,by simpa[zkI] using h⟩
 |o::l,fr,k,s,hw,hl,hf,h=>by
  have h0:ops[k]?=some o:=by simpa using (hl 0).symm
  have hnext:∀j,l[j]?=ops[(k+1)+j]?:=fun j=>by have:=hl (j+1);simpa[Nat.add_assoc,Nat.add_comm 1 j] using this
  have fnext:∀j,fr.tail[j]?=fl[(k+1)+j]?:=fun j=>by have:=hf (j+1);simpa[Nat.add_assoc,Nat.add_comm 1 j] using this
  simp only[zkI] at h
  have:∃s1,zoQ P n fl ops k s s1∧zkI P n fl ops fr.tail l s1 K:=by
   split at h
   ·rename_i hu
    obtain⟨s1,h1,h2⟩:=zjv hu h.1 h.2
    exact⟨s1,⟨o,h0,by rw[hu];exact h1⟩,h2⟩
   ·rename_i hu
    obtain⟨s1,h1,h2⟩:=zv2 hw h0 h.2
    refine⟨s1,⟨o,h0,?_⟩,h2⟩
    rw[hu]
    refine⟨h1,fun hk=>?_⟩
    have hh:=zv3 ((hf 0).trans hk)
    have:=h.1
    rw[hh] at this
    exact this
  obtain⟨s1,h1,h2⟩:=this
  obtain⟨s',h3,h4⟩:=zhx l fr.tail (k+1) s1 (ztn hw h1) hnext fnext h2
  exact⟨s',⟨s1,h1,h3⟩,h4⟩
def zti(fl:List Bool)(i:Nat):Bool:=fl.getD i false
theorem znY{i:Nat}(h:zti fl i=true):fl[i]?=some true:=by
 unfold zti at h
 rw[List.getD_eq_getElem?_getD] at h
 cases e:fl[i]? with
 |none=>rw[e] at h;cases h
 |some b=>rw[e] at h;simpa using h
def zTP(fl:List Bool)(ops:Array Oper)(i j:Nat)(oi oj:Oper):Bool:=
 zzG false ops oi oj || (znx oi&&zbN ops oj.op&&zti fl j) || (znx oj&&zbN ops oi.op&&zti fl i)
def zrY(fl:List Bool)(ops:Array Oper)(b:Array Nat)(i j:Nat):Bool:=
 (b.getD i 0).testBit j ||
 match ops[i]?,ops[j]? with
 |some oi,some oj=>zTP fl ops i j oi oj&&oj.apart ops oi
 |_,_=>false
def zlN(fl:List Bool)(ops:Array Oper):Bool:=
 let b:=Region.before ops
 ops.toList.all zql&&(List.range ops.size).all fun i =>
  (match ops[i]? with
   |some o=>o.after.toList.all fun e=>!Region.binds .any e || decide (e.on<i)
   |none=>false) &&
  (List.range i).all fun j=>zrY fl ops b i j
theorem zzT{m:Bool}{oi oj:Oper}(h:zzG m ops oi oj=true):znx oi=false∧znx oj=false:=by
 refine⟨?_,?_⟩
 ·cases hu:znx oi with
  |false=>rfl
  |true =>
   obtain⟨h1,h2⟩:=zhe (ops:=ops) hu
   simp[zzG,h1,h2] at h
 ·cases hu:znx oj with
  |false=>rfl
  |true =>
   obtain⟨h1,h2⟩:=zhe (ops:=ops) hu
   simp[zzG,h1,h2] at h
theorem zg7{i:Nat}{o:Oper}{s s':St}(ho:ops[i]?=some o)(hc:zbN ops o.op=true)(h:stepD P n false ops i s s'):zaF P n ops o s s':=by
 obtain⟨o',ho',h⟩:=h
 rw[ho] at ho';injection ho' with ho';subst ho'
 rw[hc] at h
 exact h.1
theorem zn7{i:Nat}{o:Oper}{s s':St}(ho:ops[i]?=some o)(hc:zbN ops o.op=true)(h:zaF P n ops o s s'):stepD P n false ops i s s':=by
 refine⟨o,ho,?_⟩
 rw[hc]
 exact⟨h,fun h=>by cases h⟩
theorem zrf{o:Oper}(hc:zbN ops o.op=true):znx o=false:=by
 cases hu:znx o with
 |false=>rfl
 |true=>rw[(zhe (ops:=ops) hu).1] at hc;cases hc
theorem ztB{s s1:St}:∀{v:AV},(∀k,Sh (s k) (s1 k))→zbq s1 v=zbq s v
 |.ptr i off,h=>by
  rcases h i with e | ⟨_,_,e1,e2⟩ | ⟨_,_,_,_,e1,e2,_⟩ | ⟨_,_,_,e1,e2⟩
  ·simp only[zbq,e]
  ·simp only[zbq,e1,e2]
  ·simp only[zbq,e1,e2]
  ·simp only[zbq,e1,e2]
 |.alias i,h=>by
  rcases h i with e | ⟨_,_,e1,e2⟩ | ⟨_,_,_,_,e1,e2,_⟩ | ⟨_,_,_,e1,e2⟩
  ·simp only[zbq,e]
  ·simp only[zbq,e1,e2]
  ·simp only[zbq,e1,e2]
  ·simp only[zbq,e1,e2]
 |.cond e v,h=>ztB (v:=v) h
 |.x _,_=>rfl
 |.elem _,_=>rfl
 |.dead,_=>rfl
 |.tup _,_=>rfl
 |.box _,_=>rfl
 |.eptr _ _ _,_=>rfl
 |.own _ _ _,_=>rfl
 |.mp _ _ _,_=>rfl
 |.view _ _ _ _,_=>rfl
 |.cloR _ _,_=>rfl
 |.link _ _ _,_=>rfl
 |.res _,_=>rfl
 |.ptr2 _ _,_=>rfl
 |.gbox _ _,_=>rfl
 |.gown _ _ _ _,_=>rfl
 |.gmap _ _ _ _,_=>rfl
theorem zqu{s s1:St}{op:Op}(hl:zd2 op=true)(h:∀k,Sh (s k) (s1 k))(hb:zbZ P s op):zbZ P s1 op:=by
 have hlook:∀x:Operand,look s1 x=look s x:=fun x=>zsd (by cases x<;>first | exact⟨h _,fun b _=>h b⟩ | trivial)
 have hall:∀l:List Operand,zdq s1 l=zdq s l:=by
  intro l
  induction l with
  |nil=>rfl
  |cons x r ih=>simp only[zdq,hlook,ztB h,ih]
 obtain⟨h1,h2⟩:=hb
 refine⟨?_,?_⟩
 ·cases e:zdC op with
  |none=>rw[e] at h1;exact h1
  |some l=>rw[e] at h1;simpa only[hall] using h1
 ·cases op<;>first | trivial | (simp[zd2] at hl)
theorem zs6{s s1:St}{i:Nat}{o:Oper}(ho:ops[i]?=some o)(hu:zdM o=true)(hc:zbN ops o.op=false)(h:stepD P n false ops i s s1):∀k,Sh (s k) (s1 k):=by
 obtain⟨o',ho',h⟩:=h
 rw[ho] at ho';injection ho' with ho';subst ho'
 rw[hc] at h
 simp only[hu] at h
 obtain⟨W,dr,hw,hd,hn,rfl⟩:=h
 obtain⟨t,addr,x,hop,_⟩:=zhF hu
 have hdr:dr=none:=by
  unfold writes at hw
  rw[hop] at hw
  exact hw.2.2.1
 subst hdr
 exact fun k=>ze8 (fun i v hv=>(zk3 hw).1 i v hv) k
theorem znC{s:St}{o:Oper}(hu:zdM o=true)(h:zbZ P s o.op):False:=by
 obtain⟨t,addr,x,hop,_⟩:=zhF hu
 rw[hop] at h
 exact h.1
theorem zxP{i j:Nat}{oi oj:Oper}{s s1 s2:St}(lwi:∀d,oi.dst=some d→d<MARK)(lwj:∀d,oj.dst=some d→d<MARK)(hi:ops[i]?=some oi)(hj:ops[j]?=some oj)(hmix:zTP fl ops i j oi oj=true)(hap:oj.apart ops oi=true)(hw:Wf s)
  (h1:zoQ P n fl ops j s s1)(h2:zoQ P n fl ops i s1 s2):∃s1',zoQ P n fl ops i s s1'∧zoQ P n fl ops j s1' s2:=by
 obtain⟨a1,a2,a3⟩:=Oper.apart_spec hap
 have b3:∀d,oi.dst=some d→oj.dst≠some d:=fun d h h'=>a2 d h' h
 obtain⟨o1,ho1,h1⟩:=h1
 rw[hj] at ho1;injection ho1 with ho1;subst ho1
 obtain⟨o2,ho2,h2⟩:=h2
 rw[hi] at ho2;injection ho2 with ho2;subst ho2
 unfold zTP at hmix
 rw[Bool.or_eq_true,Bool.or_eq_true] at hmix
 rcases hmix with (hmix | hmix) | hmix
 ·have hB:=hmix
  obtain⟨ui,uj⟩:=zzT hB
  rw[uj] at h1
  rw[ui] at h2
  obtain⟨h1,p1⟩:=h1
  obtain⟨h2,p2⟩:=h2
  obtain⟨s1',k1,k2⟩:=zs4 lwi lwj hi hj hB hap hw h1 h2
  unfold zzG at hB
  rw[Bool.or_eq_true,Bool.or_eq_true] at hB
  rcases hB with (hB | hB) | hB
  ·simp only[Bool.and_eq_true,Bool.not_eq_true'] at hB
   obtain⟨⟨ci,cj⟩,_⟩:=hB
   have ag:∀{t t':St} {o o':Oper},Wf t→zaF P n ops o t t'→(∀d,o.dst=some d→d∉o'.looksAt ops)→∀x∈o'.op.operands,zaA t t' x:=by
    rintro t t' o o' hwt ⟨d,r,hd,hdn,hno,rfl,_⟩ ha x hx
    exact zbj (r:=r) hwt hno (za8 o' d (ha d hd) x hx)
   refine⟨s1',⟨oi,hi,?_⟩,⟨oj,hj,?_⟩⟩
   ·rw[ui]
    exact⟨k1,fun hf=>(zcU (ag hw (zg7 hj cj h1) a1)).1 (p2 hf)⟩
   ·rw[uj]
    exact⟨k2,fun hf=>(zcU (ag hw (zg7 hi ci k1) a3)).2 (p1 hf)⟩
  ·simp only[Bool.and_eq_true,Bool.not_eq_true',Bool.false_or] at hB
   obtain⟨⟨⟨⟨su,sc⟩,lj⟩,cj⟩,_⟩:=hB
   refine⟨s1',⟨oi,hi,?_⟩,⟨oj,hj,?_⟩⟩
   ·rw[ui];exact⟨k1,fun hf=>(znC su (p2 hf)).elim⟩
   ·rw[uj];exact⟨k2,fun hf=>zqu lj (zs6 hi su sc k1) (p1 hf)⟩
  ·simp only[Bool.and_eq_true,Bool.not_eq_true',Bool.false_or] at hB
   obtain⟨⟨⟨⟨su,sc⟩,li⟩,ci⟩,_⟩:=hB
   refine⟨s1',⟨oi,hi,?_⟩,⟨oj,hj,?_⟩⟩
   ·rw[ui];exact⟨k1,fun hf=>zqu li (fun k=>(zs6 hj su sc h1 k).symm) (p2 hf)⟩
   ·rw[uj];exact⟨k2,fun hf=>(znC su (p1 hf)).elim⟩
 ·simp only[Bool.and_eq_true] at hmix
  obtain⟨⟨ui,cj⟩,hf⟩:=hmix
  have hfj:=znY hf
  have uj:=zrf cj
  rw[uj] at h1
  rw[ui] at h2
  obtain⟨s1',k1,k2,k3⟩:=ziv hw hj hfj a1 a3 a2 (zg7 hj cj h1.1) (h1.2 hfj) h2
  exact⟨s1',⟨oi,hi,by rw[ui];exact k1⟩,⟨oj,hj,by rw[uj];exact⟨zn7 hj cj k2,fun _=>k3⟩⟩⟩
 ·simp only[Bool.and_eq_true] at hmix
  obtain⟨⟨uj,ci⟩,hf⟩:=hmix
  have hfi:=znY hf
  have ui:=zrf ci
  rw[uj] at h1
  rw[ui] at h2
  obtain⟨s1',k1,k2,k3⟩:=zix hw hi hfi a3 a1 b3 h1 (zg7 hi ci h2.1) (h2.2 hfi)
  exact⟨s1',⟨oi,hi,by rw[ui];exact⟨zn7 hi ci k1,fun _=>k2⟩⟩,⟨oj,hj,by rw[uj];exact k3⟩⟩
theorem zp5{step step':Nat→St→St→Prop}{fin:St→Prop}(hs:∀i s s',step i s s'→step' i s s'):∀(fuel:Nat) (listed:Array Bool) (s:St),zzp ops step fin fuel listed s→zzp ops step' fin fuel listed s
 |0,_,_,h=>h
 |fuel+1,_,_,h=>⟨h.1,fun i hi=>by
   obtain⟨s',h1,h2⟩:=h.2 i hi
   exact⟨s',hs _ _ _ h1,zp5 hs fuel _ s' h2⟩⟩
theorem zoV{s:St}{K:St→Prop}(hok:zlN fl ops=true)(hw:Wf s)(h:zkI P n fl ops fl ops.toList s K):zzp ops (stepD P n false ops) K ops.size (Array.replicate ops.size false) s:=by
 obtain⟨s',hch,hk⟩:=zhx ops.toList fl 0 s hw (fun j=>by simp) (fun j=>by simp) h
 refine zp5 (step:=zoQ P n fl ops) (fun i s s' h=>zyO h) _ _ _ ?_
 have hlow:∀{i:Nat} {o:Oper},ops[i]?=some o→∀d,o.dst=some d→d<MARK:=by
  intro i o ho
  have h:=hok
  simp only[zlN,Bool.and_eq_true] at h
  exact zfD (List.all_eq_true.1 h.1 o (by have:=Array.mem_of_getElem? ho;simpa using this))
 have hok':=hok
 simp only[zlN,Bool.and_eq_true] at hok'
 replace hok':=hok'.2
 have hdr:∀i,i<ops.size→((match ops[i]? with
   |some o=>o.after.toList.all fun e=>!Region.binds .any e || decide (e.on<i)
   |none=>false)=true∧∀j,j<i→zrY fl ops (Region.before ops) i j=true):=by
  intro i hi
  have:=List.all_eq_true.1 hok' i (by simp[hi])
  simp only[Bool.and_eq_true,List.all_eq_true,List.mem_range] at this
  exact⟨this.1,fun j hj=>this.2 j hj⟩
 refine ziU (wf:=Wf) (indep:=fun j i=>∃oi oj,ops[i]?=some oi∧ops[j]?=some oj∧zTP fl ops i j oi oj=true∧oj.apart ops oi=true)
  (fun i s s' hw h=>ztn hw h) ?_ ?_ ?_ hk ops.size (List.range' 0 ops.toList.length) _ s (by simp) (by simp) ?_ ?_ ?_ hw hch
 ·rintro j i s s1 s2 ⟨oi,oj,hoi,hoj,hm,hap⟩ hw h1 h2
  exact zxP (hlow hoi) (hlow hoj) hoi hoj hm hap hw h1 h2
 ·intro i o ho e he hb
  have:=(hdr i (Array.getElem?_eq_some_iff.1 ho).1).1
  rw[ho] at this
  have:=List.all_eq_true.1 this e (by simpa using he)
  simpa[hb] using this
 ·intro j i hji hi
  have:=(hdr i hi).2 j hji
  unfold zrY at this
  rw[Bool.or_eq_true] at this
  rcases this with h | h
  ·exact .inl (zeF ops i j h)
  ·split at h
   ·rename_i oi oj hoi hoj
    simp only[Bool.and_eq_true] at h
    exact .inr ⟨oi,oj,hoi,hoj,h.1,h.2⟩
   ·cases h
 ·intro i o ho hl
  have hlt:=(Array.getElem?_eq_some_iff.1 ho).1
  simp[hlt] at hl
 ·exact List.pairwise_lt_range'
 ·intro i
  simp only[List.mem_range'_1,Array.length_toList,Nat.zero_add,Nat.zero_le,true_and]
  constructor
  ·intro hi;exact⟨hi,by simp[hi]⟩
  ·intro hi;exact hi.1
end
end Go.Ab
namespace Go.Ab
open Go Go.RowKit
variable [Amb]
section
variable {P:Program}{S0:Env}{w0 w:World}{n:Nat}{s:St}{a:Act}
theorem zsQ(hR:Rel S0 w0 n s a w)(o:Oper){d:Nat}{r:AV}(hdst:o.dst=some d)(hd:S0.m≤d∧d<n)(h:zb8 P s o.op r){K':Act→World→Prop}{Q:Exit→Act→World→Prop}
  (hK:∀a' w',Rel S0 w0 n (Ab.put s d r) a' w'→K' a' w'):o.wp P a w K' Q:=by
 have plain:(zaj P s o.op).1∧r=(zaj P s o.op).2→o.wp P a w K' Q:=by
  rintro⟨hp,rfl⟩
  exact zft hR hd hdst (zov hR o hp) (fun j hj=>zbE hR.wf _ hj) hK
 obtain⟨dst,op,type,pos,after,guard⟩:=o
 dsimp only at h plain hdst
 subst hdst
 cases op<;>try (exact plain h)
 case alloc t =>
  simp only[zb8] at h
  cases hz:zeroOf P t with
  |none=>rw[hz] at h;exact h.elim
  |some cs =>
   rw[hz] at h
   simp only at h
   subst h
   exact zeX (P:=P) (K:=fun s'=>s'=Ab.put s d (.box cs)) hR _ (fun d' h'=>by injection h' with h';subst h';exact hd.1) (by simp only[zcH,hz];exact⟨hd.2,trivial⟩) (fun s' a' w' hR' hs'=>by subst hs';exact hK a' w' hR')
 case box t x =>
  simp only[zb8] at h
  split at h
  ·rename_i p xv e
   obtain⟨hp,rfl⟩:=h
   obtain⟨e1,e2⟩:=zzt e
   exact zeX (P:=P) (K:=fun s'=>s'=Ab.put s d (.box xv.cells)) hR _ (fun d' h'=>by injection h' with h';subst h';exact hd.1) (by simp only[zcH,e,e1,e2,zas,zid];exact⟨hp,hd.2,trivial⟩) (fun s' a' w' hR' hs'=>by subst hs';exact hK a' w' hR')
  ·exact h.elim
 case convert src dst x =>
  simp only[zb8] at h
  cases hsl:za6 P dst with
  |false=>rw[hsl] at h;exact plain h
  |true =>
   rw[hsl] at h
   obtain⟨hp,rfl⟩:=h
   obtain⟨r,w',hrun,hR'⟩:=zpC (P:=P) hR hd (hR.sv x) hp
   unfold Oper.wp
   have hx:(execOp a.eval ({ dst:=some d,op:=.convert src dst x,type:=type,pos:=pos,after:=after,guard:=guard }:Oper)).run P w=.ok (.value r) w':=by
    simp only[execOp,Sem.run_bind,hrun,Result.andThen_ok,Sem.run_pure]
   rw[hx]
   exact hK _ _ hR'
 case buildSlice t len parts =>
  obtain⟨hp,rfl⟩:=h
  obtain⟨v,w',hrun,hR'⟩:=zfc (P:=P) (f:=Ab.sv s) hR (fun x _=>hR.sv x.2) hd hp
  unfold Oper.wp
  have hx:(execOp a.eval ({ dst:=some d,op:=.buildSlice t len parts,type:=type,pos:=pos,after:=after,guard:=guard }:Oper)).run P w=.ok (.value v) w':=by
   simp only[execOp,Sem.run_bind,hrun,Result.andThen_ok,Sem.run_pure]
  rw[hx]
  exact hK _ _ hR'
 case call c =>
  obtain⟨callee,args,argTypes⟩:=c
  simp only[zb8] at h
  split at h
  ·rename_i f
   obtain⟨rv,hc,hfl,rfl⟩:=h
   have hac:zbA s args.toList rv=s:=by
    unfold zbA
    rw[Bool.or_eq_true] at hfl
    cases hf:rv.flat with
    |true=>rfl
    |false =>
     rcases hfl with h | h
     ·rw[hf] at h;cases h
     ·have:zaX s args.toList=[]:=by simpa using h
      simp only[this];rfl
   refine zoM (P:=P) hR hc ⟨argTypes,rfl⟩ hd rfl (fun a' w' hR'=>?_)
   rw[hac] at hR'
   exact hK _ _ hR'
  ·exact plain h
theorem zqq(hR:Rel S0 w0 n s a w)(o:Oper){d:Nat}{r:AV}{e:Bool}(hdst:o.dst=some d)(hd:S0.m≤d∧d<n)(h:zcY P s e o.op r){K':Act→World→Prop}{Q:Exit→Act→World→Prop}
  (hK:∀a' w',Rel S0 w0 n (Ab.put s d r) a' w'→K' a' w'):if e then o.wp P a w K' Q else K' (a.put o.dst undef) w:=by
 refine zp6 (P:=P) (K:=fun s'=>s'=Ab.put s d r) hR o (fun d' h'=>by rw[hdst] at h';injection h' with h';subst h';exact hd.1) ?_ (fun s' a' w' hR' hs'=>by subst hs';exact hK a' w' hR')
 obtain⟨dst,op,type,pos,after,guard⟩:=o
 dsimp only at h hdst ⊢
 subst hdst
 cases op<;>try (obtain⟨h1,h2,rfl⟩:=h;exact⟨h1,h2,hd.2,rfl⟩)
 case buildSlice t len parts =>
  cases e with
  |true=>obtain⟨h1,rfl⟩:=h;exact⟨h1,hd.2,rfl⟩
  |false=>obtain rfl:=h;exact⟨hd.2,rfl⟩
 case call c =>
  obtain⟨callee,args,ts⟩:=c
  cases callee with
  |value f =>
   obtain⟨rv,h1,h2⟩:=zh9 h
   exact h1 _ ⟨hd.2,by rw[h2]⟩
  |_ =>
   obtain⟨h1,h2,rfl⟩:=h
   exact⟨h1,h2,hd.2,rfl⟩
theorem zBD{m:Bool}{ops:Array Oper}{i:Nat}{s':St}(hdm:∀o∈ops.toList,∀d,o.dst=some d→S0.m≤d)(hR:Rel S0 w0 n s a w)(h:stepD P n m ops i s s'){K':Act→World→Prop}{Q:Exit→Act→World→Prop}
  (hK:∀a' w',Rel S0 w0 n s' a' w'→K' a' w'):wpOp P ops Q i K' a w:=by
 obtain⟨o,ho,h⟩:=h
 have hom:=hdm o (by have:=Array.mem_of_getElem? ho;simpa using this)
 unfold wpOp
 rw[ho]
 simp only
 have calm:zaF P n ops o s s'→if Region.wanted o (yielded ops a.tmps) then o.wp P a w K' Q∨(o.asks P a w∧LetsOut Q) else K' (a.put o.dst undef) w:=by
  rintro⟨d,r,hdst,hd,_,rfl,hv⟩
  cases hg:o.guard with
  |none =>
   rw[hg] at hv
   rw[if_pos (by simp[Region.wanted,hg])]
   exact .inl (zsQ (P:=P) hR o hdst ⟨hom d hdst,hd⟩ hv hK)
  |some g =>
   rw[hg] at hv
   obtain⟨e,he,hv⟩:=hv
   have hw:Region.wanted o (yielded ops a.tmps)=e:=by
    simp only[Region.wanted,hg]
    exact zh2 hR he
   have:=zqq (P:=P) (Q:=Q) hR o hdst ⟨hom d hdst,hd⟩ hv hK
   rw[hw]
   cases e with
   |true=>exact .inl this
   |false=>exact this
 have wr:zmj P n o s s'→if Region.wanted o (yielded ops a.tmps) then o.wp P a w K' Q∨(o.asks P a w∧LetsOut Q) else K' (a.put o.dst undef) w:=by
  intro hw
  have hg:o.guard=none:=by obtain⟨_,_,h,_⟩:=hw;exact h.1
  rw[if_pos (by simp[Region.wanted,hg])]
  exact .inl (zAt hR o hom hw hK)
 split at h
 ·split at h
  ·exact h.elim calm wr
  ·exact calm h.1
 ·split at h
  ·exact wr h
  ·unfold aop at h
   cases hg:o.guard with
   |none =>
    rw[hg] at h
    rw[if_pos (by simp[Region.wanted,hg])]
    exact .inl (zeX (P:=P) hR o hom h (fun s1 a' w' hR' hs=>by subst hs;exact hK a' w' hR'))
   |some g =>
    rw[hg] at h
    simp only at h
    cases he:zcG ops s g with
    |none=>rw[he] at h;exact h.elim
    |some e =>
     rw[he] at h
     simp only at h
     have hw:Region.wanted o (yielded ops a.tmps)=e:=by
      simp only[Region.wanted,hg]
      exact zh2 hR he
     have:=zk8 (P:=P) (Q:=Q) hR o hom h (fun s1 a' w' hR' hs=>by subst hs;exact hK a' w' hR')
     rw[hw]
     cases e with
     |true=>exact .inl this
     |false=>exact this
theorem any_ok{m:Bool}{ops:Array Oper}(hdm:∀o∈ops.toList,∀d,o.dst=some d→S0.m≤d){fin:St→Prop}{Q:Exit→Act→World→Prop}(hQ:∀s' a' w',Rel S0 w0 n s' a' w'→fin s'→Q .normal a' w') :
  ∀(fuel:Nat) (listed:Array Bool) (s:St) (a:Act) (w:World),Rel S0 w0 n s a w→zzp ops (stepD P n m ops) fin fuel listed s→wpAny P .any ops Q fuel listed a w
 |0,_,s,a,w,hR,h=>⟨h.1,hQ s a w hR h.2⟩
 |fuel+1,listed,s,a,w,hR,h=>⟨fun h0=>hQ s a w hR (h.1 h0),fun i hi=>by
   obtain⟨s',h1,h2⟩:=h.2 i hi
   exact zBD hdm hR h1 (fun a' w' hR'=>any_ok hdm hQ fuel _ s' a' w' hR' h2)⟩
theorem Rel.drawn(hR:Rel S0 w0 n s a w):Rel S0 w0 n s a { w with drawn:=w.drawn+1 }:=by
 have hb:∀b:Nat,({ w with drawn:=w.drawn+1 }:World).heap[b]?=w.heap[b]?:=fun _=>rfl
 exact⟨hR.defers,hR.size,hR.below.drew _,hR.lt,fun i=>(hR.rep i).mono (fun b hb=>hb) (fun b _=>rfl) (fun b _=>rfl) (fun k _=>⟨rfl,fun h=>⟨h,rfl,rfl,rfl⟩,fun c hc=>hc⟩) (fun _ _ _ cs _ _ hs _=>⟨⟨cs,hs,rfl⟩,rfl⟩),hR.inj,hR.out,hR.wf,hR.pin⟩
theorem zhE{m:Bool}{ops:Array Oper}{id:Nat}{Q:Exit→Act→World→Prop}{K:St→Prop}(hm:P.follows .mixedOrders=true)(hok:zj7 m ops=true)(hdm:∀o∈ops.toList,∀d,o.dst=some d→S0.m≤d)
  (hR:Rel S0 w0 n s a w)(h:zc8 P n m ops ops.toList s K)(hQ:∀s' a' w',Rel S0 w0 n s' a' w'→K s'→Q .normal a' w'):(Code.region id ops true).wp P Q a w:=by
 obtain⟨s',hch,hk⟩:=zhu ops.toList 0 s hR.wf (fun j=>by simp) h
 refine wp_region_any hm (any_ok (m:=m) hdm hQ _ _ s a _ hR.drawn ?_)
 have hlow:∀{i:Nat} {o:Oper},ops[i]?=some o→∀d,o.dst=some d→d<MARK:=by
  intro i o ho
  have h:=hok
  simp only[zj7,Bool.and_eq_true] at h
  exact zfD (List.all_eq_true.1 h.1 o (by have:=Array.mem_of_getElem? ho;simpa using this))
 have hok':=hok
 simp only[zj7,Bool.and_eq_true] at hok'
 replace hok':=hok'.2
 have hdr:∀i,i<ops.size→((match ops[i]? with
   |some o=>o.after.toList.all fun e=>!Region.binds .any e || decide (e.on<i)
   |none=>false)=true∧∀j,j<i→zvI m ops (Region.before ops) i j=true):=by
  intro i hi
  have:=List.all_eq_true.1 hok' i (by simp[hi])
  simp only[Bool.and_eq_true,List.all_eq_true,List.mem_range] at this
  exact⟨this.1,fun j hj=>this.2 j hj⟩
 refine ziU (wf:=Wf) (indep:=fun j i=>∃oi oj,ops[i]?=some oi∧ops[j]?=some oj∧zzG m ops oi oj=true∧oj.apart ops oi=true)
  (fun i s s' hw h=>zpk hw h) ?_ ?_ ?_ hk ops.size (List.range' 0 ops.toList.length) _ s (by simp) (by simp) ?_ ?_ ?_ hR.wf hch
 ·rintro j i s s1 s2 ⟨oi,oj,hoi,hoj,hm,hap⟩ hw h1 h2
  exact zs4 (hlow hoi) (hlow hoj) hoi hoj hm hap hw h1 h2
 ·intro i o ho e he hb
  have:=(hdr i (Array.getElem?_eq_some_iff.1 ho).1).1
  rw[ho] at this
  have:=List.all_eq_true.1 this e (by simpa using he)
  simpa[hb] using this
 ·intro j i hji hi
  have:=(hdr i hi).2 j hji
  unfold zvI at this
  rw[Bool.or_eq_true] at this
  rcases this with h | h
  ·exact .inl (zeF ops i j h)
  ·split at h
   ·rename_i oi oj hoi hoj
    simp only[Bool.and_eq_true] at h
    exact .inr ⟨oi,oj,hoi,hoj,h.1,h.2⟩
   ·cases h
 ·intro i o ho hl
  have hlt:=(Array.getElem?_eq_some_iff.1 ho).1
  simp[hlt] at hl
 ·exact List.pairwise_lt_range'
 ·intro i
  simp only[List.mem_range'_1,Array.length_toList,Nat.zero_add,Nat.zero_le,true_and]
  constructor
  ·intro hi;exact⟨hi,by simp[hi]⟩
  ·intro hi;exact hi.1
theorem zlG{fl:List Bool}{ops:Array Oper}{id:Nat}{Q:Exit→Act→World→Prop}{K:St→Prop}(hm:P.follows .mixedOrders=true)(hok:zlN fl ops=true)(hdm:∀o∈ops.toList,∀d,o.dst=some d→S0.m≤d)
  (hR:Rel S0 w0 n s a w)(h:zkI P n fl ops fl ops.toList s K)(hQ:∀s' a' w',Rel S0 w0 n s' a' w'→K s'→Q .normal a' w'):(Code.region id ops true).wp P Q a w:=
 wp_region_any hm (any_ok (m:=false) hdm hQ _ _ s a _ hR.drawn (zoV hok hR.wf h))
end
end Go.Ab
namespace Go.Ab
open Go Go.RowKit
variable [Amb]
def zmG(P:Program)(f g:FuncId):Prop:=
 zea P f∧∀(w:World) (v:Value),v.oneCell'=true→Amb.holds w→Calls P f #[v] w fun e w'=>∃b t,e=.returned (.func (.func g) #[] #[.pointer (some ⟨b,0,none⟩)])∧w.heap.size≤b∧w'.heap[b]?=some (.cells #[v] t (0,0))∧Below w.heap.size w w'
def zqy(P:Program)(fv x:Prop×AV)(r:AV):Prop:=
 match zkD fv.2,x with
 |some (g,[]),(q,.ptr i off)=>fv.1∧q∧∃g',zmG P g g'∧r=.cloR g' [.inr (i,off+1000000)]
 |_,_=>False
def zeV(P:Program)(s:St)(op:Op)(r:AV):Prop:=
 match op with
 |.call c=>match c.callee with
  |.value f=>match c.args.toList with
   |[x]=>zqy P (sv s f) (sv s x) r
   |_=>False
  |_=>False
 |_=>False
def zkg(P:Program)(s:St)(e:Bool)(op:Op)(r:AV):Prop:=
 match e with
 |true=>∃r0,zeV P s op r0∧r=.cond true r0
 |false=>r=.cond false (.x (.one (.bool false)))
theorem zkl{P:Program}{s s':St}(op:Op)(r:AV)(h:∀x∈op.operands,zaA s s' x):zeV P s' op r↔zeV P s op r:=by
 cases op with
 |call c =>
  obtain⟨callee,⟨args⟩,ts⟩:=c
  cases callee with
  |value f =>
   have hf:zaA s s' f:=h f (by simp[Op.operands,Call.operands])
   have ha:∀x∈args,zaA s s' x:=fun x hx=>h x (by simp[Op.operands,Call.operands,hx])
   match args,ha with
   |[],_=>exact Iff.rfl
   |[x],ha=>simp only[zeV,zak hf,zak (ha x (by simp))]
   |_::_::_,_=>exact Iff.rfl
  |_=>exact Iff.rfl
 |_=>exact Iff.rfl
theorem zqG{P:Program}{s s':St}{e:Bool}(op:Op)(r:AV)(h:∀x∈op.operands,zaA s s' x):zkg P s' e op r↔zkg P s e op r:=by
 cases e with
 |true=>simp only[zkg,zkl _ _ h]
 |false=>exact Iff.rfl
def znc(n:Nat)(ops:Array Oper)(o:Oper)(V:St→AV→Prop)(VG:St→Bool→AV→Prop)(s s':St):Prop:=
 ∃d r,o.dst=some d∧d<n∧(s d).zaa=false∧s'=put s d r∧match o.guard with
  |none=>V s r
  |some g=>∃e,zcG ops s g=some e∧VG s e r
def okV(P:Program)(o:Oper)(V:St→AV→Prop)(VG:St→Bool→AV→Prop):Prop:=
 ∀s s',(∀x∈o.op.operands,zaA s s' x)→zHO P s s' o.op→(∀r,V s' r↔V s r)∧∀e r,VG s' e r↔VG s e r
theorem zkT(P:Program)(o:Oper):okV P o (fun s r=>zb8 P s o.op r) (fun s e r=>zcY P s e o.op r):=fun _ _ h hl=>⟨fun r=>zcC _ r h hl,fun e r=>zcO _ r h hl⟩
theorem zyE(P:Program)(o:Oper):okV P o (fun s r=>zeV P s o.op r) (fun s e r=>zkg P s e o.op r):=fun _ _ h _=>⟨fun r=>zkl _ r h,fun e r=>zqG _ r h⟩
theorem zOa{P:Program}{n:Nat}{ops:Array Oper}{oi oj:Oper}{Vi Vj:St→AV→Prop}{VGi VGj:St→Bool→AV→Prop}{s s1 s2:St}(ki:okV P oi Vi VGi)(kj:okV P oj Vj VGj)(hmi:∀d,oi.dst=some d→d<MARK)(hmj:∀d,oj.dst=some d→d<MARK)(hap:oi.apart ops oj=true)(hw:Wf s)
  (hi:znc n ops oi Vi VGi s s1)(hj:znc n ops oj Vj VGj s1 s2):∃s1',znc n ops oj Vj VGj s s1'∧znc n ops oi Vi VGi s1' s2:=by
 obtain⟨di,ri,hdi,hin,hoi,rfl,hvi⟩:=hi
 obtain⟨dj,rj,hdj,hjn,hoj,rfl,hvj⟩:=hj
 obtain⟨h1,h2,h3⟩:=Oper.apart_spec hap
 have hne:dj≠di:=fun e=>h2 di hdi (by rw[hdj,e])
 have hoj':(s dj).zaa=false:=by rw[zam hoi,if_neg hne] at hoj;exact hoj
 have hoi':(put s dj rj di).zaa=false:=by rw[zam hoj',if_neg (Ne.symm hne)];exact hoi
 have ag:∀(o:Oper) (d:Nat),d∉o.looksAt ops→∀x∈o.op.operands,x≠.tmp d:=by
  intro o d hd x hx e
  subst e
  exact hd (by simp only[Oper.looksAt,List.mem_append,List.mem_filterMap];exact .inl ⟨.tmp d,by simpa using hx,rfl⟩)
 have gd:∀(o:Oper) (d:Nat) (g:Nat×Bool),d∉o.looksAt ops→o.guard=some g→∀d',(ops[g.1]?).bind (·.dst)=some d'→d'≠d:=by
  intro o d g hd hg d' hd' e
  subst e
  refine hd ?_
  simp only[Oper.looksAt,List.mem_append,hg,hd']
  exact .inr (by simp)
 refine⟨put s dj rj,⟨dj,rj,hdj,hjn,hoj',rfl,?_⟩,⟨di,ri,hdi,hin,hoi',?_,?_⟩⟩
 ·have hag:∀x∈oj.op.operands,zaA s (put s di ri) x:=fun x hx=>zbj hw hoi (ag oj di (h1 di hdi) x hx)
  cases hg:oj.guard with
  |none=>rw[hg] at hvj;exact((kj _ _ hag (zgZ (zi6 hoi (hmi di hdi)) _)).1 _).1 hvj
  |some g =>
   rw[hg] at hvj
   obtain⟨e,he,hv⟩:=hvj
   refine⟨e,?_,((kj _ _ hag (zgZ (zi6 hoi (hmi di hdi)) _)).2 _ _).1 hv⟩
   rw[←he]
   exact(zeb (fun d' hd'=>by rw[zam hoi,if_neg (gd oj di g (h1 di hdi) hg d' hd')])).symm
 ·funext k
  rw[zam hoj,zam hoi,zam hoi',zam hoj']
  by_cases hkj:k=dj
  ·subst hkj;simp[hne]
  ·by_cases hki:k=di
   ·subst hki;simp[hkj]
   ·simp[hkj,hki]
 ·have hag:∀x∈oi.op.operands,zaA s (put s dj rj) x:=fun x hx=>zbj hw hoj' (ag oi dj (h3 dj hdj) x hx)
  cases hg:oi.guard with
  |none=>rw[hg] at hvi;exact((ki _ _ hag (zgZ (zi6 hoj' (hmj dj hdj)) _)).1 _).2 hvi
  |some g =>
   rw[hg] at hvi
   obtain⟨e,he,hv⟩:=hvi
   refine⟨e,?_,((ki _ _ hag (zgZ (zi6 hoj' (hmj dj hdj)) _)).2 _ _).2 hv⟩
   rw[←he]
   exact zeb (fun d' hd'=>by rw[zam hoj',if_neg (gd oi dj g (h3 dj hdj) hg d' hd')])
theorem zwS{d:Nat}(h:d<MARK):¬(MARK=d):=by unfold MARK at *;omega
theorem zPA{d:Nat}(h:d<MARK)(i off:Nat):LK i off≠d:=by unfold LK;unfold MARK at h;omega
def zqf(o:Oper):Bool:=match o.op with
 |.move _=>o.guard.isNone
 |_=>false
theorem znP{o:Oper}(h:zqf o=true):∃x,o.op=.move x∧o.guard=none:=by
 unfold zqf at h
 split at h
 ·rename_i x e;exact⟨x,e,by simpa using h⟩
 ·cases h
def zrQ(P:Program)(o:Oper)(s s':St):Prop:=
 ∃t addr x p i off d,o.op=.store t addr x∧o.guard=none∧o.dst=none∧zbc s (sv s addr) (sv s x)=some (p,i,off,d)∧zdQ P t=true∧p∧(zar P s t i off d).1∧s'=(zar P s t i off d).2
def zpN(P:Program)(n:Nat)(ops:Array Oper)(o:Oper)(s s':St):Prop:=zaF P n ops o s s'∧zbZ P s o.op∧zqf o=true
theorem zgT{s:St}{i off m:Nat}:∀{v:AV},zbq s v=true→v.zdm i off m=false
 |.x _,_=>rfl
 |.elem _,_=>rfl
 |.ptr _ _,_=>rfl
 |.alias _,_=>rfl
 |.cond _ v,h=>zgT (v:=v) h
theorem zdG{P:Program}{s:St}{t:TypeId}{i off d:Nat}(h:(zar P s t i off d).1):∃(B:List CV→AV) (cs:List CV),(B=.box∨∃b,B=.gbox b)∧s i=B cs∧tk P t=.one∧(s d).tight=true∧(s (LK i off)).free=true∧off<cs.length ∧
  ∀k,(zar P s t i off d).2 k=if k=i then B (cs.set off .any) else if k=LK i off then .link i off d else unlink s i off 1 k:=by
 unfold zar at h ⊢
 split at h
 ·rename_i cs hk hs
  obtain⟨h1,h2,h3⟩:=h
  simp only[hk,hs]
  exact⟨.box,cs,.inl rfl,rfl,trivial,h2,h3,h1,fun k=>rfl⟩
 ·rename_i b cs hk hs
  obtain⟨h1,h2,h3⟩:=h
  simp only[hk,hs]
  exact⟨.gbox b,cs,.inr ⟨b,rfl⟩,rfl,trivial,h2,h3,h1,fun k=>rfl⟩
 ·exact h.elim
theorem ziG{P:Program}{s:St}{t:TypeId}{i off d:Nat}{cs:List CV}(h1:(s i).zfQ=some cs)(h2:tk P t=.one)(h3:(s d).tight=true)(h4:(s (LK i off)).free=true)(h5:off<cs.length):(zar P s t i off d).1:=by
 unfold zar
 cases hs:s i<;>rw[hs] at h1<;>first | (cases h1;done) | skip
 ·rename_i c
  obtain rfl:c=cs:=by simpa[AV.zfQ] using h1
  simp only[h2]
  exact⟨h5,h3,h4⟩
 ·rename_i b c
  obtain rfl:c=cs:=by simpa[AV.zfQ] using h1
  simp only[h2]
  exact⟨h5,h3,h4⟩
theorem zqF{P:Program}{s:St}{t:TypeId}{i off d:Nat}(h:(zar P s t i off d).1){x:Operand}:(zbq s (look s x)=true∨zbq (zar P s t i off d).2 (look (zar P s t i off d).2 x)=true) →
  look (zar P s t i off d).2 x=look s x∧zbq s (look s x)=true∧zbq (zar P s t i off d).2 (look (zar P s t i off d).2 x)=true:=by
 obtain⟨B,cs,hB,hs,_,_,hfree,_,hat⟩:=zdG h
 generalize (zar P s t i off d).2=S at hat
 have hLKi:LK i off≠i:=by intro e;rw[e,hs] at hfree;rcases hB with rfl | ⟨_,rfl⟩<;>cases hfree
 have hbox:∀k,(∃c,S k=.box c)↔∃c,s k=.box c:=by
  intro k
  rw[hat]
  by_cases hk:k=i
  ·subst hk;rw[if_pos rfl,hs];rcases hB with rfl | ⟨_,rfl⟩<;>simp
  ·rw[if_neg hk]
   by_cases hl:k=LK i off
   ·subst hl
    rw[if_pos rfl]
    constructor
    ·rintro⟨c,h⟩;cases h
    ·rintro⟨c,h⟩;rw[h] at hfree;cases hfree
   ·rw[if_neg hl]
    constructor
    ·rintro⟨c,h⟩
     rcases zay s i off 1 k with e | e<;>rw[e] at h
     ·exact⟨c,h⟩
     ·cases h
    ·rintro⟨c,h⟩
     exact⟨c,by rw[zav (by rw[h];rfl)];exact h⟩
 have hmp:∀k,(∃c bs es,S k=.mp c bs es)↔∃c bs es,s k=.mp c bs es:=by
  intro k
  rw[hat]
  by_cases hk:k=i
  ·subst hk;rw[if_pos rfl,hs];rcases hB with rfl | ⟨_,rfl⟩<;>simp
  ·rw[if_neg hk]
   by_cases hl:k=LK i off
   ·subst hl
    rw[if_pos rfl]
    constructor
    ·rintro⟨c,_,_,h⟩;cases h
    ·rintro⟨c,_,_,h⟩;rw[h] at hfree;cases hfree
   ·rw[if_neg hl]
    constructor
    ·rintro⟨c,bs,es,h⟩
     rcases zay s i off 1 k with e | e<;>rw[e] at h
     ·exact⟨c,bs,es,h⟩
     ·cases h
    ·rintro⟨c,bs,es,h⟩
     exact⟨c,bs,es,by rw[zav (by rw[h];rfl)];exact h⟩
 have hbv:∀v:AV,zbq S v=zbq s v:=by
  intro v
  induction v with
  |alias k =>
   have:=hmp k
   simp only[zbq]
   cases e1:S k<;>cases e2:s k<;>first | rfl | (rw[e1,e2] at this;simp at this)
  |ptr k o =>
   have:=hbox k
   simp only[zbq]
   cases e1:S k<;>cases e2:s k<;>first | rfl | (rw[e1,e2] at this;simp at this)
  |cond e v ih=>exact ih
  |_=>rfl
 cases x with
 |tmp k =>
  have hk:look S (.tmp k)=look s (.tmp k)∨(zbq s (look s (.tmp k))=false∧zbq s (look S (.tmp k))=false):=by
   simp only[look,hat]
   by_cases hki:k=i
   ·subst hki;left;rw[if_pos rfl,hs];rcases hB with rfl | ⟨_,rfl⟩<;>rfl
   ·rw[if_neg hki]
    by_cases hl:k=LK i off
    ·subst hl
     rw[if_pos rfl]
     right
     refine⟨?_,rfl⟩
     cases e:s (LK i off)<;>rw[e] at hfree<;>first | rfl | cases hfree
    ·rw[if_neg hl]
     unfold unlink
     cases hli:(s k).zdm i off 1 with
     |false=>exact .inl rfl
     |true =>
      right
      refine⟨?_,rfl⟩
      cases hb:zbq s (s k) with
      |true=>rw[zgT hb] at hli;cases hli
      |false =>
       have hno:=AV.zlo hli
       cases e:s k<;>rw[e] at hb hno<;>first | exact hb | cases hno
  rintro (hb | hb)
  ·rcases hk with e | ⟨e,_⟩
   ·exact⟨e,hb,by rw[e,hbv];exact hb⟩
   ·rw[e] at hb;cases hb
  ·rw[hbv] at hb
   rcases hk with e | ⟨_,e⟩
   ·rw[e] at hb;exact⟨e,hb,by rw[e,hbv];exact hb⟩
   ·rw[e] at hb;cases hb
 |_ =>
  rintro (hb | hb)
  ·exact⟨rfl,hb,by rw[hbv];exact hb⟩
  ·rw[hbv] at hb;exact⟨rfl,hb,by rw[hbv];exact hb⟩
theorem ztd{P:Program}{s:St}{t:TypeId}{i off d dj:Nat}{r:AV}(h:(zar P s t i off d).1)(hj:(s dj).zaa=false)(hd:d≠dj)(hm:dj<MARK)(hr:∀i off m,r.zdm i off m=false) :
  (zar P (put s dj r) t i off d).1∧((zar P s t i off d).2 dj).zaa=false∧(zar P (put s dj r) t i off d).2=put (zar P s t i off d).2 dj r:=by
 obtain⟨B,cs,hB,hs,hk,hdt,hfree,hlt,hat⟩:=zdG h
 have hsc:(s i).zfQ=some cs:=by rw[hs];rcases hB with rfl | ⟨_,rfl⟩<;>rfl
 have hij:i≠dj:=by rintro rfl;rw[AV.zba hsc] at hj;cases hj
 have hLj:LK i off≠dj:=zPA hm i off
 have hp:∀k,put s dj r k=if k=dj then (match r.refs dj with | true=>.dead | false=>r) else s k:=zam hj
 have h':(zar P (put s dj r) t i off d).1:=ziG (cs:=cs) (by rw[hp,if_neg hij];exact hsc) hk (by rw[hp,if_neg hd];exact hdt) (by rw[hp,if_neg hLj];exact hfree) hlt
 obtain⟨B',cs',hB',hs',_,_,_,_,hat'⟩:=zdG h'
 rw[hp,if_neg hij,hs] at hs'
 obtain⟨rfl,rfl⟩:B'=B∧cs'=cs:=by
  rcases hB with rfl | ⟨b,rfl⟩<;>rcases hB' with rfl | ⟨b',rfl⟩<;>first | (cases hs';done) | skip
  ·injection hs' with hs';exact⟨rfl,hs'.symm⟩
  ·injection hs' with hs1 hs2;exact⟨by rw[hs1],hs2.symm⟩
 have hno:((zar P s t i off d).2 dj).zaa=false:=by
  rw[hat,if_neg (Ne.symm hij),if_neg (Ne.symm hLj)]
  rcases zay s i off 1 dj with e | e<;>rw[e]
  ·exact hj
  ·rfl
 refine⟨h',hno,?_⟩
 funext k
 rw[hat',zam hno,hat]
 by_cases hki:k=i
 ·subst hki;rw[if_pos rfl,if_neg hij,if_pos rfl]
 ·rw[if_neg hki,if_neg hki]
  by_cases hkl:k=LK i off
  ·subst hkl;rw[if_pos rfl,if_neg hLj,if_pos rfl]
  ·rw[if_neg hkl,if_neg hkl]
   unfold unlink
   rw[hp]
   by_cases hkj:k=dj
   ·subst hkj
    rw[if_pos rfl,if_pos rfl]
    cases r.refs k with
    |true=>rfl
    |false=>simp only[hr]
   ·rw[if_neg hkj,if_neg hkj]
theorem zma{P:Program}{s:St}{x:Operand}(hb:zbq s (look s x)=true)(i off m:Nat):(sv s x).2.zdm i off m=false:=by
 unfold sv
 have:∀v:AV,zbq s v=true→(strip v).2.zdm i off m=false:=by
  intro v hv
  cases v<;>first | (simp[zbq] at hv;done) | skip
  ·rename_i xv
   cases xv with
   |one c=>cases c<;>rfl
   |agg cs=>rfl
  ·rfl
  ·rfl
  ·rfl
  ·exact zgT (s:=s) hv
 exact this _ hb
theorem zF8{P:Program}{n:Nat}{ops:Array Oper}{oi oj:Oper}{s s1 s2:St}(hw:Wf s)(lwj:∀d,oj.dst=some d→d<MARK)(a1:∀d,oj.dst=some d→d∉oi.looksAt ops)
  (hj:zpN P n ops oj s s1)(hi:zrQ P oi s1 s2):∃s1',zrQ P oi s s1'∧zpN P n ops oj s1' s2:=by
 obtain⟨⟨dj,r,hdj,hjn,hoj,rfl,hv⟩,hb,hmu⟩:=hj
 obtain⟨x,hop,hg⟩:=znP hmu
 rw[hg,hop] at hv
 obtain⟨hvp,hr⟩:(sv s x).1∧r=(sv s x).2:=hv
 rw[hop] at hb
 have hbv:zbq s (look s x)=true:=zgR hb x (by simp[Op.operands])
 obtain⟨t,addr,y,p,i,off,d,hop2,hg2,hdst2,hl,ho,hp,hls,rfl⟩:=hi
 have hag:∀z∈oi.op.operands,zaA s (put s dj r) z:=fun z hz=>zbj hw hoj (za8 oi dj (a1 dj hdj) z hz)
 have ha:=hag addr (by rw[hop2];simp[Op.operands])
 have hy:=hag y (by rw[hop2];simp[Op.operands])
 have hmark:put s dj r MARK=s MARK:=by rw[zam hoj,if_neg (zwS (lwj dj hdj))]
 have hlq:zbc (put s dj r) (sv (put s dj r) addr) (sv (put s dj r) y)=zbc s (sv s addr) (sv s y):=by
  rw[zak ha,zak hy]
  unfold zbc
  rw[hmark]
 rw[hlq] at hl
 obtain⟨p1,q,ea,ey,rfl⟩:=zc9 hl
 have hsi:put s dj r i=s i:=zaC ha (by rw[ea];simp[AV.refs])
 have hsd:put s dj r d=s d:=zaC hy (by rw[ey];simp[AV.refs])
 obtain⟨B,cs,hB,hs,hk,hdt,hfree,hlt,_⟩:=zdG hls
 have hlk:put s dj r (LK i off)=s (LK i off):=zi6 hoj (lwj dj hdj) i off
 have hls0:(zar P s t i off d).1:=ziG (cs:=cs) (by rw[←hsi,hs];rcases hB with rfl | ⟨_,rfl⟩<;>rfl) hk (by rw[←hsd];exact hdt) (by rw[←hlk];exact hfree) hlt
 have hd:d≠dj:=by
  rintro rfl
  have:=AV.zcD hdt
  rw[hsd,hoj] at this;cases this
 obtain⟨_,h2,h3⟩:=ztd (r:=r) hls0 hoj hd (lwj dj hdj) (fun i off m=>by rw[hr];exact zma (P:=P) hbv i off m)
 obtain⟨e1,_,e3⟩:=zqF hls0 (.inl hbv)
 refine⟨_,⟨t,addr,y,_,i,off,d,hop2,hg2,hdst2,hl,ho,hp,hls0,rfl⟩,⟨dj,r,hdj,hjn,h2,h3,?_⟩,?_,hmu⟩
 ·rw[hg,hop]
  have e:sv (zar P s t i off d).2 x=sv s x:=by unfold sv;rw[e1]
  exact⟨by show (sv _ x).1;rw[e];exact hvp,by show r=(sv _ x).2;rw[e];exact hr⟩
 ·rw[hop]
  refine⟨?_,trivial⟩
  show (zbq _ (look _ x)&&true)=true
  rw[e3];rfl
theorem zGt{P:Program}{n:Nat}{ops:Array Oper}{oi oj:Oper}{s s1 s2:St}(hw:Wf s)(lwj:∀d,oj.dst=some d→d<MARK)(a1:∀d,oj.dst=some d→d∉oi.looksAt ops)
  (hi:zrQ P oi s s1)(hj:zpN P n ops oj s1 s2):∃s1',zpN P n ops oj s s1'∧zrQ P oi s1' s2:=by
 obtain⟨t,addr,y,p,i,off,d,hop2,hg2,hdst2,hl,ho,hp,hls,rfl⟩:=hi
 obtain⟨⟨dj,r,hdj,hjn,hoj1,rfl,hv⟩,hb,hmu⟩:=hj
 obtain⟨x,hop,hg⟩:=znP hmu
 rw[hg,hop] at hv
 obtain⟨hvp,hr⟩:(sv (zar P s t i off d).2 x).1∧r=(sv (zar P s t i off d).2 x).2:=hv
 rw[hop] at hb
 have hbv:zbq (zar P s t i off d).2 (look (zar P s t i off d).2 x)=true:=zgR hb x (by simp[Op.operands])
 obtain⟨e1,e2,_⟩:=zqF hls (.inr hbv)
 have e:sv (zar P s t i off d).2 x=sv s x:=by unfold sv;rw[e1]
 rw[e] at hvp hr
 obtain⟨B,cs,hB,hs,hk,hdt,hfree,hlt,hat⟩:=zdG hls
 obtain⟨p1,q,ea,ey,rfl⟩:=zc9 hl
 have hm:=lwj dj hdj
 have hij:i≠dj:=by
  rintro rfl
  rw[hat,if_pos rfl] at hoj1;rcases hB with rfl | ⟨_,rfl⟩<;>cases hoj1
 have hLj:LK i off≠dj:=zPA hm i off
 have hoj:(s dj).zaa=false:=by
  rw[hat,if_neg (Ne.symm hij),if_neg (Ne.symm hLj)] at hoj1
  cases hx:(s dj).zaa with
  |false=>rfl
  |true=>rw[zav hx,hx] at hoj1;cases hoj1
 have hd:d≠dj:=by
  rintro rfl
  have:=AV.zcD hdt
  rw[hoj] at this;cases this
 obtain⟨h1,_,h3⟩:=ztd (r:=r) hls hoj hd hm (fun i off m=>by rw[hr];exact zma (P:=P) e2 i off m)
 have hag:∀z∈oi.op.operands,zaA s (put s dj r) z:=fun z hz=>zbj hw hoj (za8 oi dj (a1 dj hdj) z hz)
 have ha:=hag addr (by rw[hop2];simp[Op.operands])
 have hy:=hag y (by rw[hop2];simp[Op.operands])
 have hmark:put s dj r MARK=s MARK:=by rw[zam hoj,if_neg (zwS hm)]
 refine⟨put s dj r,⟨⟨dj,r,hdj,hjn,hoj,rfl,?_⟩,?_,hmu⟩,t,addr,y,_,i,off,d,hop2,hg2,hdst2,?_,ho,hp,h1,h3.symm⟩
 ·rw[hg,hop];exact⟨hvp,hr⟩
 ·rw[hop]
  refine⟨?_,trivial⟩
  show (zbq _ (look _ x)&&true)=true
  rw[e2];rfl
 ·rw[zak ha,zak hy]
  rw[←hl]
  unfold zbc
  rw[hmark]
def copies(fl:List Nat):List Bool:=fl.map fun k=>k==6 || k==7 || k==8
def zfN(fl:List Nat):List Bool:=fl.map fun k=>k==6 || k==7
def zmD(P:Program)(n:Nat)(fl:List Nat)(ops:Array Oper)(o:Oper)(k:Nat)(s s':St):Prop:=
 match k with
 |0=>aop P n ops o s (fun t=>t=s')
 |1=>zaF P n ops o s s'
 |4=>zdw P n (copies fl) ops o s s'
 |5=>zrQ P o s s'
 |6=>zpN P n ops o s s'
 |7=>zaF P n ops o s s'∧zbZ P s o.op
 |8=>zaF P n ops o s s'∧zjn s o
 |9=>zdw P n (zfN fl) ops o s s'
 |_=>znc n ops o (fun s r=>zeV P s o.op r) (fun s e r=>zkg P s e o.op r) s s'
def stepW(P:Program)(n:Nat)(fl:List Nat)(ops:Array Oper)(i:Nat)(s s':St):Prop:=
 ∃o,ops[i]?=some o∧zmD P n fl ops o (fl.getD i 0) s s'
def zug(s:St)(o:Oper):Prop:=match o.op with
 |.store _ a x=>o.guard=none∧o.dst=none∧(zbc s (sv s a) (sv s x)).isSome=true
 |_=>False
theorem zA2{P:Program}{n:Nat}{ops:Array Oper}{o:Oper}{s:St}{K:St→Prop}(hl:zug s o)(h:aop P n ops o s K):∃s',zrQ P o s s'∧K s':=by
 unfold zug at hl
 split at hl
 ·rename_i t a x hop
  obtain⟨hg,hd,hk⟩:=hl
  obtain⟨⟨p,i,off,d⟩,e⟩:=Option.isSome_iff_exists.1 hk
  unfold aop at h
  rw[hg,hd,hop] at h
  simp only[zcH,e] at h
  exact⟨_,⟨t,a,x,p,i,off,d,hop,hg,hd,e,h.1,h.2.1,h.2.2.1,rfl⟩,h.2.2.2⟩
 ·exact hl.elim
theorem zp2{P:Program}{n:Nat}{ops:Array Oper}{o:Oper}{s s':St}(h:zrQ P o s s'):aop P n ops o s (fun t=>t=s'):=by
 obtain⟨t,a,x,p,i,off,d,hop,hg,hd,e,h1,h2,h3,rfl⟩:=h
 unfold aop
 rw[hg,hd,hop]
 simp only[zcH,e]
 exact⟨h1,h2,h3,trivial⟩
def zrC(P:Program)(n:Nat)(ops:Array Oper)(o:Oper)(s:St)(K:St→Prop):Prop:=
 match o.dst with
 |none=>False
 |some d=>d<n∧(s d).zaa=false∧match o.guard with
  |none=>∃r,zeV P s o.op r∧K (put s d r)
  |some g=>match zcG ops s g with
   |some true=>∃r,zeV P s o.op r∧K (put s d (.cond true r))
   |some false=>K (put s d (.cond false (.x (.one (.bool false)))))
   |none=>False
theorem zjs{P:Program}{n:Nat}{ops:Array Oper}{o:Oper}{s:St}{K:St→Prop}(h:zrC P n ops o s K):∃s',znc n ops o (fun s r=>zeV P s o.op r) (fun s e r=>zkg P s e o.op r) s s'∧K s':=by
 unfold zrC at h
 split at h
 ·exact h.elim
 ·rename_i d hd
  obtain⟨hn,ho,h⟩:=h
  cases hg:o.guard with
  |none =>
   rw[hg] at h
   obtain⟨r,h1,h2⟩:=h
   exact⟨_,⟨d,r,hd,hn,ho,rfl,by rw[hg];exact h1⟩,h2⟩
  |some g =>
   rw[hg] at h
   simp only at h
   split at h
   ·rename_i e
    obtain⟨r,h1,h2⟩:=h
    exact⟨_,⟨d,_,hd,hn,ho,rfl,by rw[hg];exact⟨true,e,r,h1,rfl⟩⟩,h2⟩
   ·rename_i e
    exact⟨_,⟨d,_,hd,hn,ho,rfl,by rw[hg];exact⟨false,e,rfl⟩⟩,h⟩
   ·exact h.elim
def zbJ(P:Program)(n:Nat)(fl:List Nat)(ops:Array Oper):List Nat→List Oper→St→(St→Prop)→Prop
 |_,[],s,K=>K s
 |fr,o::r,s,K=>match fr.headD 0 with
  |0=>aop P n ops o s (fun s'=>zbJ P n fl ops fr.tail r s' K)
  |1=>zdo P n ops o s (fun s'=>zbJ P n fl ops fr.tail r s' K)
  |4=>znx o=true∧zfE s (copies fl) ops o∧aop P n ops o s (fun s'=>zbJ P n fl ops fr.tail r s' K)
  |5=>zug s o∧aop P n ops o s (fun s'=>zbJ P n fl ops fr.tail r s' K)
  |6=>zqf o=true∧zbZ P s o.op∧zdo P n ops o s (fun s'=>zbJ P n fl ops fr.tail r s' K)
  |7=>zbZ P s o.op∧zdo P n ops o s (fun s'=>zbJ P n fl ops fr.tail r s' K)
  |8=>zjn s o∧zdo P n ops o s (fun s'=>zbJ P n fl ops fr.tail r s' K)
  |9=>znx o=true∧zfE s (zfN fl) ops o∧aop P n ops o s (fun s'=>zbJ P n fl ops fr.tail r s' K)
  |_=>zrC P n ops o s (fun s'=>zbJ P n fl ops fr.tail r s' K)
theorem zfL{P:Program}{s:St}(hw:Wf s){op:Op}{r:AV}(h:zeV P s op r):(∀j,r.refs j=true→(s j).zaa=true)∧r.zaa=false:=by
 unfold zeV at h
 split at h
 ·split at h
  ·split at h
   ·rename_i x _
    unfold zqy at h
    split at h
    ·rename_i e1 e2
     obtain⟨_,_,g',_,rfl⟩:=h
     refine⟨fun j hj=>zes hw x ?_,rfl⟩
     rw[e2]
     simpa[AV.refs,zcK] using hj
    ·exact h.elim
   ·exact h.elim
  ·exact h.elim
 ·exact h.elim
theorem zuV{P:Program}{n:Nat}{ops:Array Oper}{o:Oper}{s s':St}(hw:Wf s)(h:znc n ops o (fun s r=>zeV P s o.op r) (fun s e r=>zkg P s e o.op r) s s'):Wf s':=by
 obtain⟨d,r,_,_,_,rfl,h⟩:=h
 refine za3 hw (fun j hj=>?_)
 split at h
 ·exact(zfL hw h).1 j hj
 ·obtain⟨e,_,h⟩:=h
  unfold zkg at h
  split at h
  ·obtain⟨r0,h1,rfl⟩:=h
   exact(zfL hw h1).1 j hj
  ·subst h;cases hj
theorem zoG{P:Program}{n:Nat}{fl:List Nat}{ops:Array Oper}{o:Oper}{k:Nat}{s s':St}(hw:Wf s)(h:zmD P n fl ops o k s s'):Wf s':=by
 have ha:aop P n ops o s (fun t=>t=s')→Wf s':=by
  intro h
  obtain⟨s1,_,h2,h3⟩:=zgP hw h
  rw[←h2];exact h3
 unfold zmD at h
 split at h
 ·exact ha h
 ·exact zjQ hw h
 ·exact ha (zmF h)
 ·exact ha (zp2 h)
 ·exact zjQ hw h.1
 ·exact zjQ hw h.1
 ·exact zjQ hw h.1
 ·exact ha (zmF h)
 ·exact zuV hw h
section
variable {P:Program}{S0:Env}{w0 w:World}{n:Nat}{s:St}{a:Act}{ops:Array Oper}{fl:List Nat}
theorem ze6{K:St→Prop}:∀(l:List Oper) (fr:List Nat) (k:Nat) (s:St),Wf s→(∀j o,l[j]?=some o→ops[k+j]?=some o)→(∀j,fr[j]?=fl[k+j]?)→zbJ P n fl ops fr l s K →
  ∃s',chain (stepW P n fl ops) (List.range' k l.length) s s'∧K s'
 |[],_,_,s,_,_,_,h=>⟨s,rfl,by simpa[zbJ] using h⟩
 |o::l,fr,k,s,hw,hl,hf,h=>by
  have h0:ops[k]?=some o:=by simpa using hl 0 o rfl
  have hnext:∀j o,l[j]?=some o→ops[(k+1)+j]?=some o:=fun j o ho=>by have:=hl (j+1) o (by simpa using ho);simpa[Nat.add_assoc,Nat.add_comm 1 j] using this
  have fnext:∀j,fr.tail[j]?=fl[(k+1)+j]?:=fun j=>by have:=hf (j+1);simpa[Nat.add_assoc,Nat.add_comm 1 j] using this
  have fhead:fr.headD 0=fl.getD k 0:=by
   have:=hf 0
   rw[Nat.add_zero] at this
   rw[List.getD_eq_getElem?_getD,←this]
   cases fr<;>rfl
  simp only[zbJ,fhead] at h
  have:∃s1,zmD P n fl ops o (fl.getD k 0) s s1∧zbJ P n fl ops fr.tail l s1 K:=by
   generalize fl.getD k 0=m at h
   match m,h with
   |0,h=>obtain⟨s1,h1,h2,_⟩:=zgP hw h;exact⟨s1,h1,h2⟩
   |1,h=>obtain⟨s1,h1,h2⟩:=zfn h;exact⟨s1,h1,h2⟩
   |2,h=>obtain⟨s1,h1,h2⟩:=zjs h;exact⟨s1,h1,h2⟩
   |3,h=>obtain⟨s1,h1,h2⟩:=zjs h;exact⟨s1,h1,h2⟩
   |4,h=>obtain⟨s1,h1,h2⟩:=zjv h.1 h.2.1 h.2.2;exact⟨s1,h1,h2⟩
   |5,h=>obtain⟨s1,h1,h2⟩:=zA2 h.1 h.2;exact⟨s1,h1,h2⟩
   |6,h=>obtain⟨s1,h1,h2⟩:=zfn h.2.2;exact⟨s1,⟨h1,h.2.1,h.1⟩,h2⟩
   |7,h=>obtain⟨s1,h1,h2⟩:=zfn h.2;exact⟨s1,⟨h1,h.1⟩,h2⟩
   |8,h=>obtain⟨s1,h1,h2⟩:=zfn h.2;exact⟨s1,⟨h1,h.1⟩,h2⟩
   |9,h=>obtain⟨s1,h1,h2⟩:=zjv h.1 h.2.1 h.2.2;exact⟨s1,h1,h2⟩
   |m+10,h=>obtain⟨s1,h1,h2⟩:=zjs h;exact⟨s1,h1,h2⟩
  obtain⟨s1,h1,h2⟩:=this
  obtain⟨s',h3,h4⟩:=ze6 l fr.tail (k+1) s1 (zoG hw h1) hnext fnext h2
  exact⟨s',⟨s1,⟨o,h0,h1⟩,h3⟩,h4⟩
def zst(k:Nat):Bool:=k==1 || k==2 || k==6 || k==7 || k==8
def zAX(ki kj:Nat):Bool:=(zst ki&&zst kj) || ((ki==4 || ki==5)&&kj==6) || ((kj==4 || kj==5)&&ki==6) || (ki==4&&kj==7) || (kj==4&&ki==7) || (ki==4&&kj==8) || (kj==4&&ki==8) || (ki==9&&(kj==6 || kj==7)) || (kj==9&&(ki==6 || ki==7))
def zld(fl:List Nat)(ops:Array Oper)(b:Array Nat)(i j:Nat):Bool:=
 (b.getD i 0).testBit j || (zAX (fl.getD i 0) (fl.getD j 0) &&
 match ops[i]?,ops[j]? with
 |some oi,some oj=>oj.apart ops oi
 |_,_=>false)
def zfb(fl:List Nat)(ops:Array Oper):Bool:=
 let b:=Region.before ops
 ops.toList.all zql&&(List.range ops.size).all fun i =>
  (match ops[i]? with
   |some o=>o.after.toList.all fun e=>!Region.binds .any e || decide (e.on<i)
   |none=>false) &&
  (List.range i).all fun j=>zld fl ops b i j
theorem zef{i:Nat}(h:fl.getD i 0=6∨fl.getD i 0=7∨fl.getD i 0=8):(copies fl)[i]?=some true:=by
 rw[List.getD_eq_getElem?_getD] at h
 unfold copies
 rw[List.getElem?_map]
 cases e:fl[i]? with
 |none=>rw[e] at h;rcases h with h | h | h<;>cases h
 |some k=>rw[e] at h;simp at h;rcases h with h | h | h<;>simp[h]
theorem zme{i:Nat}(h:fl.getD i 0=6∨fl.getD i 0=7):(zfN fl)[i]?=some true:=by
 rw[List.getD_eq_getElem?_getD] at h
 unfold zfN
 rw[List.getElem?_map]
 cases e:fl[i]? with
 |none=>rw[e] at h;rcases h with h | h<;>cases h
 |some k=>rw[e] at h;simp at h;rcases h with h | h<;>simp[h]
theorem zoa{i j:Nat}{oi oj:Oper}{s s1 s2:St}(hi:ops[i]?=some oi)(hj:ops[j]?=some oj)(hm:zAX (fl.getD i 0) (fl.getD j 0)=true)(lwi:∀d,oi.dst=some d→d<MARK)(lwj:∀d,oj.dst=some d→d<MARK)(hap:oj.apart ops oi=true)(hw:Wf s)
  (h1:zmD P n fl ops oj (fl.getD j 0) s s1)(h2:zmD P n fl ops oi (fl.getD i 0) s1 s2):∃s1',zmD P n fl ops oi (fl.getD i 0) s s1'∧zmD P n fl ops oj (fl.getD j 0) s1' s2:=by
 obtain⟨a1,a2,a3⟩:=Oper.apart_spec hap
 have b3:∀d,oi.dst=some d→oj.dst≠some d:=fun d h h'=>a2 d h' h
 have key:∀{k:Nat},k=4∨k=5∨zst k=true→True:=fun _=>trivial
 unfold zAX at hm
 rw[Bool.or_eq_true,Bool.or_eq_true,Bool.or_eq_true,Bool.or_eq_true,Bool.or_eq_true,Bool.or_eq_true,Bool.or_eq_true,Bool.or_eq_true] at hm
 rcases hm with (((((((hm | hm) | hm) | hm) | hm) | hm) | hm) | hm) | hm
 ·rw[Bool.and_eq_true] at hm
  obtain⟨ci,cj⟩:=hm
  have look:∀{m:Nat} {o:Oper} {k:Nat},ops[m]?=some o→zst k=true→∃V VG,okV P o V VG∧(∀t t',zmD P n fl ops o k t t'→znc n ops o V VG t t'∧((k=6∨k=7→zbZ P t o.op)∧(k=6→zqf o=true)∧(k=8→zjn t o)))∧(∀t t',znc n ops o V VG t t'→((k=6∨k=7→zbZ P t o.op)∧(k=6→zqf o=true)∧(k=8→zjn t o))→zmD P n fl ops o k t t'):=by
   intro m o k _ hk
   unfold zst at hk
   simp only[Bool.or_eq_true,beq_iff_eq] at hk
   rcases hk with (((rfl | rfl) | rfl) | rfl) | rfl
   ·exact⟨_,_,zkT P o,fun t t' h=>⟨h,(fun h=>by rcases h with h | h<;>cases h),(fun h=>by cases h),(fun h=>by cases h)⟩,fun t t' h _=>h⟩
   ·exact⟨_,_,zyE P o,fun t t' h=>⟨h,(fun h=>by rcases h with h | h<;>cases h),(fun h=>by cases h),(fun h=>by cases h)⟩,fun t t' h _=>h⟩
   ·exact⟨_,_,zkT P o,fun t t' h=>⟨h.1,fun _=>h.2.1,fun _=>h.2.2,(fun h=>by cases h)⟩,fun t t' h hb=>⟨h,hb.1 (.inl rfl),hb.2.1 rfl⟩⟩
   ·exact⟨_,_,zkT P o,fun t t' h=>⟨h.1,(fun _=>h.2),(fun h=>by cases h),(fun h=>by cases h)⟩,fun t t' h hb=>⟨h,hb.1 (.inr rfl)⟩⟩
   ·exact⟨_,_,zkT P o,fun t t' h=>⟨h.1,(fun h=>by rcases h with h | h<;>cases h),(fun h=>by cases h),fun _=>h.2⟩,fun t t' h hb=>⟨h,hb.2.2 rfl⟩⟩
  obtain⟨Vi,VGi,oki,ei,ei'⟩:=look hi ci
  obtain⟨Vj,VGj,okj,ej,ej'⟩:=look hj cj
  obtain⟨g1,p1⟩:=ej _ _ h1
  obtain⟨g2,p2⟩:=ei _ _ h2
  obtain⟨s1',k1,k2⟩:=zOa okj oki lwj lwi hap hw g1 g2
  have ag:∀{t t':St} {o o':Oper} {V:St→AV→Prop} {VG:St→Bool→AV→Prop},Wf t→znc n ops o V VG t t'→(∀d,o.dst=some d→d∉o'.looksAt ops)→∀x∈o'.op.operands,zaA t t' x:=by
   rintro t t' o o' V VG hwt ⟨d,r,hd,hdn,hno,rfl,_⟩ ha x hx
   exact zbj (r:=r) hwt hno (za8 o' d (ha d hd) x hx)
  have mv:∀{t t':St} {o:Oper},(∀x∈o.op.operands,zaA t t' x)→(zjn t o↔zjn t' o):=by
   intro t t' o h
   constructor
   ·rintro⟨k,e,z,xs,h1,h2,h3⟩
    exact⟨k,e,z,xs,h1,h2,by rw[(h (.tmp k) (by rw[h1];simp[Op.operands])).1];exact h3⟩
   ·rintro⟨k,e,z,xs,h1,h2,h3⟩
    exact⟨k,e,z,xs,h1,h2,by rw[←(h (.tmp k) (by rw[h1];simp[Op.operands])).1];exact h3⟩
  exact⟨s1',ei' _ _ k1 ⟨fun h=>(zcU (ag hw g1 a1)).1 (p2.1 h),p2.2.1,fun h=>(mv (ag hw g1 a1)).2 (p2.2.2 h)⟩,ej' _ _ k2 ⟨fun h=>(zcU (ag hw k1 a3)).2 (p1.1 h),p1.2.1,fun h=>(mv (ag hw k1 a3)).1 (p1.2.2 h)⟩⟩
 ·simp only[Bool.and_eq_true,Bool.or_eq_true,beq_iff_eq] at hm
  obtain⟨hi4,hj6⟩:=hm
  have hf:=zef (.inl hj6)
  rw[hj6] at h1 ⊢
  obtain⟨c1,c2,c3⟩:=h1
  rcases hi4 with hi4 | hi4<;>rw[hi4] at h2 ⊢
  ·obtain⟨s1',k1,k2,k3⟩:=ziv hw hj hf a1 a3 a2 c1 c2 h2
   exact⟨s1',k1,k2,k3,c3⟩
  ·obtain⟨s1',k1,k2⟩:=zF8 hw lwj a1 ⟨c1,c2,c3⟩ h2
   exact⟨s1',k1,k2⟩
 ·simp only[Bool.and_eq_true,Bool.or_eq_true,beq_iff_eq] at hm
  obtain⟨hj4,hi6⟩:=hm
  have hf:=zef (.inl hi6)
  rw[hi6] at h2 ⊢
  obtain⟨c1,c2,c3⟩:=h2
  rcases hj4 with hj4 | hj4<;>rw[hj4] at h1 ⊢
  ·obtain⟨s1',k1,k2,k3⟩:=zix hw hi hf a3 a1 b3 h1 c1 c2
   exact⟨s1',⟨k1,k2,c3⟩,k3⟩
  ·obtain⟨s1',k1,k2⟩:=zGt hw lwi a3 h1 ⟨c1,c2,c3⟩
   exact⟨s1',k1,k2⟩
 ·simp only[Bool.and_eq_true,beq_iff_eq] at hm
  obtain⟨hi4,hj7⟩:=hm
  have hf:=zef (.inr (.inl hj7))
  rw[hj7] at h1 ⊢
  rw[hi4] at h2 ⊢
  obtain⟨c1,c2⟩:=h1
  obtain⟨s1',k1,k2,k3⟩:=ziv hw hj hf a1 a3 a2 c1 c2 h2
  exact⟨s1',k1,k2,k3⟩
 ·simp only[Bool.and_eq_true,beq_iff_eq] at hm
  obtain⟨hj4,hi7⟩:=hm
  have hf:=zef (.inr (.inl hi7))
  rw[hi7] at h2 ⊢
  rw[hj4] at h1 ⊢
  obtain⟨c1,c2⟩:=h2
  obtain⟨s1',k1,k2,k3⟩:=zix hw hi hf a3 a1 b3 h1 c1 c2
  exact⟨s1',⟨k1,k2⟩,k3⟩
 ·simp only[Bool.and_eq_true,beq_iff_eq] at hm
  obtain⟨hi4,hj8⟩:=hm
  have hf:=zef (.inr (.inr hj8))
  rw[hj8] at h1 ⊢
  rw[hi4] at h2 ⊢
  obtain⟨c1,c2⟩:=h1
  obtain⟨s1',k1,k2,k3⟩:=zHn hw hj hf a1 a3 a2 c1 c2 h2
  exact⟨s1',k1,k2,k3⟩
 ·simp only[Bool.and_eq_true,beq_iff_eq] at hm
  obtain⟨hj4,hi8⟩:=hm
  have hf:=zef (.inr (.inr hi8))
  rw[hi8] at h2 ⊢
  rw[hj4] at h1 ⊢
  obtain⟨c1,c2⟩:=h2
  obtain⟨s1',k1,k2,k3⟩:=zGJ hw hi hf a3 a1 b3 h1 c1 c2
  exact⟨s1',⟨k1,k2⟩,k3⟩
 ·simp only[Bool.and_eq_true,Bool.or_eq_true,beq_iff_eq] at hm
  obtain⟨hi9,hj'⟩:=hm
  have hf:=zme hj'
  rw[hi9] at h2 ⊢
  rcases hj' with hj' | hj'<;>rw[hj'] at h1 ⊢
  ·obtain⟨c1,c2,c3⟩:=h1
   obtain⟨s1',k1,k2,k3⟩:=ziv hw hj hf a1 a3 a2 c1 c2 h2
   exact⟨s1',k1,k2,k3,c3⟩
  ·obtain⟨c1,c2⟩:=h1
   obtain⟨s1',k1,k2,k3⟩:=ziv hw hj hf a1 a3 a2 c1 c2 h2
   exact⟨s1',k1,k2,k3⟩
 ·simp only[Bool.and_eq_true,Bool.or_eq_true,beq_iff_eq] at hm
  obtain⟨hj9,hi'⟩:=hm
  have hf:=zme hi'
  rw[hj9] at h1 ⊢
  rcases hi' with hi' | hi'<;>rw[hi'] at h2 ⊢
  ·obtain⟨c1,c2,c3⟩:=h2
   obtain⟨s1',k1,k2,k3⟩:=zix hw hi hf a3 a1 b3 h1 c1 c2
   exact⟨s1',⟨k1,k2,c3⟩,k3⟩
  ·obtain⟨c1,c2⟩:=h2
   obtain⟨s1',k1,k2,k3⟩:=zix hw hi hf a3 a1 b3 h1 c1 c2
   exact⟨s1',⟨k1,k2⟩,k3⟩
theorem zpq{s:St}{K:St→Prop}(hok:zfb fl ops=true)(hw:Wf s)(h:zbJ P n fl ops fl ops.toList s K):zzp ops (stepW P n fl ops) K ops.size (Array.replicate ops.size false) s:=by
 obtain⟨s',hch,hk⟩:=ze6 (fl:=fl) ops.toList fl 0 s hw (fun j o ho=>by simpa using ho) (fun j=>by simp) h
 have hlow:∀{i:Nat} {o:Oper},ops[i]?=some o→∀d,o.dst=some d→d<MARK:=by
  intro i o ho
  have h:=hok
  simp only[zfb,Bool.and_eq_true] at h
  exact zfD (List.all_eq_true.1 h.1 o (by have:=Array.mem_of_getElem? ho;simpa using this))
 have hok':=hok
 simp only[zfb,Bool.and_eq_true] at hok'
 replace hok':=hok'.2
 have hdr:∀i,i<ops.size→((match ops[i]? with
   |some o=>o.after.toList.all fun e=>!Region.binds .any e || decide (e.on<i)
   |none=>false)=true∧∀j,j<i→zld fl ops (Region.before ops) i j=true):=by
  intro i hi
  have:=List.all_eq_true.1 hok' i (by simp[hi])
  simp only[Bool.and_eq_true,List.all_eq_true,List.mem_range] at this
  exact⟨this.1,fun j hj=>this.2 j hj⟩
 refine ziU (wf:=Wf) (indep:=fun j i=>∃oi oj,ops[i]?=some oi∧ops[j]?=some oj∧zAX (fl.getD i 0) (fl.getD j 0)=true∧oj.apart ops oi=true)
  (fun i s s' hw h=>by obtain⟨o,_,h⟩:=h;exact zoG hw h) ?_ ?_ ?_ hk ops.size (List.range' 0 ops.toList.length) _ s (by simp) (by simp) ?_ ?_ ?_ hw hch
 ·rintro j i s s1 s2 ⟨oi,oj,hoi,hoj,fm,hap⟩ hw ⟨o1,ho1,h1⟩ ⟨o2,ho2,h2⟩
  rw[hoj] at ho1;injection ho1 with ho1;subst ho1
  rw[hoi] at ho2;injection ho2 with ho2;subst ho2
  obtain⟨s1',k1,k2⟩:=zoa hoi hoj fm (hlow hoi) (hlow hoj) hap hw h1 h2
  exact⟨s1',⟨oi,hoi,k1⟩,⟨oj,hoj,k2⟩⟩
 ·intro i o ho e he hb
  have:=(hdr i (Array.getElem?_eq_some_iff.1 ho).1).1
  rw[ho] at this
  have:=List.all_eq_true.1 this e (by simpa using he)
  simpa[hb] using this
 ·intro j i hji hi
  have:=(hdr i hi).2 j hji
  unfold zld at this
  rw[Bool.or_eq_true] at this
  rcases this with h | h
  ·exact .inl (zeF ops i j h)
  ·rw[Bool.and_eq_true] at h
   obtain⟨f1,h⟩:=h
   split at h
   ·rename_i oi oj hoi hoj
    exact .inr ⟨oi,oj,hoi,hoj,f1,h⟩
   ·cases h
 ·intro i o ho hl
  have hlt:=(Array.getElem?_eq_some_iff.1 ho).1
  simp[hlt] at hl
 ·exact List.pairwise_lt_range'
 ·intro i
  simp only[List.mem_range'_1,Array.length_toList,Nat.zero_add,Nat.zero_le,true_and]
  constructor
  ·intro hi;exact⟨hi,by simp[hi]⟩
  ·intro hi;exact hi.1
theorem zpK(hR:Rel S0 w0 n s a w)(o:Oper){d:Nat}{r:AV}(hdst:o.dst=some d)(hd:S0.m≤d∧d<n)(h:zeV P s o.op r){K':Act→World→Prop}{Q:Exit→Act→World→Prop}
  (hK:∀a' w',Rel S0 w0 n (Ab.put s d r) a' w'→K' a' w'):o.wp P a w K' Q:=by
 obtain⟨dst,op,type,pos,after,guard⟩:=o
 dsimp only at h hdst
 subst hdst
 have hrf:=(zfL hR.wf h).1
 unfold zeV at h
 split at h
 ·rename_i c
  obtain⟨callee,⟨args⟩,ts⟩:=c
  dsimp only at h
  split at h
  ·rename_i f
   split at h
   ·rename_i x
    unfold zqy at h
    split at h
    ·rename_i g q i off e1 e2
     obtain⟨hp,hq,g',⟨⟨fn,hfn,hname,hbody⟩,hm⟩,rfl⟩:=h
     have hf:=hR.sv f hp
     obtain⟨us,hfv,hus⟩:=zmC hf e1
     obtain rfl:us=#[]:=Array.eq_empty_of_size_eq_zero (by simpa using hus.1)
     have hx:=hR.sv x (by rw[e2];exact hq)
     rw[e2] at hx
     obtain⟨b,hv,hb⟩:=hx
     have hrun:(execOp a.eval ({ dst:=some d,op:=.call { callee:=.value f,args:=⟨[x]⟩,argTypes:=ts },type:=type,pos:=pos,after:=after,guard:=guard }:Oper)).run P w=.ok (.enter g #[a.eval x]) w:=by
      simp only[execOp,resolve,hfv,Deferred.ofValue,Sem.run_bind,Sem.run_pure,Result.andThen_ok,invoke,callFunc,run_program,hfn,hname,hbody,Bool.false_eq_true,if_false]
      simp
     unfold Oper.wp
     rw[hrun]
     simp only[Oper.upon]
     refine(hm w (a.eval x) (by rw[hv];rfl) (hR.lt.zJY hR.below)).mono ?_
     rintro e w' ⟨b',t,rfl,h1,h2,h3⟩
     refine hK _ _ (hR.put hd (zcx h3) hrf ?_ (fun c hc=>by cases hc) (fun c hc=>by cases hc))
     refine⟨_,rfl,rfl,fun j c hj=>?_⟩
     cases j with
     |succ j=>simp at hj
     |zero =>
      simp at hj
      subst hj
      refine⟨_,rfl,?_⟩
      rw[zbF,if_neg (by simp),Nat.add_sub_cancel]
      refine⟨b',b,rfl,⟨.inr (.inl (Nat.le_trans hR.below.size h1)),(Array.getElem?_eq_some_iff.1 h2).1,fun k hk=>?_⟩,?_,hb⟩
      ·have:=((hR.rep k).zbk hk).2;omega
      ·rw[cell_of_row _ b' 0 _ t (0,0) h2,hv];rfl
    ·exact h.elim
   ·exact h.elim
  ·exact h.elim
 ·exact h.elim
theorem zpf(hR:Rel S0 w0 n s a w)(o:Oper)(hom:∀d,o.dst=some d→S0.m≤d){s':St}(h:zaF P n ops o s s'){K':Act→World→Prop}{Q:Exit→Act→World→Prop}
  (hK:∀a' w',Rel S0 w0 n s' a' w'→K' a' w'):if Region.wanted o (yielded ops a.tmps) then o.wp P a w K' Q∨(o.asks P a w∧LetsOut Q) else K' (a.put o.dst undef) w:=by
 obtain⟨d,r,hdst,hd,_,rfl,hv⟩:=h
 cases hg:o.guard with
 |none =>
  rw[hg] at hv
  rw[if_pos (by simp[Region.wanted,hg])]
  exact .inl (zsQ (P:=P) hR o hdst ⟨hom d hdst,hd⟩ hv hK)
 |some g =>
  rw[hg] at hv
  obtain⟨e,he,hv⟩:=hv
  have hw:Region.wanted o (yielded ops a.tmps)=e:=by
   simp only[Region.wanted,hg]
   exact zh2 hR he
  have:=zqq (P:=P) (Q:=Q) hR o hdst ⟨hom d hdst,hd⟩ hv hK
  rw[hw]
  cases e with
  |true=>exact .inl this
  |false=>exact this
theorem zsS{i:Nat}{s':St}(hdm:∀o∈ops.toList,∀d,o.dst=some d→S0.m≤d)(hR:Rel S0 w0 n s a w)(h:stepW P n fl ops i s s'){K':Act→World→Prop}{Q:Exit→Act→World→Prop}
  (hK:∀a' w',Rel S0 w0 n s' a' w'→K' a' w'):wpOp P ops Q i K' a w:=by
 obtain⟨o,ho,h⟩:=h
 have hom:=hdm o (by have:=Array.mem_of_getElem? ho;simpa using this)
 unfold wpOp
 rw[ho]
 simp only
 have ha:aop P n ops o s (fun t=>t=s')→if Region.wanted o (yielded ops a.tmps) then o.wp P a w K' Q∨(o.asks P a w∧LetsOut Q) else K' (a.put o.dst undef) w:=by
  intro h
  unfold aop at h
  cases hg:o.guard with
  |none =>
   rw[hg] at h
   rw[if_pos (by simp[Region.wanted,hg])]
   exact .inl (zeX (P:=P) hR o hom h (fun s1 a' w' hR' hs=>by subst hs;exact hK a' w' hR'))
  |some g =>
   rw[hg] at h
   simp only at h
   cases he:zcG ops s g with
   |none=>rw[he] at h;exact h.elim
   |some e =>
    rw[he] at h
    simp only at h
    have hw:Region.wanted o (yielded ops a.tmps)=e:=by
     simp only[Region.wanted,hg]
     exact zh2 hR he
    have:=zk8 (P:=P) (Q:=Q) hR o hom h (fun s1 a' w' hR' hs=>by subst hs;exact hK a' w' hR')
    rw[hw]
    cases e with
    |true=>exact .inl this
    |false=>exact this
 unfold zmD at h
 split at h
 ·exact ha h
 ·exact zpf hR o hom h hK
 ·exact ha (zmF h)
 ·exact ha (zp2 h)
 ·exact zpf hR o hom h.1 hK
 ·exact zpf hR o hom h.1 hK
 ·exact zpf hR o hom h.1 hK
 ·exact ha (zmF h)
 ·obtain⟨d,r,hdst,hd,hno,rfl,hv⟩:=h
  cases hg:o.guard with
  |none =>
   rw[hg] at hv
   rw[if_pos (by simp[Region.wanted,hg])]
   exact .inl (zpK (P:=P) hR o hdst ⟨hom d hdst,hd⟩ hv hK)
  |some g =>
   rw[hg] at hv
   obtain⟨e,he,hv⟩:=hv
   have hw:Region.wanted o (yielded ops a.tmps)=e:=by
    simp only[Region.wanted,hg]
    exact zh2 hR he
   rw[hw]
   cases e with
   |false =>
    have hv':r=.cond false (.x (.one (.bool false))):=hv
    subst hv'
    simp only[Bool.false_eq_true,if_false]
    rw[hdst]
    exact hK _ _ (zgI (r:=.x (.one (.bool false))) hR ⟨hom d hdst,hd⟩ rfl (fun j hj=>by cases hj))
   |true =>
    obtain⟨r0,hv,rfl⟩:=hv
    refine .inl (zpK (P:=P) hR o hdst ⟨hom d hdst,hd⟩ hv (fun a' w' hR'=>?_))
    obtain⟨hrf,hr0⟩:=zfL hR.wf hv
    have hno':∀j,r0.refs j=true→j≠d:=by
     rintro j hj rfl
     have:=hrf j hj
     rw[hno] at this;cases this
    have hrd:r0.refs d=false:=by
     cases h:r0.refs d with
     |false=>rfl
     |true=>exact absurd rfl (hno' d h)
    have e1:Ab.put s d (.cond true r0)=fun k=>if k=d then .cond true (Ab.put s d r0 d) else Ab.put s d r0 k:=by
     funext k
     by_cases hk:k=d
     ·subst hk
      rw[if_pos rfl,zbb hrd,zbb (show (AV.cond true r0).refs k=false from hrd)]
     ·rw[if_neg hk]
      unfold Ab.put
      cases (s d).zaa<;>simp[hk]
    refine hK _ _ ?_
    rw[e1]
    exact(hR'.zxo hd (by rw[zbb hrd];exact hr0) (fun i=>rfl))
theorem zvY(hdm:∀o∈ops.toList,∀d,o.dst=some d→S0.m≤d){fin:St→Prop}{Q:Exit→Act→World→Prop}(hQ:∀s' a' w',Rel S0 w0 n s' a' w'→fin s'→Q .normal a' w') :
  ∀(fuel:Nat) (listed:Array Bool) (s:St) (a:Act) (w:World),Rel S0 w0 n s a w→zzp ops (stepW P n fl ops) fin fuel listed s→wpAny P .any ops Q fuel listed a w
 |0,_,s,a,w,hR,h=>⟨h.1,hQ s a w hR h.2⟩
 |fuel+1,listed,s,a,w,hR,h=>⟨fun h0=>hQ s a w hR (h.1 h0),fun i hi=>by
   obtain⟨s',h1,h2⟩:=h.2 i hi
   exact zsS hdm hR h1 (fun a' w' hR'=>zvY hdm hQ fuel _ s' a' w' hR' h2)⟩
theorem zmd{id:Nat}{Q:Exit→Act→World→Prop}{K:St→Prop}(hm:P.follows .mixedOrders=true)(hok:zfb fl ops=true)(hdm:∀o∈ops.toList,∀d,o.dst=some d→S0.m≤d)
  (hR:Rel S0 w0 n s a w)(h:zbJ P n fl ops fl ops.toList s K)(hQ:∀s' a' w',Rel S0 w0 n s' a' w'→K s'→Q .normal a' w'):(Code.region id ops true).wp P Q a w:=
 wp_region_any hm (zvY hdm hQ _ _ s a _ hR.drawn (zpq hok hR.wf h))
end
end Go.Ab
namespace Go.Ab
open Go Go.RowKit
variable [Amb]
section
variable {P:Program}{S0:Env}{w0 w:World}{n:Nat}{s:St}{a:Act}{ops:Array Oper}{fl:List Nat}
theorem zsP{l2:List Oper}{Q':Exit→Act→World→Prop}{K:St→Prop}:∀(l:List Oper) (s:St) (a:Act) (w:World),(∀o∈l,∀d,o.dst=some d→S0.m≤d)→Rel S0 w0 n s a w→zaS P n ops l s K →
  (∀s' a' w',Rel S0 w0 n s' a' w'→K s'→wpList P ops Q' l2 a' w')→wpList P ops Q' (l++l2) a w:=by
 intro l
 induction l with
 |nil=>intro s a w _ hR h hQ;exact hQ s a w hR h
 |cons o l ih =>
  intro s a w hl hR h hQ
  have hl':∀o∈l,∀d,o.dst=some d→S0.m≤d:=fun o ho=>hl o (List.mem_cons_of_mem _ ho)
  have ho:=hl o List.mem_cons_self
  simp only[zaS,aop] at h
  rw[List.cons_append]
  unfold wpList
  cases hg:o.guard with
  |none =>
   rw[hg] at h
   have hw:Region.wanted o (yielded ops a.tmps)=true:=by simp[Region.wanted,hg]
   rw[if_pos hw]
   exact .inl (zeX (P:=P) hR o ho h (fun s' a' w' hR' hk=>ih s' a' w' hl' hR' hk hQ))
  |some g =>
   rw[hg] at h
   simp only at h
   cases hv:zcG ops s g with
   |none=>rw[hv] at h;exact h.elim
   |some e =>
    rw[hv] at h
    have hw:Region.wanted o (yielded ops a.tmps)=e:=by
     simp only[Region.wanted,hg]
     exact zh2 hR hv
    have:=zk8 (P:=P) (Q:=Q') hR o ho h (fun s' a' w' hR' hk=>ih s' a' w' hl' hR' hk hQ)
    rw[hw]
    cases e with
    |true=>exact .inl this
    |false=>exact this
def zUC(P:Program)(n:Nat)(ops:Array Oper)(o:Oper)(s:St)(K:St→Prop):Prop:=
 o.guard=none∧∃j g e z xs,s j=.own e z xs∧n≤g∧(s g).free=true∧∀v,aop P n ops o (zf6 s j g v e z xs) K
def znW(P:Program)(n:Nat)(ops:Array Oper)(o:Oper)(s:St)(K:St→Prop):Prop:=match o.op with
 |.call _=>zPT P n o s K
 |_=>zUC P n ops o s K
theorem zkj{o:Oper}{K:St→Prop}(h:znW P n ops o s K):o.guard=none:=by
 unfold znW at h
 split at h
 ·exact h.1
 ·exact h.1
theorem zpS(hR:Rel S0 w0 n s a w)(o:Oper)(hdm:∀d,o.dst=some d→S0.m≤d){K:St→Prop}(h:znW P n ops o s K){K':Act→World→Prop}{Q:Exit→Act→World→Prop}
  (hK:∀s' a' w',Rel S0 w0 n s' a' w'→K s'→K' a' w'):o.wp P a w K' Q:=by
 unfold znW at h
 split at h
 ·exact zzw hR o hdm h hK
 ·obtain⟨hg,j,g,e,z,xs,hj,hn,hf,h⟩:=h
  have h:=h (zai a j)
  unfold aop at h
  rw[hg] at h
  exact zeX (P:=P) (hR.name hj hn hf) o hdm h hK
def zlD:List Oper→Option Oper
 |[]=>none
 |[o]=>some o
 |_::r=>zlD r
def ztI(P:Program)(n:Nat)(ops:Array Oper)(s:St)(K:St→Prop):Option Oper→Prop
 |some o=>znW P n ops o s K
 |none=>False
theorem zjL:∀{l:List Oper} {o:Oper},zlD l=some o→l=l.dropLast++[o]
 |[],o,h=>by cases h
 |[x],o,h=>by simp only[zlD,Option.some.injEq] at h;subst h;rfl
 |x::y::r,o,h=>by
  have:=zjL (l:=y::r) (o:=o) h
  rw[List.dropLast_cons_cons,List.cons_append,←this]
theorem zuh{Q':Exit→Act→World→Prop}{K:St→Prop}(hdm:∀o∈ops.toList,∀d,o.dst=some d→S0.m≤d)(hR:Rel S0 w0 n s a w)
  (h:zaS P n ops ops.toList.dropLast s (fun s1=>ztI P n ops s1 K (zlD ops.toList)))(hQ:∀s' a' w',Rel S0 w0 n s' a' w'→K s'→Q' .normal a' w'):wpList P ops Q' ops.toList a w:=by
 cases hl:zlD ops.toList with
 |none =>
  rw[hl] at h
  have hnil:ops.toList=[]:=by
   cases ht:ops.toList with
   |nil=>rfl
   |cons x r =>
    exfalso
    rw[ht] at hl
    clear h ht
    induction r generalizing x with
    |nil=>cases hl
    |cons y r ih=>exact ih y hl
  rw[hnil] at h
  exact h.elim
 |some o =>
  have hsp:=zjL hl
  rw[hl] at h
  rw[hsp]
  refine zsP _ s a w (fun o ho d hd=>hdm o (by rw[hsp];exact List.mem_append_left _ ho) d hd) hR h (fun s1 a1 w1 hR1 hg=>?_)
  unfold wpList
  have hw:Region.wanted o (yielded ops a1.tmps)=true:=by simp[Region.wanted,zkj hg]
  rw[if_pos hw]
  refine .inl (zpS hR1 o (hdm o (by rw[hsp];simp)) hg (fun s' a' w' hR' hk=>?_))
  exact hQ s' a' w' hR' hk
def stepG(P:Program)(n:Nat)(fl:List Nat)(ops:Array Oper)(K:St→Prop)(i:Nat)(x y:Bool×St):Prop:=
 x.1=false∧((i+1=ops.size∧y.1=true∧y.2=x.2∧∃o,ops[i]?=some o∧znW P n ops o x.2 K)∨(i+1<ops.size∧y.1=false∧stepW P n fl ops i x.2 y.2))
theorem znE{K:St→Prop}:∀(l:List Nat) (s s':St),(∀i∈l,i+1<ops.size)→chain (stepW P n fl ops) l s s'→∀(r:List Nat) (y:Bool×St),chain (stepG P n fl ops K) r (false,s') y→chain (stepG P n fl ops K) (l++r) (false,s) y
 |[],s,s',_,h,r,y,hr=>by
  have:s=s':=h
  subst this;exact hr
 |i::l,s,s',hi,⟨s1,h1,h2⟩,r,y,hr=>⟨(false,s1),⟨rfl,.inr ⟨hi i (by simp),rfl,h1⟩⟩,znE l s1 s' (fun j hj=>hi j (by simp[hj])) h2 r y hr⟩
theorem zv6{K:St→Prop}(hok:zfb fl ops=true)(hlast:fl.getD (ops.size-1) 0=0)(hw:Wf s)(h:zbJ P n fl ops fl ops.toList.dropLast s (fun s1=>ztI P n ops s1 K (zlD ops.toList))) :
  zzp ops (stepG P n fl ops K) (fun x=>x.1=true) ops.size (Array.replicate ops.size false) (false,s):=by
 obtain⟨s',hch,hk⟩:=ze6 (fl:=fl) ops.toList.dropLast fl 0 s hw (fun j o ho=>by
  rw[List.getElem?_dropLast] at ho
  split at ho
  ·simpa using ho
  ·cases ho) (fun j=>by simp) h
 cases hl:zlD ops.toList with
 |none=>rw[hl] at hk;exact hk.elim
 |some o =>
 rw[hl] at hk
 have hsp:=zjL hl
 have hsize:ops.size=ops.toList.dropLast.length+1:=by
  have:=congrArg List.length hsp
  simpa using this
 have holast:ops[ops.size-1]?=some o:=by
  have:ops.toList[ops.size-1]?=some o:=by
   rw[hsp,List.getElem?_append_right (by omega),show ops.size-1-ops.toList.dropLast.length=0 by omega]
   rfl
  simpa using this
 have hlow:∀{i:Nat} {o:Oper},ops[i]?=some o→∀d,o.dst=some d→d<MARK:=by
  intro i o ho
  have h:=hok
  simp only[zfb,Bool.and_eq_true] at h
  exact zfD (List.all_eq_true.1 h.1 o (by have:=Array.mem_of_getElem? ho;simpa using this))
 have hok':=hok
 simp only[zfb,Bool.and_eq_true] at hok'
 replace hok':=hok'.2
 have hdr:∀i,i<ops.size→((match ops[i]? with
   |some o=>o.after.toList.all fun e=>!Region.binds .any e || decide (e.on<i)
   |none=>false)=true∧∀j,j<i→zld fl ops (Region.before ops) i j=true):=by
  intro i hi
  have:=List.all_eq_true.1 hok' i (by simp[hi])
  simp only[Bool.and_eq_true,List.all_eq_true,List.mem_range] at this
  exact⟨this.1,fun j hj=>this.2 j hj⟩
 have hchain:chain (stepG P n fl ops K) (List.range' 0 ops.toList.length) (false,s) (true,s'):=by
  have e:List.range' 0 ops.toList.length=List.range' 0 ops.toList.dropLast.length++[ops.size-1]:=by
   rw[Array.length_toList,hsize,Nat.add_sub_cancel,List.range'_1_concat]
   simp
  rw[e]
  refine znE _ s s' (fun i hi=>?_) hch _ _ ⟨(true,s'),⟨rfl,.inl ⟨by omega,rfl,rfl,o,holast,hk⟩⟩,rfl⟩
  rw[List.mem_range'_1] at hi
  omega
 refine ziU (wf:=fun x:Bool×St=>Wf x.2) (indep:=fun j i=>∃oi oj,ops[i]?=some oi∧ops[j]?=some oj∧zAX (fl.getD i 0) (fl.getD j 0)=true∧oj.apart ops oi=true) ?_ ?_ ?_ ?_ (fin:=fun x=>x.1=true) (s':=(true,s')) rfl ops.size (List.range' 0 ops.toList.length) _ (false,s) (by simp) (by simp) ?_ ?_ ?_ hw hchain
 ·rintro i ⟨b,s⟩ ⟨b',s'⟩ hw ⟨_,(⟨_,_,h,_⟩ | ⟨_,_,h⟩)⟩
  ·dsimp only at h hw ⊢;rw[h];exact hw
  ·obtain⟨o,_,h⟩:=h;exact zoG hw h
 ·rintro j i ⟨b,s⟩ ⟨b1,s1⟩ ⟨b2,s2⟩ ⟨oi,oj,hoi,hoj,fm,hap⟩ hw ⟨e1,h1⟩ ⟨e2,h2⟩
  have hm0:∀k,zAX k 0=false∧zAX 0 k=false:=by
   intro k
   match k with
   |0=>exact⟨rfl,rfl⟩
   |1=>exact⟨rfl,rfl⟩
   |2=>exact⟨rfl,rfl⟩
   |3=>exact⟨rfl,rfl⟩
   |4=>exact⟨rfl,rfl⟩
   |5=>exact⟨rfl,rfl⟩
   |6=>exact⟨rfl,rfl⟩
   |7=>exact⟨rfl,rfl⟩
   |8=>exact⟨rfl,rfl⟩
   |9=>exact⟨rfl,rfl⟩
   |k+10=>exact⟨by simp[zAX,zst],by simp[zAX,zst]⟩
  rcases h1 with⟨hj,_⟩ | ⟨hj,f1,o1,ho1,h1⟩
  ·rw[show j=ops.size-1 by omega,hlast,(hm0 _).1] at fm;cases fm
  rcases h2 with⟨hi,_⟩ | ⟨hi,f2,o2,ho2,h2⟩
  ·rw[show i=ops.size-1 by omega,hlast,(hm0 _).2] at fm;cases fm
  rw[hoj] at ho1;injection ho1 with ho1;subst ho1
  rw[hoi] at ho2;injection ho2 with ho2;subst ho2
  obtain⟨s1',k1,k2⟩:=zoa hoi hoj fm (hlow hoi) (hlow hoj) hap hw h1 h2
  exact⟨(false,s1'),⟨e1,.inr ⟨hi,rfl,oi,hoi,k1⟩⟩,⟨rfl,.inr ⟨hj,f2,oj,hoj,k2⟩⟩⟩
 ·intro i o ho e he hb
  have:=(hdr i (Array.getElem?_eq_some_iff.1 ho).1).1
  rw[ho] at this
  have:=List.all_eq_true.1 this e (by simpa using he)
  simpa[hb] using this
 ·intro j i hji hi
  have:=(hdr i hi).2 j hji
  unfold zld at this
  rw[Bool.or_eq_true] at this
  rcases this with h | h
  ·exact .inl (zeF ops i j h)
  ·rw[Bool.and_eq_true] at h
   obtain⟨f1,h⟩:=h
   split at h
   ·rename_i oi oj hoi hoj
    exact .inr ⟨oi,oj,hoi,hoj,f1,h⟩
   ·cases h
 ·intro i o ho hl
  have hlt:=(Array.getElem?_eq_some_iff.1 ho).1
  simp[hlt] at hl
 ·exact List.pairwise_lt_range'
 ·intro i
  simp only[List.mem_range'_1,Array.length_toList,Nat.zero_add,Nat.zero_le,true_and]
  constructor
  ·intro hi;exact⟨hi,by simp[hi]⟩
  ·intro hi;exact hi.1
theorem zwJ(hdm:∀o∈ops.toList,∀d,o.dst=some d→S0.m≤d){K:St→Prop}{Q:Exit→Act→World→Prop}(hQ:∀s' a' w',Rel S0 w0 n s' a' w'→K s'→Q .normal a' w') :
  ∀(fuel:Nat) (listed:Array Bool) (s:St) (a:Act) (w:World),Rel S0 w0 n s a w→zzp ops (stepG P n fl ops K) (fun x=>x.1=true) fuel listed (false,s)→wpAny P .any ops Q fuel listed a w
 |0,_,s,a,w,_,h=>by cases h.2
 |fuel+1,listed,s,a,w,hR,h=>⟨fun h0=>(by cases h.1 h0),fun i hi=>by
   obtain⟨⟨b',s'⟩,⟨_,(⟨_,hb,hs,o,ho,hg⟩ | ⟨_,hb,h1⟩)⟩,h2⟩:=h.2 i hi
   ·dsimp only at hb hs hg
    subst hb;subst hs
    unfold wpOp
    rw[ho]
    simp only
    rw[if_pos (by simp[Region.wanted,zkj hg])]
    refine .inl (zpS hR o (hdm o (by have:=Array.mem_of_getElem? ho;simpa using this)) hg (fun s1 a1 w1 hR1 hk=>?_))
    have hq:=hQ s1 a1 w1 hR1 hk
    have hr:Region.ready .any ops (listed.setIfInBounds i true)=[]:=by
     cases fuel with
     |zero=>exact h2.1
     |succ fuel =>
      cases hr:Region.ready .any ops (listed.setIfInBounds i true) with
      |nil=>rfl
      |cons j r =>
       obtain⟨_,⟨e,_⟩,_⟩:=h2.2 j (by rw[hr];simp)
       cases e
    cases fuel with
    |zero=>exact⟨hr,hq⟩
    |succ fuel=>exact⟨fun _=>hq,fun j hj=>by rw[hr] at hj;cases hj⟩
   ·dsimp only at hb h1
    subst hb
    exact zsS hdm hR h1 (fun a' w' hR'=>zwJ hdm hQ fuel _ s' a' w' hR' h2)⟩
theorem zm3{id:Nat}{Q:Exit→Act→World→Prop}{K:St→Prop}(hm:P.follows .mixedOrders=true)(hok:zfb fl ops=true)(hlast:fl.getD (ops.size-1) 0=0)(hdm:∀o∈ops.toList,∀d,o.dst=some d→S0.m≤d)
  (hR:Rel S0 w0 n s a w)(h:zbJ P n fl ops fl ops.toList.dropLast s (fun s1=>ztI P n ops s1 K (zlD ops.toList)))(hQ:∀s' a' w',Rel S0 w0 n s' a' w'→K s'→Q .normal a' w'):(Code.region id ops true).wp P Q a w:=
 wp_region_any hm (zwJ hdm hQ _ _ s a _ hR.drawn (zv6 hok hlast hR.wf h))
end
end Go.Ab
namespace Go.Ab
open Go Go.RowKit
variable [Amb]
def zng(next:St→Prop)(Q:Exit→St→Prop):Exit→St→Prop
 |.normal,s=>next s
 |e,s=>Q e s
def zeH(id:Nat)(Q:Exit→St→Prop):Exit→St→Prop
 |.exit id',s=>if id'=id then Q .normal s else Q (.exit id') s
 |e,s=>Q e s
def zvB(s:St)(i off d:Nat)(b o:AV):St:=
 match o,b with
 |.own _ z xs,.box cs=>fun j=>if j=i then .box (cs.set off (.list z xs)) else unlink (freeze s d) i off 1 j
 |_,_=>s
def zFQ(s:St)(i off:Nat)(l:AV):St:=
 match l with
 |.link i' o d=>match i'==i&&o==off with
  |true=>zvB s i off d (s i) (s d)
  |false=>s
 |_=>s
def znm(s:St)(i off:Nat):St:=zFQ s i off (s (LK i off))
def zgu(s:St):List (Nat×Nat)→St
 |[]=>s
 |(i,off)::r=>zgu (znm s i off) r
def zPx(s s':St):Prop:=
 (∀i,s' i=s i∨s' i=.dead∨(s i=.x (.one .nil)∧∃e size,s' i=.own e size []))∧∀i j,(s' i).refs j=true→s' j=s j
def zV6(s t:St):Prop:=t=s∨∃i c bs es es',s i=.mp c bs es∧zzY s es es'∧t=zoq s i c bs es'
def zMk(s s':St):Prop:=∃t,zV6 s t∧∃l,zPx (zgu t l) s'
def zm0(c:Prop×AV)(A B:Prop):Prop:=
 match c with
 |(p,.x (.one (.bool b)))=>p∧(b=true→A)∧(b=false→B)
 |_=>False
def zOy(body:(Exit→St→Prop)→St→Prop)(Q:Exit→St→Prop)(s:St):Prop:=
 ∃(ι:Type) (I:ι→St) (ok:ι→Prop) (μ:ι→Nat),(∃x,ok x∧zMk s (I x))∧∀x,ok x→body (zng (fun s'=>∃y,ok y∧μ y<μ x∧zMk s' (I y)) Q) (I x)
class Hint where
 hint:Nat→List Bool
 wild:Nat→List Nat
 grow:Nat→Bool
 conv:Nat→Bool
 cut:Nat→Nat
instance (priority:=low) noHint:Hint:=⟨fun _=>[],fun _=>[],fun _=>false,fun _=>false,fun _=>0⟩
def zjt{α:Type}:List (Nat×List α)→Nat→List α
 |[],_=>[]
 |(k,fl)::r,i=>if k=i then fl else zjt r i
@[reducible]def hints(l:List (Nat×List Bool)):Hint:=⟨zjt l,fun _=>[],fun _=>false,fun _=>false,fun _=>0⟩
@[reducible]def zpP(l:List (Nat×List Nat)):Hint:=⟨fun _=>[],zjt l,fun _=>false,fun _=>false,fun _=>0⟩
@[reducible]def grows(g:List Nat)(l:List (Nat×List Nat)):Hint:=⟨fun _=>[],zjt l,fun i=>g.contains i,fun _=>false,fun _=>0⟩
@[reducible]def zwm(c g:List Nat)(l:List (Nat×List Nat)):Hint:=⟨fun _=>[],zjt l,fun i=>g.contains i,fun i=>c.contains i,fun _=>0⟩
def zuX:List (Nat×Nat)→Nat→Nat
 |[],_=>0
 |(k,m)::r,i=>if k=i then m else zuX r i
@[reducible]def cuts(q:List (Nat×Nat))(c g:List Nat)(l:List (Nat×List Nat)):Hint:=⟨fun _=>[],zjt l,fun i=>g.contains i,fun i=>c.contains i,zuX q⟩
def zIU(n:Nat)(s:St)(X:St→Prop):Prop:=∀(S0:Env) (w0:World) (a:Act) (w:World),Rel S0 w0 n s a w→∃s',Rel S0 w0 n s' a w∧X s'
def zfI[Hint](P:Program)(n:Nat)(id:Nat)(ops:Array Oper)(draw:Bool)(Q:Exit→St→Prop)(s:St):Prop:=
 match Hint.grow id with
  |true=>match draw with
   |false=>zaS P n ops ops.toList.dropLast s (fun s1=>ztI P n ops s1 (Q .normal) (zlD ops.toList))
   |true=>zbJ P n (Hint.wild id) ops (Hint.wild id) ops.toList.dropLast s (fun s1=>ztI P n ops s1 (Q .normal) (zlD ops.toList))
  |false=>match draw with
   |false=>zaS P n ops ops.toList s (Q .normal)
   |true=>match Hint.wild id with
    |k::fl=>zbJ P n (k::fl) ops (k::fl) ops.toList s (Q .normal)
    |[]=>match Hint.hint id with
     |b::fl=>zkI P n (b::fl) ops (b::fl) ops.toList s (Q .normal)
     |[]=>match zoy ops with
      |true=>(zj7 false ops=true∧zc8 P n false ops ops.toList s (Q .normal))∨(∃l:List Nat,zj7 true ops=true∧zc8 P n true ops ops.toList (zas s l) (Q .normal))
      |false=>zc8 P n false ops ops.toList s (Q .normal)
def znj(P:Program)(n:Nat)(ops:Array Oper):Nat→List Oper→St→(St→Prop)→Prop
 |0,l,s,K=>zIU n s (fun s2=>zaS P n ops l s2 K)
 |k+1,o::l,s,K=>zaS P n ops [o] s (fun s1=>znj P n ops k l s1 K)
 |_+1,[],s,K=>K s
def zP9[Hint](P:Program)(n:Nat)(id:Nat)(ops:Array Oper)(draw:Bool)(Q:Exit→St→Prop)(s:St):Nat→Prop
 |0=>zIU n s (zfI P n id ops draw Q)
 |k+1=>znj P n ops (k+1) ops.toList s (Q .normal)
def awp[Hint](P:Program)(n:Nat):Code→(Exit→St→Prop)→St→Prop
 |.skip,Q,s=>Q .normal s
 |.label _,Q,s=>Q .normal s
 |.region id ops draw,Q,s=>match Hint.conv id with
  |true=>zP9 P n id ops draw Q s (Hint.cut id)
  |false=>zfI P n id ops draw Q s
 |.seq a b,Q,s=>awp P n a (zng (awp P n b Q) Q) s
 |.cond c a b,Q,s=>zm0 (sv s c) (awp P n a Q s) (awp P n b Q s)
 |.block id c,Q,s=>awp P n c (zeH id Q) s
 |.loop c,Q,s=>zOy (awp P n c) Q s
 |.exit id,Q,s=>Q (.exit id) s
 |.ret,Q,s=>Q .ret s
 |_,_,_=>False
def zkQ[Hint](id:Nat)(ops:Array Oper)(draw:Bool):Bool:=match Hint.grow id with
  |true=>!draw || (zfb (Hint.wild id) ops&&(Hint.wild id).getD (ops.size-1) 0==0)
  |false=>match draw with
   |true=>match Hint.wild id with
    |k::fl=>zfb (k::fl) ops
    |[]=>match Hint.hint id with
     |[]=>zj7 false ops || zoy ops
     |b::fl=>zlN (b::fl) ops
   |false=>true
def codeOk[Hint]:Code→Bool
 |.region id ops draw=>(Hint.cut id==0 || !draw)&&zkQ id ops draw
 |.seq a b=>codeOk a&&codeOk b
 |.cond _ a b=>codeOk a&&codeOk b
 |.block _ c=>codeOk c
 |.loop c=>codeOk c
 |_=>true
def zBB(m:Nat)(o:Oper):Bool:=match o.dst with
 |some d=>decide (m≤d)
 |none=>true
def zbY(m:Nat):Code→Bool
 |.region _ ops _=>ops.toList.all (zBB m)
 |.seq a b=>zbY m a&&zbY m b
 |.cond _ a b=>zbY m a&&zbY m b
 |.block _ c=>zbY m c
 |.loop c=>zbY m c
 |_=>true
theorem zdJ{m:Nat}{l:List Oper}(h:l.all (zBB m)=true):∀o∈l,∀d,o.dst=some d→m≤d:=by
 intro o ho d hd
 have:=List.all_eq_true.1 h o ho
 unfold zBB at this
 rw[hd] at this
 exact of_decide_eq_true this
theorem zg3:∀c:Code,zbY 0 c=true:=by
 intro c
 induction c with
 |region id ops draw =>
  refine List.all_eq_true.2 (fun o _=>?_)
  unfold zBB
  cases o.dst<;>simp
 |seq a b iha ihb=>simp[zbY,iha,ihb]
 |cond c a b iha ihb=>simp[zbY,iha,ihb]
 |block id c ih=>simpa[zbY] using ih
 |loop c ih=>simpa[zbY] using ih
 |_=>rfl
section
variable {P:Program}{S0:Env}{w0 w:World}{n:Nat}{s:St}{a:Act}
theorem Rel.znm(hR:Rel S0 w0 n s a w)(i off:Nat):Rel S0 w0 n (znm s i off) a w:=by
 unfold Ab.znm zFQ
 split
 ·rename_i i' o d hlk
  split
  ·rename_i hio
   simp only[Bool.and_eq_true,beq_iff_eq] at hio
   obtain⟨rfl,rfl⟩:=hio
   unfold zvB
   split
   ·rename_i e z xs cs hd hi
    have hid:i'≠d:=by rintro rfl;rw[hi] at hd;cases hd
    have hl:=hR.rep (LK i' o)
    rw[hlk] at hl
    obtain⟨_,cs2,b2,k1,k2,k3,k4⟩:=hl
    rw[hi] at k1
    injection k1 with k1
    subst k1
    have hlt:o<cs.length:=(List.getElem?_eq_some_iff.1 k2).1
    have h1:=hR.freeze (i:=d) (.inl ⟨e,z,xs,hd⟩)
    have e1:Ab.freeze s d i'=.box cs:=by
     unfold Ab.freeze
     have:(AV.box cs).refs d=false:=rfl
     simp[hid,hi,this]
    have e2:Ab.freeze s d d=.x (.one (.list z xs)):=by simp[Ab.freeze,hd,zcW]
    have h2:Rel S0 w0 n (unlink (Ab.freeze s d) i' o 1) a w:=by
     refine h1.forget (fun j=>zay _ i' o 1 j) (fun j k hjk=>?_)
     rcases zay (Ab.freeze s d) i' o 1 j with e | e<;>rw[e] at hjk
     ·exact zav (h1.wf j k hjk)
     ·cases hjk
    have e3:unlink (Ab.freeze s d) i' o 1 i'=.box cs:=by rw[zav (by rw[e1];rfl),e1]
    have e4:unlink (Ab.freeze s d) i' o 1 d=.x (.one (.list z xs)):=by
     unfold unlink
     rw[e2]
     rfl
    have hb:=h2.rep i'
    rw[e3] at hb
    obtain⟨b,arr,t,hv,hh,hrl,hB⟩:=hb
    have hbb:b2=b:=by
     rw[hi,hv] at k3
     have:some b=some b2:=k3
     injection this with this;exact this.symm
    subst hbb
    rw[cell_of_row w b2 o arr t (0,0) hh,hd] at k4
    have k4:_=some (zai a d):=k4
    have hlist:=h2.rep d
    rw[e4] at hlist
    refine h2.write (r:=.box (cs.set o (.list z xs))) (b:=b2) (by rw[e3,hv];rfl) (World.grownBy.refl w _) rfl (by rw[hv];rfl) rfl (by rw[e3];rfl) (by rw[e3];rfl) (by rw[e3];rfl) (fun s'=>?_) (fun j o' d' cs2 hl hs2=>?_)
    ·refine⟨b2,arr,t,hv,hh,⟨by simpa using hrl.1,fun j c hj=>?_⟩,hB⟩
     rw[List.getElem?_set] at hj
     split at hj
     ·rename_i he
      subst he
      simp only[Option.some.injEq] at hj
      subst hj
      exact⟨_,by simpa using k4,hlist⟩
     ·exact hrl.2 j c hj
    ·rw[e3] at hs2
     obtain rfl:=(by simpa[AV.zfQ] using hs2:_=cs2)
     refine⟨⟨_,rfl,?_⟩,rfl⟩
     rw[List.getElem?_set]
     split
     ·rename_i he
      exfalso
      subst he
      have:unlink (Ab.freeze s d) i' o 1 j=.dead:=by
       unfold unlink
       have:(Ab.freeze s d j).zdm i' o 1=true:=by
        rcases zay (Ab.freeze s d) i' o 1 j with e | e
        ·rw[e] at hl;exact AV.zed hl (by omega) (by omega)
        ·rw[e] at hl;exact hl.elim
       rw[this]
      rw[this] at hl;exact hl.elim
     ·rfl
   ·exact hR
  ·exact hR
 ·exact hR
theorem Rel.zgu:∀(l:List (Nat×Nat)) {s:St},Rel S0 w0 n s a w→Rel S0 w0 n (zgu s l) a w
 |[],_,h=>h
 |(i,off)::r,_,h=>Rel.zgu r (h.znm i off)
theorem Rel.zyN{i off:Nat}{cs:List CV}{c:CV}{v:Value}{b:Nat}(hR:Rel S0 w0 n s a w)(hi:s i=.box cs)(hb:zaf (s i) (zai a i)=some b)(hv:w.cell? ⟨b,off,none⟩=some v)(hlt:off<cs.length)
  (hc:zaH w (Shared S0 w0.heap.size w s (zai a)) c v)(hno:∀j o d,(s j).zco i o d→o≠off):Rel S0 w0 n (fun k=>if k=i then .box (cs.set off c) else s k) a w:=by
 have hrep:=hR.rep i
 rw[hi] at hrep hb
 obtain⟨b',arr,t,hvv,hh,hrl,hB⟩:=hrep
 have hbb:b'=b:=by rw[hvv] at hb;simpa[zaf] using hb
 subst hbb
 rw[cell_of_row w b' off arr t (0,0) hh] at hv
 refine hR.write (r:=.box (cs.set off c)) (b:=b') (by rw[hi,hvv];rfl) (World.grownBy.refl w _) rfl (by rw[hvv];rfl) rfl (by rw[hi];rfl) (by rw[hi];rfl) (by rw[hi];rfl) (fun s'=>?_) (fun j o' d' cs2 hl hs2=>?_)
 ·refine⟨b',arr,t,hvv,hh,⟨by simpa using hrl.1,fun j x hj=>?_⟩,hB⟩
  rw[List.getElem?_set] at hj
  split at hj
  ·rename_i he
   subst he
   simp only[Option.some.injEq] at hj
   subst hj
   exact⟨_,by simpa using hv,hc⟩
  ·exact hrl.2 j x hj
 ·rw[hi] at hs2
  obtain rfl:=(by simpa[AV.zfQ] using hs2:_=cs2)
  refine⟨⟨_,rfl,?_⟩,rfl⟩
  rw[List.getElem?_set,if_neg (fun e=>hno j o' d' hl e.symm)]
theorem Rel.zru(hR:Rel S0 w0 n s a w)(i off:Nat):Rel S0 w0 n (unlink s i off 1) a w:=by
 refine hR.forget (fun j=>zay _ i off 1 j) (fun j k hjk=>?_)
 rcases zay s i off 1 j with e | e<;>rw[e] at hjk
 ·exact zav (hR.wf j k hjk)
 ·cases hjk
theorem zmi{i off:Nat}(s:St):∀j o d,(unlink s i off 1 j).zco i o d→o≠off:=by
 intro j o d h ho
 subst ho
 unfold unlink at h
 cases hl:(s j).zdm i o 1 with
 |true=>rw[hl] at h;exact h.elim
 |false =>
  rw[hl] at h
  rw[AV.zed (off:=o) (m:=1) h (Nat.le_refl _) (by omega)] at hl
  cases hl
def zpb(s:St)(i off j g:Nat)(v:Value)(cs:List CV)(e z:Nat)(xs:List (List CV)):St:=fun k=>if k=i then .box (cs.set off (.atom v)) else unlink (zf6 s j g v e z xs) i off 1 k
theorem Rel.zOj{i off j g e z:Nat}{cs:List CV}{xs:List (List CV)}(hR:Rel S0 w0 n s a w)(hi:s i=.box cs)(hl:s (LK i off)=.link i off j)(hj:s j=.own e z xs)(hn:n≤g)(hg:(s g).free=true):Rel S0 w0 n (zpb s i off j g (zai a j) cs e z xs) a w:=by
 have hlk:=hR.rep (LK i off)
 rw[hl] at hlk
 obtain⟨_,cs2,b,k1,k2,k3,k4⟩:=hlk
 rw[hi] at k1
 injection k1 with k1
 subst k1
 rw[hj] at k4
 have k4:w.cell? ⟨b,off,none⟩=some (zai a j):=k4
 have h1:=(hR.name hj hn hg).zru i off
 have hij:i≠j:=by rintro rfl;rw[hi] at hj;cases hj
 have hig:i≠g:=by rintro rfl;rw[hi] at hg;cases hg
 have e0:zf6 s j g (zai a j) e z xs i=.box cs:=by
  unfold zf6
  rw[if_neg hij,if_neg hig,hi];simp[AV.refs]
 have e1:unlink (zf6 s j g (zai a j) e z xs) i off 1 i=.box cs:=by rw[zav (by rw[e0];rfl),e0]
 have hone:(zai a j).oneCell'=true:=by
  have:=hR.rep j
  rw[hj] at this
  obtain⟨us,ho,_⟩:=this
  rcases ho.2 with⟨h,_⟩ | ⟨_,_,_,h,_⟩<;>rw[h]<;>rfl
 exact h1.zyN e1 (b:=b) (v:=zai a j) (by rw[e1,←hi];exact k3) k4 (List.getElem?_eq_some_iff.1 k2).1 (zaH.atom _ hone) (zmi _)
def zon(s:St)(i off j g e z:Nat)(cs:List CV)(xs:List (List CV)):St:=fun k=>if k=LK i off then .link i off j else if k=i then .box (cs.set off .any) else unlink (zb7 s j g e z xs) i off 1 k
theorem Rel.zRU{i off j g e z:Nat}{v:Value}{cs:List CV}{xs:List (List CV)}(hR:Rel S0 w0 n s a w)(hi:s i=.box cs)(hc:cs[off]?=some (.atom v))(hj:s j=.x (.one (.atom v)))(hg:s g=.gown v e z xs)(hf:(s (LK i off)).free=true):Rel S0 w0 n (zon s i off j g e z cs xs) a w:=by
 have hv:zai a j=v:=by
  have h:=hR.rep j
  rw[hj] at h
  have h:zaH w _ (.atom v) (zai a j):=h
  generalize zai a j=u at h
  cases h;rfl
 have hij:i≠j:=by rintro rfl;rw[hi] at hj;cases hj
 have hig:i≠g:=by rintro rfl;rw[hi] at hg;cases hg
 have hlj:LK i off≠j:=by intro h;rw[h,hj] at hf;cases hf
 have hlg:LK i off≠g:=by intro h;rw[h,hg] at hf;cases hf
 have hli:LK i off≠i:=by intro h;rw[h,hi] at hf;cases hf
 have h1:=(hR.zOb hj hg).zru i off
 have e0:zb7 s j g e z xs i=.box cs:=by
  unfold zb7
  rw[if_neg hij,if_neg hig,hi];simp[AV.refs]
 have e1:unlink (zb7 s j g e z xs) i off 1 i=.box cs:=by rw[zav (by rw[e0];rfl),e0]
 have ej0:zb7 s j g e z xs j=.own e z xs:=by unfold zb7;rw[if_pos rfl]
 have ej:unlink (zb7 s j g e z xs) i off 1 j=.own e z xs:=by rw[zav (by rw[ej0];rfl),ej0]
 have hrep:=hR.rep i
 rw[hi] at hrep
 obtain⟨b,arr,t,hvv,hh,hrl,hB⟩:=hrep
 obtain⟨u,hu,hru⟩:=hrl.2 off _ hc
 have huv:u=v:=by cases hru;rfl
 subst huv
 have hcell:w.cell? ⟨b,off,none⟩=some u:=by rw[cell_of_row w b off arr t (0,0) hh];simpa using hu
 have hlt:off<cs.length:=(List.getElem?_eq_some_iff.1 hc).1
 have hone:u.oneCell'=true:=zaH.oneCell hru
 have h2:=h1.zyN e1 (b:=b) (v:=u) (by rw[e1,hvv];rfl) hcell hlt (zaH.any _ hone) (zmi _)
 have h3:=h2.zlQ (k:=LK i off) (i:=i) (off:=off) (d:=j) (b:=b) (cs:=cs.set off .any) ?_ ?_ ?_ ?_ ?_ ?_
 ·exact h3
 ·rw[if_neg hli]
  rcases zay (zb7 s j g e z xs) i off 1 (LK i off) with h | h<;>rw[h]
  ·unfold zb7
   rw[if_neg hlj,if_neg hlg]
   split
   ·rfl
   ·exact hf
  ·rfl
 ·rw[if_neg (Ne.symm hij),ej];rfl
 ·rw[if_pos rfl];rfl
 ·rw[List.getElem?_set,if_pos rfl,if_pos hlt]
 ·rw[if_pos rfl,hvv];rfl
 ·rw[if_neg (Ne.symm hij),ej,hcell]
  show some u=some (zai a j)
  rw[hv]
def zgf(s:St)(g:Nat):St:=fun k=>if k=g then .dead else if (s k).refs g then .dead else s k
def zmv(s:St)(i off g:Nat)(cs:List CV)(x:CV):St:=fun k=>if k=i then .box (cs.set off x) else unlink (zgf s g) i off 1 k
theorem Rel.zgf(hR:Rel S0 w0 n s a w)(g:Nat):Rel S0 w0 n (zgf s g) a w:=by
 refine hR.forget (fun k=>?_) (fun k m hk=>?_)
 ·unfold Ab.zgf
  split
  ·exact .inr rfl
  ·split
   ·exact .inr rfl
   ·exact .inl rfl
 ·unfold Ab.zgf at hk ⊢
  split at hk
  ·cases hk
  ·split at hk
   ·cases hk
   ·rename_i h1 h2
    have hmo:=hR.wf k m hk
    have hmg:m≠g:=by rintro rfl;exact h2 hk
    rw[if_neg hmg,if_neg]
    intro h
    rw[zaP h] at hmo;cases hmo
theorem Rel.zlc{i off g b c:Nat}{cs:List CV}{bs:List Nat}{es:List (XV×XV)}{ka va:Bool}{ks vs:List (List CV)}(hR:Rel S0 w0 n s a w)(hi:s i=.box cs)(hc:cs[off]?=some (.atom (.map (some b))))(hg:s g=.gmap b c bs es)
  (he:es=mvE ka va ks vs)(hlen:vs.length=ks.length)(hk:ka=true∨∀k∈ks,k.length=1)(hv:va=true∨∀k∈vs,k.length=1):Rel S0 w0 n (zmv s i off g cs (.mapv ka va ks vs)) a w:=by
 have hig:i≠g:=by rintro rfl;rw[hi] at hg;cases hg
 have h1:=(hR.zgf g).zru i off
 have e0:Ab.zgf s g i=.box cs:=by
  unfold Ab.zgf
  rw[if_neg hig,hi];simp[AV.refs]
 have e1:unlink (Ab.zgf s g) i off 1 i=.box cs:=by rw[zav (by rw[e0];rfl),e0]
 have hkd:∀k,unlink (Ab.zgf s g) i off 1 k=.dead∨(k≠g∧unlink (Ab.zgf s g) i off 1 k=s k):=by
  intro k
  rcases zay (Ab.zgf s g) i off 1 k with h | h
  ·rw[h]
   unfold Ab.zgf
   by_cases hkg:k=g
   ·rw[if_pos hkg];exact .inl rfl
   ·rw[if_neg hkg]
    split
    ·exact .inl rfl
    ·exact .inr ⟨hkg,rfl⟩
  ·exact .inl h
 have hblk:∀k b',zaf (unlink (Ab.zgf s g) i off 1 k) (zai a k)=some b'→k≠g∧zaf (s k) (zai a k)=some b':=by
  intro k b' hb
  rcases hkd k with h | ⟨h2,h⟩<;>rw[h] at hb
  ·cases hb
  ·exact⟨h2,hb⟩
 have hsub:∀c,Shared S0 w0.heap.size w s (zai a) c→Shared S0 w0.heap.size w (unlink (Ab.zgf s g) i off 1) (zai a) c:=fun c hc=>⟨hc.1,hc.2.1,fun k hk=>hc.2.2 k (hblk k c hk).2⟩
 have hrg:=hR.rep g
 rw[hg] at hrg
 obtain⟨ents,hh,hB,hE⟩:=hrg
 have hlt:b<w.heap.size:=(Array.getElem?_eq_some_iff.1 hh).1
 have hSb:Shared S0 w0.heap.size w (unlink (Ab.zgf s g) i off 1) (zai a) b:=⟨.inr hB,hlt,fun k hk=>by
  obtain⟨h2,h3⟩:=hblk k b hk
  exact h2 (hR.inj k g b h3 (by rw[hg];rfl))⟩
 subst he
 have hmv:=zzE hSb hh (hE.mono hsub (fun _ _=>rfl)) hlen hk hv
 have hrep:=hR.rep i
 rw[hi] at hrep
 obtain⟨bi,arr,t,hvv,hha,hrl,_⟩:=hrep
 obtain⟨u,hu,hru⟩:=hrl.2 off _ hc
 have huv:u=.map (some b):=by cases hru;rfl
 subst huv
 exact h1.zyN e1 (b:=bi) (v:=.map (some b)) (by rw[e1,hvv];rfl) (by rw[cell_of_row w bi off arr t (0,0) hha];simpa using hu) (List.getElem?_eq_some_iff.1 hc).1 hmv (zmi _)
theorem Rel.zVd{s':St}(hR:Rel S0 w0 n s a w)(h:zPx s s'):Rel S0 w0 n s' a w:=by
 obtain⟨h1,h2⟩:=h
 have hblk:∀j c,zaf (s' j) (zai a j)=some c→zaf (s j) (zai a j)=some c:=by
  intro j c hc
  rcases h1 j with e | e | ⟨e,e',size,e2⟩
  ·rw[e] at hc;exact hc
  ·rw[e] at hc;cases hc
  ·rw[e2] at hc
   have hn:=hR.rep j
   rw[e] at hn
   have:=zdW hn
   rw[this] at hc
   simp[zaf,Value.ownBlock] at hc
 have hsub:∀c,Shared S0 w0.heap.size w s (zai a) c→Shared S0 w0.heap.size w s' (zai a) c:=fun c hc=>⟨hc.1,hc.2.1,fun j hj=>hc.2.2 j (hblk j c hj)⟩
 refine⟨hR.defers,hR.size,hR.below,hR.lt,fun i=>?_,fun i j b hi hj=>hR.inj i j b (hblk i b hi) (hblk j b hj),fun i hi=>?_,fun i j hij=>?_,hR.pin⟩
 ·rcases h1 i with e | e | ⟨e,e',size,e2⟩
  ·rw[e]
   refine(hR.rep i).mono hsub (fun _ _=>rfl) (fun _ _=>rfl) (fun k hk=>?_) (fun i' off d' cs b hl hs' _=>⟨⟨cs,by rw[h2 i i' (by rw[e];exact(AV.zaO hl).1)];exact hs',rfl⟩,rfl⟩)
   have:=h2 i k (by rw[e];exact AV.zaL hk)
   exact⟨rfl,fun h=>by rw[this];exact⟨h,rfl,rfl,rfl⟩,fun c hc=>by rw[this];exact hc⟩
  ·rw[e];trivial
  ·rw[e2]
   have hn:=hR.rep i
   rw[e] at hn
   rw[zdW hn]
   exact⟨[],World.zfk w _ _ _,⟨rfl,fun j c hj=>by simp at hj⟩,fun x hx=>(by cases hx),by simp,fun b hb=>by cases hb⟩
 ·rcases h1 i with e | e | ⟨e,e',size,e2⟩
  ·rw[e];exact hR.out i hi
  ·rw[e];rfl
  ·have:=hR.out i hi
   rw[e] at this;cases this
 ·rw[h2 i j hij]
  rcases h1 i with e | e | ⟨e,e',size,e2⟩
  ·rw[e] at hij;exact hR.wf i j hij
  ·rw[e] at hij;cases hij
  ·rw[e2] at hij;cases hij
theorem Rel.weak{s':St}(hR:Rel S0 w0 n s a w)(h:zMk s s'):Rel S0 w0 n s' a w:=by
 obtain⟨t,ht,l,hl⟩:=h
 have hRt:Rel S0 w0 n t a w:=by
  rcases ht with rfl | ⟨i,c,bs,es,es',h1,h2,rfl⟩
  ·exact hR
  ·exact hR.zoq h1 h2
 exact(hRt.zgu l).zVd hl
def zvG(s:St):List (Nat×Nat)→St
 |[]=>s
 |l=>fun j=>if j=MARK then .res l else s j
theorem Rel.zvG(hR:Rel S0 w0 n s a w)(h:(s MARK).free=true)(l:List (Nat×Nat)):Rel S0 w0 n (zvG s l) a w:=by
 unfold Ab.zvG
 split
 ·exact hR
 ·have hko:∀j,(s j).zaa=true→j≠MARK:=by rintro j h' rfl;rw[zcS h] at h';cases h'
  have hblk:∀j c,zaf (if j=MARK then AV.res l else s j) (zai a j)=some c→zaf (s j) (zai a j)=some c:=by
   intro j c hj
   by_cases hjk:j=MARK
   ·rw[if_pos hjk] at hj;cases hj
   ·rw[if_neg hjk] at hj;exact hj
  have hsub:∀c,Shared S0 w0.heap.size w s (zai a) c→Shared S0 w0.heap.size w (fun j=>if j=MARK then .res l else s j) (zai a) c:=fun c hc=>⟨hc.1,hc.2.1,fun j hj=>hc.2.2 j (hblk j c hj)⟩
  refine⟨hR.defers,hR.size,hR.below,hR.lt,fun j=>?_,fun j m c hj hm=>hR.inj j m c (hblk j c hj) (hblk m c hm),fun j hj=>?_,fun j m hjm=>?_,hR.pin⟩
  ·by_cases hjk:j=MARK
   ·simp only[if_pos hjk];trivial
   ·simp only[if_neg hjk]
    refine(hR.rep j).mono hsub (fun _ _=>rfl) (fun _ _=>rfl) (fun m hm=>?_) (fun i' off' d' cs' b' hl hs' _=>⟨⟨cs',by simp only[if_neg (hko i' (AV.zba hs'))];exact hs',rfl⟩,rfl⟩)
    have hmk:=hko m ((hR.rep j).leads hm)
    simp only[if_neg hmk]
    exact⟨trivial,fun h=>⟨h,trivial,trivial,trivial⟩,fun c hc=>hc⟩
  ·by_cases hjk:j=MARK
   ·simp only[if_pos hjk];rfl
   ·simp only[if_neg hjk];exact hR.out j hj
  ·by_cases hjk:j=MARK
   ·simp only[if_pos hjk] at hjm;cases hjm
   ·simp only[if_neg hjk] at hjm
    have:=hR.wf j m hjm
    simp only[if_neg (hko m this)]
    exact this
theorem zsz{ops:Array Oper}{K:St→Prop}{Q':Exit→Act→World→Prop}:∀(k:Nat) (l:List Oper) (s:St) (a:Act) (w:World),(∀o∈l,∀d,o.dst=some d→S0.m≤d)→Rel S0 w0 n s a w→znj P n ops k l s K →
  (∀s' a' w',Rel S0 w0 n s' a' w'→K s'→Q' .normal a' w')→wpList P ops Q' l a w
 |0,l,s,a,w,hl,hR,h,hQ=>by
  obtain⟨s2,hR2,h2⟩:=h _ _ _ _ hR
  exact zx9 l s2 a w hl hR2 h2 hQ
 |k+1,o::l,s,a,w,hl,hR,h,hQ =>
  zsP (l2:=l) [o] s a w (fun o' ho'=>hl o' (by rw[List.mem_singleton] at ho';subst ho';exact List.mem_cons_self)) hR h (fun s' a' w' hR' h'=>zsz k l s' a' w' (fun o' ho'=>hl o' (List.mem_cons_of_mem _ ho')) hR' h' hQ)
 |_+1,[],s,a,w,_,hR,h,hQ=>hQ s a w hR h
theorem zwX[Hint](hm:P.follows .mixedOrders=true):∀(c:Code) (Q:Exit→St→Prop) (Q':Exit→Act→World→Prop) (s:St) (a:Act) (w:World),codeOk c=true→zbY S0.m c=true→Rel S0 w0 n s a w→awp P n c Q s →
  (∀e s' a' w',Rel S0 w0 n s' a' w'→Q e s'→Q' e a' w')→c.wp P Q' a w:=by
 intro c
 induction c with
 |skip=>intro Q Q' s a w _ _ hR h hQ;exact wp_skip (hQ _ s a w hR h)
 |label l=>intro Q Q' s a w _ _ hR h hQ;exact wp_label (hQ _ s a w hR h)
 |exit id=>intro Q Q' s a w _ _ hR h hQ;exact wp_exit (hQ _ s a w hR h)
 |ret=>intro Q Q' s a w _ _ hR h hQ;exact wp_ret (hQ _ s a w hR h)
 |region id ops draw =>
  intro Q Q' s a w hok hod hR h hQ
  have hok1:(Hint.cut id==0 || !draw)=true:=by
   simp only[codeOk,Bool.and_eq_true] at hok
   exact hok.1
  replace hok:zkQ id ops draw=true:=by
   simp only[codeOk,Bool.and_eq_true] at hok
   exact hok.2
  obtain⟨s,hR,h⟩ | ⟨hdr,k,hc⟩:(∃s,Rel S0 w0 n s a w∧zfI P n id ops draw Q s)∨(draw=false∧∃k,znj P n ops k ops.toList s (Q .normal)):=by
   cases hcv:(Hint.conv id:Bool) with
   |true =>
    simp only[awp,hcv] at h
    cases hcu:(Hint.cut id:Nat) with
    |zero=>rw[hcu] at h;exact .inl (h _ _ _ _ hR)
    |succ k =>
     rw[hcu] at h hok1
     refine .inr ⟨?_,_,h⟩
     cases draw with
     |false=>rfl
     |true=>simp at hok1
   |false=>simp only[awp,hcv] at h;exact .inl ⟨s,hR,h⟩
  rotate_left
  ·subst hdr
   exact wp_region_list (zsz k ops.toList s a w (zdJ hod) hR hc (fun s' a' w' hR' hk=>hQ _ s' a' w' hR' hk))
  cases hgr:(Hint.grow id:Bool) with
  |true =>
   simp only[zfI,hgr] at h
   simp only[zkQ,hgr] at hok
   cases draw with
   |false=>exact wp_region_list (zuh (P:=P) (zdJ hod) hR h (fun s' a' w' hR' hk=>hQ _ s' a' w' hR' hk))
   |true =>
    simp only[Bool.not_true,Bool.false_or,Bool.and_eq_true,beq_iff_eq] at hok
    exact zm3 (P:=P) (id:=id) (Q:=Q') hm hok.1 hok.2 (zdJ hod) hR (K:=Q .normal) h (fun s' a' w' hR' hk=>hQ _ s' a' w' hR' hk)
  |false =>
  simp only[zfI,hgr] at h
  simp only[zkQ,hgr] at hok
  cases draw with
  |false=>exact wp_region_list (zx9 ops.toList s a w (zdJ hod) hR h (fun s' a' w' hR' hk=>hQ _ s' a' w' hR' hk))
  |true =>
   have plain:=fun hok h=>zhE (P:=P) (m:=false) (id:=id) (Q:=Q') hm hok (zdJ hod) hR (K:=Q .normal) h (fun s' a' w' hR' hk=>hQ _ s' a' w' hR' hk)
   cases hw:(Hint.wild id:List Nat) with
   |cons k fl =>
    rw[hw] at h hok
    exact zmd (P:=P) (id:=id) (Q:=Q') hm hok (zdJ hod) hR (K:=Q .normal) h (fun s' a' w' hR' hk=>hQ _ s' a' w' hR' hk)
   |nil =>
   rw[hw] at h hok
   dsimp only at h hok
   cases hh:(Hint.hint id:List Bool) with
   |cons b fl =>
    rw[hh] at h hok
    exact zlG (P:=P) (id:=id) (Q:=Q') hm hok (zdJ hod) hR (K:=Q .normal) h (fun s' a' w' hR' hk=>hQ _ s' a' w' hR' hk)
   |nil =>
    rw[hh] at h hok
    dsimp only at h hok
    split at h
    ·rcases h with h | ⟨l,h1,h2⟩
     ·exact plain h.1 h.2
     ·exact zhE (m:=true) hm h1 (zdJ hod) (zb3 l s hR) h2 (fun s' a' w' hR' hk=>hQ _ s' a' w' hR' hk)
    ·rename_i hwb
     simp only[hwb,Bool.or_false] at hok
     exact plain hok h
 |seq x y ihx ihy =>
  intro Q Q' s a w hok hod hR h hQ
  simp only[codeOk,Bool.and_eq_true] at hok
  simp only[zbY,Bool.and_eq_true] at hod
  refine wp_seq (ihx _ _ s a w hok.1 hod.1 hR h (fun e s' a' w' hR' hq=>?_))
  cases e with
  |normal=>exact ihy Q Q' s' a' w' hok.2 hod.2 hR' hq hQ
  |_=>exact hQ _ s' a' w' hR' hq
 |cond c x y ihx ihy =>
  intro Q Q' s a w hok hod hR h hQ
  simp only[codeOk,Bool.and_eq_true] at hok
  simp only[zbY,Bool.and_eq_true] at hod
  simp only[awp] at h
  unfold zm0 at h
  split at h
  ·rename_i p b e
   obtain⟨hp,ht,hf⟩:=h
   have hv:=hR.sv c (zIS e hp)
   rw[e] at hv
   have hv':=zbX hv
   exact wp_cond_split hv' (fun hb=>ihx Q Q' s a w hok.1 hod.1 hR (ht hb) hQ) (fun hb=>ihy Q Q' s a w hok.2 hod.2 hR (hf hb) hQ)
  ·exact h.elim
 |block id c ih =>
  intro Q Q' s a w hok hod hR h hQ
  refine wp_block (ih _ _ s a w hok hod hR h (fun e s' a' w' hR' hq=>?_))
  cases e with
  |exit id' =>
   simp only[zeH] at hq
   simp only[Exit.inBlock]
   split
   ·rename_i hid;rw[if_pos hid] at hq;exact hQ _ s' a' w' hR' hq
   ·rename_i hid;rw[if_neg hid] at hq;exact hQ _ s' a' w' hR' hq
  |_=>exact hQ _ s' a' w' hR' hq
 |loop c ih =>
  intro Q Q' s a w hok hod hR h hQ
  obtain⟨ι,I,ok,μ,⟨x0,hx0,hw0⟩,hround⟩:=h
  refine wp_loop_ghost (fun m a w=>∃x,ok x∧μ x=m∧Rel S0 w0 n (I x) a w) (μ x0) ⟨x0,hx0,rfl,hR.weak hw0⟩ ?_
  rintro m a1 w1 ⟨x,hx,rfl,hR1⟩
  refine ih _ _ (I x) a1 w1 hok hod hR1 (hround x hx) (fun e s' a' w' hR' hq=>?_)
  cases e with
  |normal =>
   obtain⟨y,hy,hlt,hwk⟩:=hq
   exact⟨μ y,hlt,y,hy,rfl,hR'.weak hwk⟩
  |_=>exact hQ _ s' a' w' hR' hq
 |_=>intro Q Q' s a w _ _ _ h _;exact h.elim
def zJo(P:Program)(s:St):ResultVar→Prop×Option XV
 |.tmp t=>argX s (.tmp t)
 |.cell t ty=>match zeD (tk P ty) (zbp P ty) (sv s (.tmp t)).1 (mem s (sv s (.tmp t)).2) with
  |(p,.x xv)=>(p,some xv)
  |_=>(False,none)
def ziI(P:Program)(s:St):List ResultVar→Prop×Option (List XV)
 |[]=>(True,some [])
 |x::r=>match zJo P s x,ziI P s r with
  |(p,some v),(q,some vs)=>(p∧q,some (v::vs))
  |_,_=>(False,none)
def Gives(P:Program)(s:St)(rs:List ResultVar)(r:RV):Prop:=
 match ziI P s rs with
 |(p,some [x])=>p∧r=.x x
 |(p,some xs)=>p∧r=.tup xs
 |_=>False
def zQQ(tmps:Array Value):ResultVar→Sem Value
 |.tmp t=>pure (tmps.getD t undef)
 |.cell t ty=>do loadVar ty (←asAddr (tmps.getD t undef))
theorem zjr(fn:Func)(tmps:Array Value):results fn tmps=(do
  let vs ←fn.results.mapM (zQQ tmps)
  pure (if h:vs.size=1 then vs[0] else .tuple vs)):=rfl
def ziV:List XV→Nat→St
 |[],_=>fun _=>.dead
 |x::r,k=>fun i=>if i=k then .x x else ziV r (k+1) i
mutual
def CV.ok:CV→Prop
 |.str l=>l.length≤maxLen
 |.list size xs=>xs.length≤maxLen∧CV.zrx size xs
 |_=>True
def CV.zrx(size:Nat):List (List CV)→Prop
 |[]=>True
 |x::r=>x.length=size∧CV.okL x∧CV.zrx size r
def CV.okL:List CV→Prop
 |[]=>True
 |c::r=>c.ok∧CV.okL r
end
def XV.ok:XV→Prop
 |.one c=>c.ok
 |.agg cs=>CV.okL cs
theorem zpo:∀{cs:List CV},(∀c∈cs,c.ok)→CV.okL cs
 |[],_=>by simp[CV.okL]
 |c::r,h=>by
  simp only[CV.okL]
  exact⟨h c (by simp),zpo (fun c' hc=>h c' (by simp[hc]))⟩
theorem zlg{size:Nat}:∀{xs:List (List CV)},(∀x∈xs,x.length=size)→(∀x∈xs,∀c∈x,CV.ok c)→CV.zrx size xs
 |[],_,_=>by simp[CV.zrx]
 |x::r,h,k=>by
  simp only[CV.zrx]
  exact⟨h x (by simp),zpo (k x (by simp)),zlg (fun y hy=>h y (by simp[hy])) (fun y hy=>k y (by simp[hy]))⟩
theorem zaH.ok{S:Nat→Prop}{c:CV}{v:Value}(h:zaH w S c v):c.ok:=by
 induction h with
 |str l h=>simpa only[CV.ok] using h
 |empty a cap size h=>simp only[CV.ok]
 |clo f caps U h ih=>simp only[CV.ok]
 |list0 a cap size h hn=>simp only[CV.ok,CV.zrx,List.length_nil];exact⟨Nat.zero_le _,trivial⟩
 |list ad cap size xs U hs hsp hc hm hx hU hr ih =>
  simp only[CV.ok]
  refine⟨by omega,zlg hx (fun x hx' c hc'=>?_)⟩
  obtain⟨j,hj⟩:=List.getElem?_of_mem (List.mem_flatten.2 ⟨x,hx',hc'⟩:c∈xs.flatten)
  exact ih j c hj
 |_=>simp only[CV.ok]
theorem zbL.ok{S:Nat→Prop}{x:XV}{v:Value}(h:zbL w S x v):x.ok:=by
 cases x with
 |one c=>exact zaH.ok h
 |agg cs =>
  obtain⟨us,_,hl⟩:=h
  refine zpo (fun c hc=>?_)
  obtain⟨j,hj⟩:=List.getElem?_of_mem hc
  obtain⟨u,_,hr⟩:=hl.2 j c hj
  exact hr.ok
def zfl(r:RV)(q:Prop×Option (List XV)):Prop:=match q with
 |(p,some [x])=>p∧okR r (.x x)
 |(p,some xs)=>p∧okR r (.tup xs)
 |_=>False
theorem zxu{s:St}{rs:List ResultVar}{r:RV}(h:zfl r (ziI P s rs)):∃r',Gives P s rs r'∧okR r r':=by
 unfold zfl at h
 unfold Gives
 split at h
 ·exact⟨_,⟨h.1,rfl⟩,h.2⟩
 ·rename_i p xs hne e
  refine⟨.tup xs,?_,h.2⟩
  cases xs with
  |nil=>exact⟨h.1,rfl⟩
  |cons x r=>cases r with
   |nil=>exact absurd rfl (hne x)
   |cons y r=>exact⟨h.1,rfl⟩
 ·exact h.elim
def zh3:ResultVar→Operand
 |.tmp t=>.tmp t
 |.cell _ _=>.const (.bool true)
def zdt:List AV→Nat→Prop
 |[],_=>True
 |o::_,0=>o=.dead
 |_::r,i+1=>zdt r i
def zpj(outs:List AV)(e z:Nat)(xs:List (List CV))(i:Nat)(len:Option Nat):AV→Prop
 |.own e' z' xs'=>e'=e∧z'=z∧xs=(match len with | some k=>xs'.take k | none=>xs')∧zdt outs i
 |_=>False
def zDZ(s:St)(outs:List AV)(e z:Nat)(xs:List (List CV))(t:Nat):AV→Prop
 |.own e' z' xs'=>zpj outs e z xs t none (.own e' z' xs')
 |.alias i=>zpj outs e z xs i none (s i)
 |.view i _ len true=>zpj outs e z xs i (some len) (s i)
 |.x (.one .nil)=>xs=[]
 |_=>False
def zfZ(P:Program)(s:St)(rs:List ResultVar)(outs:List AV)(r:RV):Prop:=
 match r with
 |.own e z xs=>match rs with
  |[.tmp t]=>zDZ s outs e z xs t (s t)
  |_=>False
 |r=>zfl r (ziI P s rs)
def zd8(s:St)(rs:List ResultVar)(r:RV):St:=
 match r with
 |.own _ _ _=>s
 |_=>zas s (zaX s (rs.map zh3))
def zcj(s:St):Nat→List AV→Prop
 |_,[]=>True
 |k,o::r=>(match o with | .dead=>True | o=>s k=o)∧zcj s (k+1) r
theorem zlM{s:St}:∀{k:Nat} {l:List AV},zcj s k l→∀(j:Nat) (o:AV),l[j]?=some o→o≠.dead→s (k+j)=o
 |k,[],_,j,o,h,_=>by simp at h
 |k,o::r,h,j,o',hj,hne=>by
  obtain⟨h1,h2⟩:=h
  cases j with
  |zero =>
   simp at hj;subst hj
   cases o<;>first | exact h1 | exact absurd rfl hne
  |succ j =>
   simp at hj
   have:=zlM h2 j o' hj hne
   rw[←this];congr 1;omega
theorem zn8:∀{l:List AV} {i:Nat} {o:AV},zdt l i→l[i]?=some o→o=.dead
 |[],i,o,_,h=>by simp at h
 |a::r,0,o,h,h'=>by simp at h';subst h';exact h
 |a::r,i+1,o,h,h'=>by simp at h';exact zn8 (l:=r) h h'
def zei:List AV→Nat→St
 |[],_=>fun _=>.dead
 |x::r,k=>fun i=>if i=k then x else zei r (k+1) i
theorem zkS:∀(args:List AV) (k i:Nat),zei args k i=((if k≤i then args[i-k]? else none).getD .dead)
 |[],k,i=>by simp[zei]
 |x::r,k,i=>by
  simp only[zei]
  by_cases h:i=k
  ·subst h;simp
  ·rw[if_neg h,zkS r (k+1) i]
   by_cases hk:k≤i
   ·have h1:k+1≤i:=by omega
    have h2:i-k=(i-(k+1))+1:=by omega
    rw[if_pos h1,if_pos hk,h2]
    simp
   ·rw[if_neg (by omega),if_neg hk]
theorem zoE:∀(args:List XV) (k:Nat),ziV args k=zei (args.map .x) k
 |[],k=>rfl
 |x::r,k=>by
  funext i
  simp only[ziV,zei,List.map_cons,zoE r (k+1)]
def AV.ok:AV→Prop
 |.x v=>v.ok
 |.box cs=>CV.okL cs
 |.own _ size xs=>xs.length≤maxLen∧CV.zrx size xs
 |_=>True
theorem zbP.okL{S:Nat→Prop}{cs:List CV}{us:List Value}(h:zbP w S cs us):CV.okL cs:=by
 refine zpo (fun c hc=>?_)
 obtain⟨j,hj⟩:=List.getElem?_of_mem hc
 obtain⟨u,_,hr⟩:=h.2 j c hj
 exact hr.ok
theorem zaQ.ok{S:Nat→Prop}{B:Nat→Prop}{s:St}{tm:Nat→Value}{x:AV}{v:Value}(h:zaQ w S B s tm x v):x.ok:=by
 cases x with
 |x v=>exact zbL.ok h
 |box cs=>obtain⟨b,arr,t,_,_,hl,_⟩:=h;exact hl.okL
 |own e z xs =>
  obtain⟨us,_,hl,hx,hm,_⟩:=h
  refine⟨hm,zlg hx (fun y hy c hc=>?_)⟩
  obtain⟨j,hj⟩:=List.getElem?_of_mem (List.mem_flatten.2 ⟨y,hy,hc⟩:c∈xs.flatten)
  obtain⟨u,_,hr⟩:=hl.2 j c hj
  exact hr.ok
 |_=>trivial
theorem zr9(hR:Rel S0 w0 n s a w){x:ResultVar}{p:Prop}{xv:XV}(h:zJo P s x=(p,some xv))(hp:p)(l:List Nat)(hl:∀i∈zaX s [zh3 x],i∈l) :
  ∃v,(zQQ a.tmps x).run P w=.ok v w∧zbL w (Shared S0 w0.heap.size w (zas s l) (zai a)) xv v:=by
 cases x with
 |tmp t=>exact⟨_,rfl,zhO hR h hp l (fun i hi=>hl i (zjh (x:=.tmp t) (by simp[zh3]) hi))⟩
 |cell t ty =>
  have hsub:∀b,Shared S0 w0.heap.size w s (zai a) b→Shared S0 w0.heap.size w (zas s l) (zai a) b:=fun b hb=>⟨hb.1,hb.2.1,fun k hk=>by
   have ho:(zas s l k).zaa=true:=by
    cases ho:(zas s l k).zaa with
    |true=>rfl
    |false=>rw[zao ho] at hk;cases hk
   rw[zc0 l s k ho] at hk
   exact hb.2.2 k hk⟩
  simp only[zJo] at h
  split at h
  ·rename_i q xv' e
   simp only[Prod.mk.injEq,Option.some.injEq] at h
   obtain⟨rfl,rfl⟩:=h
   obtain⟨v,hrun,hrep,_⟩:=zsY (P:=P) (t:=ty) (v:=a.eval (.tmp t)) (fun hp cs hm=>hR.mem (hR.sv (.tmp t) hp) hm) (by rw[e];exact hp)
   rw[e] at hrep
   refine⟨v,?_,zbL.mono hrep hsub (fun _ _=>rfl)⟩
   have he:a.eval (.tmp t)=a.tmps.getD t undef:=rfl
   rw[he] at hrun
   show (do loadVar ty (←asAddr (a.tmps.getD t undef)):Sem Value).run P w=.ok v w
   generalize a.tmps.getD t undef=u at hrun ⊢
   unfold Instr.loadAt Instr.sureAddr at hrun
   unfold asAddr
   cases u with
   |pointer o=>cases o with
    |some ad=>exact hrun
    |none=>simp at hrun
   |_=>simp at hrun
  ·simp at h
theorem zpY(hR:Rel S0 w0 n s a w)(l:List Nat):∀{rs:List ResultVar} {p:Prop} {xs:List XV},ziI P s rs=(p,some xs)→p→(∀i∈zaX s (rs.map zh3),i∈l) →
  ∃vs:List Value,(rs.mapM (zQQ a.tmps)).run P w=.ok vs w∧vs.length=xs.length∧∀(j:Nat) (x:XV),xs[j]?=some x→∃u,vs[j]?=some u∧zbL w (Shared S0 w0.heap.size w (zas s l) (zai a)) x u:=by
 intro rs
 induction rs with
 |nil =>
  intro p xs h _ _
  simp only[ziI,Prod.mk.injEq,Option.some.injEq] at h
  obtain⟨_,rfl⟩:=h
  exact⟨[],rfl,rfl,fun j x hj=>by simp at hj⟩
 |cons x r ih =>
  intro p xs h hp hl
  simp only[ziI] at h
  split at h
  ·rename_i q v q' vs e1 e2
   simp only[Prod.mk.injEq,Option.some.injEq] at h
   obtain⟨rfl,rfl⟩:=h
   have hl1:∀i∈zaX s [zh3 x],i∈l:=by
    intro i hi
    refine hl i ?_
    simp only[List.map_cons,zaX,List.append_nil,List.mem_append] at hi ⊢
    exact .inl hi
   have hl2:∀i∈zaX s (r.map zh3),i∈l:=by
    intro i hi
    refine hl i ?_
    simp only[List.map_cons,zaX,List.mem_append]
    exact .inr hi
   obtain⟨u,h1,h2⟩:=zr9 hR e1 hp.1 l hl1
   obtain⟨us,h3,h4,h5⟩:=ih e2 hp.2 hl2
   refine⟨u::us,?_,by simp[h4],fun j x' hj=>?_⟩
   ·simp only[List.mapM_cons,Sem.run_bind,h1,h3,Result.andThen_ok,Sem.run_pure]
   ·cases j with
    |zero=>simp at hj;subst hj;exact⟨u,rfl,h2⟩
    |succ j=>simp only[List.getElem?_cons_succ] at hj;exact h5 j x' hj
  ·simp at h
theorem zoB(hR:Rel S0 w0 n s a w){fn:Func}{r:RV}(h:zfl r (ziI P s fn.results.toList)):∃v,(results fn a.tmps).run P w=.ok v w∧zkq w (Shared S0 w0.heap.size w (zas s (zaX s (fn.results.toList.map zh3))) (zai a)) r v:=by
 have key:∀{p:Prop} {xs:List XV},ziI P s fn.results.toList=(p,some xs)→p→∃vs:List Value,(results fn a.tmps).run P w=.ok (if h:vs.length=1 then vs[0] else .tuple vs.toArray) w ∧
   vs.length=xs.length∧∀(j:Nat) (x:XV),xs[j]?=some x→∃u,vs[j]?=some u∧zbL w (Shared S0 w0.heap.size w (zas s (zaX s (fn.results.toList.map zh3))) (zai a)) x u:=by
  intro p xs e hp
  obtain⟨vs,h1,h2,h3⟩:=zpY hR (zaX s (fn.results.toList.map zh3)) e hp (fun i hi=>hi)
  refine⟨vs,?_,h2,h3⟩
  rw[zjr,←Array.toArray_toList (xs:=fn.results),List.mapM_toArray]
  simp only[Sem.run_bind,Sem.run_map,h1,Result.andThen_ok,Sem.run_pure]
  congr 1
 obtain⟨r',hg,hok⟩:=zxu h
 refine(fun ⟨v,h1,h2⟩=>⟨v,h1,zGj hok h2⟩:(∃v,(results fn a.tmps).run P w=.ok v w∧zkq w (Shared S0 w0.heap.size w (zas s (zaX s (fn.results.toList.map zh3))) (zai a)) r' v)→_) ?_
 unfold Gives at hg
 split at hg
 ·rename_i p x e
  obtain⟨hp,rfl⟩:=hg
  obtain⟨vs,h1,h2,h3⟩:=key e hp
  have hl:vs.length=1:=by simpa using h2
  rw[dif_pos hl] at h1
  obtain⟨u,hu,hr⟩:=h3 0 x rfl
  refine⟨_,h1,?_⟩
  have:vs[0]=u:=by rw[List.getElem?_eq_getElem (by omega)] at hu;injection hu
  rw[this];exact hr
 ·rename_i p xs hne e
  obtain⟨hp,rfl⟩:=hg
  obtain⟨vs,h1,h2,h3⟩:=key e hp
  have hl:¬vs.length=1:=by
   intro hl
   rw[hl] at h2
   obtain⟨y,hy⟩:=List.length_eq_one_iff.1 h2.symm
   exact hne y hy
  rw[dif_neg hl] at h1
  exact⟨_,h1,vs.toArray,rfl,by simpa using h2,fun j x hj=>by simpa using h3 j x hj⟩
 ·exact hg.elim
theorem ztU{r:RV}{q:Prop×Option (List XV)}(h:zfl r q)(v:Value):r.blk v=none:=by
 cases r with
 |own e z xs =>
  unfold zfl at h
  split at h
  ·exact h.2.elim
  ·exact h.2.elim
  ·exact h.elim
 |_=>rfl
theorem ztq{w1:World}(hR:Rel S0 w1 n s a w){fn:Func}{r:RV}{outs:List AV}(h:zfZ P s fn.results.toList outs r) :
  ∃v,(results fn a.tmps).run P w=.ok v w∧Rel S0 w1 n (zd8 s fn.results.toList r) a w∧zkq w (fun b=>(Shared S0 w1.heap.size w (zd8 s fn.results.toList r) (zai a) b∨r.blk v=some b)) r v ∧
   ∀b,r.blk v=some b→∃i,zaf (zd8 s fn.results.toList r i) (zai a i)=some b∧zdt outs i:=by
 unfold zfZ at h
 split at h
 ·rename_i e z xs
  split at h
  ·rename_i t hrs
   have hres:(results fn a.tmps).run P w=.ok (zai a t) w:=by
    rw[zjr,←Array.toArray_toList (xs:=fn.results),List.mapM_toArray,hrs]
    simp[zQQ]
   have fin:∀{v:Value} {us:List Value} (i:Nat) ,v=zai a t→w.zdS 0 e z v xs.length us→zbP w (Shared S0 w1.heap.size w s (zai a)) xs.flatten us→(∀x∈xs,x.length=z)→xs.length≤maxLen →
     (∀b,v.ownBlock=some b→zaf (s i) (zai a i)=some b∧zdt outs i) →
     ∃v,(results fn a.tmps).run P w=.ok v w∧Rel S0 w1 n (zd8 s [.tmp t] (.own e z xs)) a w∧zkq w (fun b=>(Shared S0 w1.heap.size w (zd8 s [.tmp t] (.own e z xs)) (zai a) b∨(RV.own e z xs).blk v=some b)) (.own e z xs) v ∧
      ∀b,(RV.own e z xs).blk v=some b→∃i,zaf (zd8 s [.tmp t] (.own e z xs) i) (zai a i)=some b∧zdt outs i:=by
    intro v us i hv hown hl hx hm hb
    refine⟨v,by rw[hv];exact hres,hR,⟨us,hown,hl.mono (fun b hbb=>⟨.inl hbb,fun h=>hbb.2.2 i (hb b h).1⟩) (fun _ _=>rfl),hx,hm,fun b h=>.inr h⟩,fun b h=>⟨i,hb b h⟩⟩
   rw[hrs]
   have ht:=hR.rep t
   revert h ht
   generalize hst:s t=q
   intro h ht
   unfold zDZ at h
   split at h
   ·rename_i e' z' xs'
    obtain⟨rfl,rfl,rfl,hod⟩:=h
    obtain⟨us,hown,hl,hx,hm,_⟩:=ht
    exact fin t rfl hown hl hx hm (fun b hb=>⟨by rw[hst];exact hb,hod⟩)
   ·rename_i i
    obtain⟨hv,_⟩:=ht
    have hi:=hR.rep i
    revert h hi
    generalize hsi:s i=q
    intro h hi
    unfold zpj at h
    split at h
    ·obtain⟨rfl,rfl,rfl,hod⟩:=h
     obtain⟨us,hown,hl,hx,hm,_⟩:=hi
     have hv2:zai a t=zai a i:=by rw[hv,hsi];rfl
     exact fin i hv2.symm hown hl hx hm (fun b hb=>⟨by rw[hsi];exact hb,hod⟩)
    ·exact h.elim
   ·rename_i i lo len
    have hi:=hR.rep i
    revert h hi
    generalize hsi:s i=q
    intro h hi
    unfold zpj at h
    split at h
    ·obtain⟨rfl,rfl,rfl,hod⟩:=h
     obtain⟨us,hown,hl,hx,hm,_⟩:=hi
     obtain⟨h1,h2,h3,h4⟩:=zjX hsi ht hown hl hx
     exact fin i rfl h1 h3 (fun x hx'=>hx x (List.mem_of_mem_take hx')) (by rw[List.length_take];omega) (fun b hb=>⟨by rw[hsi];exact h2 b hb,hod⟩)
    ·exact h.elim
   ·subst h
    have hv:=zdW ht
    exact fin t (us:=[]) rfl (by rw[hv];exact World.zfk w 0 e z) ⟨rfl,fun j c hj=>by simp at hj⟩ (fun x hx=>by cases hx) (by simp) (fun b hb=>by rw[hv] at hb;cases hb)
   ·exact h.elim
  ·exact h.elim
 ·rename_i hne
  have he:zd8 s fn.results.toList r=zas s (zaX s (fn.results.toList.map zh3)):=by
   unfold zd8
   split
   ·exact absurd rfl (hne _ _ _)
   ·rfl
  obtain⟨v,h1,h2⟩:=zoB hR h
  rw[he]
  refine⟨v,h1,zb3 _ _ hR,h2.mono (fun b hb=>.inl hb) (fun _ _=>rfl),fun b hb=>?_⟩
  rw[ztU h] at hb;cases hb
def zb5:List AV→Nat
 |[]=>0
 |o::r=>match o with
  |.dead=>match zb5 r with
   |0=>0
   |n+1=>n+2
  |_=>zb5 r+1
theorem zjH:∀{l:List AV} {j:Nat} {o:AV},l[j]?=some o→o≠.dead→j<zb5 l
 |[],j,o,h,_=>by simp at h
 |a::r,0,o,h,hne=>by
  simp at h;subst h
  unfold zb5
  cases a<;>first | exact absurd rfl hne | simp
 |a::r,j+1,o,h,hne=>by
  have:=zjH (l:=r) (j:=j) (by simpa using h) hne
  unfold zb5
  split
  ·split
   ·rename_i e;rw[e] at this;omega
   ·rename_i e;rw[e] at this;omega
  ·omega
theorem zgO{α:Type}:∀(l:List α),zb5 (l.map fun _=>AV.dead)=0
 |[]=>rfl
 |a::r=>by simp only[List.map_cons,zb5,zgO r]
theorem zat.mkL [Hint] {f : FuncId} {fn : Func} {c : Code} {args : List AV} {r : RV} {outs : List AV} (hm : P.follows .mixedOrders = true) (hf : P.funcs[f]? = some fn) (hname : (fn.name == "runtime.NumGoroutine") = false)
  (hb:fn.body=some c)(hok:codeOk c=true)(hod:zbY (zb5 outs) c=true)(hl:args.length≤fn.ntmps)(hfit:zaU args outs=true){Qa:Exit→St→Prop}(lk lf:List (Nat×Nat))(hlk:lk=[]∨args.length≤999999)
  (hQa:∀e s,Qa e s→(e=.normal∨e=.ret)∧zfZ P (zgu s lf) fn.results.toList outs r∧zcj (zd8 (zgu s lf) fn.results.toList r) 0 outs)
  (h:(∀x∈args,x.ok)→awp P fn.ntmps c Qa (zvG (zei args 0) lk)):zat P f args r outs:=by
 refine⟨⟨fn,hf,hname,by rw[hb];rfl⟩,hfit,fun w E0 vs hE0 hargs=>?_⟩
 have hargok:∀x∈args,x.ok:=by
  intro x hx
  obtain⟨j,hj⟩:=List.getElem?_of_mem hx
  exact(hargs.rep j x hj).2.ok
 refine calls_of_wp hf hb ?_
 have hsz:vs.size≤fn.ntmps:=Nat.le_trans hargs.size hl
 have htm:∀i,zai { tmps:=vs++Array.replicate (fn.ntmps-vs.size) undef,defers:=[] } i=tmV vs i:=by
  intro i
  simp only[zai,tmV,Array.getD_eq_getD_getElem?,Array.getElem?_append]
  split
  ·rfl
  ·rename_i hi
   rw[Array.getElem?_eq_none (by omega:vs.size≤i),Array.getElem?_replicate]
   split<;>rfl
 have htmf:zai { tmps:=vs++Array.replicate (fn.ntmps-vs.size) undef,defers:=[] }=tmV vs:=funext htm
 let E:Env:=⟨E0.rd,E0.lent,zb5 outs,tmV vs⟩
 have hE:Base E w:=⟨hE0.rd,hE0.lent,hE0.apart,hE0.amb,hE0.far⟩
 have hinit:∀i,zei args 0 i=zbo args i:=fun i=>by rw[zkS];simp[zbo]
 have hinitf:zei args 0=zbo args:=funext hinit
 have hcase:∀i,zbo args i=.dead∨∃x,args[i]?=some x∧zbo args i=x∧zjc args x=true∧zaQ w E0.rd E0.lent (zbo args) (tmV vs) x (tmV vs i):=by
  intro i
  cases hx:args[i]? with
  |none=>left;unfold zbo;rw[hx];rfl
  |some x =>
   obtain⟨hbr,hr⟩:=hargs.rep i x hx
   exact .inr ⟨x,rfl,by unfold zbo;rw[hx];rfl,hbr,hr⟩
 have hblk:∀i b,zaf (zbo args i) (tmV vs i)=some b→E0.lent b:=by
  intro i b hbb
  rcases hcase i with h | ⟨x,h1,h3,h4,h5⟩
  ·rw[h] at hbb;cases hbb
  ·rw[h3] at hbb;exact(h5.zbk hbb).1
 have hR:Rel E w fn.ntmps (zei args 0) { tmps:=vs++Array.replicate (fn.ntmps-vs.size) undef,defers:=[] } w:=by
  rw[hinitf]
  refine⟨rfl,by simp;omega,Kept.refl _ _,hE,fun i=>?_,fun i j b hi hj=>?_,fun i hi=>?_,fun i j hij=>?_,fun j hj=>htm j⟩
  ·rw[htmf]
   rcases hcase i with h | ⟨x,h1,h3,h4,h5⟩
   ·rw[h];trivial
   ·rw[h3]
    refine h5.zjc h4 (fun b hb=>⟨.inl hb,hE0.rd b hb,fun k hk=>?_⟩) (fun b _ hb=>.inr hb)
    exact hE0.apart b hb (hblk k b hk)
  ·rw[htm] at hi hj
   rcases hcase i with h | ⟨x,h1,h3,h4,h5⟩
   ·rw[h] at hi;cases hi
   rcases hcase j with h | ⟨y,k1,k3,k4,k5⟩
   ·rw[h] at hj;cases hj
   rw[h3] at hi
   rw[k3] at hj
   exact hargs.inj i j x y b h1 hi k1 hj
  ·unfold zbo;rw[List.getElem?_eq_none (by omega)];rfl
  ·rcases hcase i with h | ⟨x,h1,h3,h4,h5⟩
   ·rw[h] at hij;cases hij
   ·rw[h3] at hij;exact zn9 h4 hij
 have hRv:Rel E w fn.ntmps (Ab.zvG (zei args 0) lk) { tmps:=vs++Array.replicate (fn.ntmps-vs.size) undef,defers:=[] } w:=by
  rcases hlk with rfl | hlk
  ·exact hR
  ·exact hR.zvG (by rw[hinit];unfold zbo;rw[List.getElem?_eq_none (show args.length≤MARK from hlk)];rfl) lk
 refine zwX hm c _ _ _ _ _ hok hod hRv (h hargok) (fun e s0' a' w' hR0' hq=>?_)
 obtain⟨he,hg,hout⟩:=hQa _ _ hq
 have hR':=hR0'.zgu lf
 generalize Ab.zgu s0' lf=s' at hR' hg hout
 obtain⟨v,hrun,hR2,hrep,hrb⟩:=ztq hR' hg
 obtain⟨hfl,hfa⟩:=zbe hfit
 generalize zd8 s' fn.results.toList r=s2 at hR2 hrep hrb hout
 have hpin:∀j,j<zb5 outs→zai a' j=tmV vs j:=fun j hj=>hR2.pin j hj
 have houts:∀(j:Nat) (o:AV),outs[j]?=some o→o≠.dead→s2 j=o∧zai a' j=tmV vs j:=by
  intro j o h1 h3
  have:=zlM hout j o h1 h3
  rw[Nat.zero_add] at this
  exact⟨this,hpin j (zjH h1 h3)⟩
 have hno:∀(b:Nat),zlL outs vs b→∃(j:Nat) (o:AV),outs[j]?=some o∧o≠.dead∧zaf (s2 j) (zai a' j)=some b:=by
  rintro b ⟨j,o,h1,h3⟩
  have hne:o≠.dead:=by rintro rfl;cases h3
  obtain⟨h4,h5⟩:=houts j o h1 hne
  exact⟨j,o,h1,hne,by rw[h4,h5];exact h3⟩
 have hafter:∀b,Shared E w.heap.size w' s2 (zai a') b→After w w' E0 outs vs b:=by
  intro b hb
  refine⟨?_,fun ho=>?_⟩
  ·rcases hb.1 with h | h | h
   ·exact .inl h
   ·exact .inr (.inr ⟨h,hb.2.1⟩)
   ·exact .inr (.inl h)
  ·obtain⟨j,o,_,_,h⟩:=hno b ho
   exact hb.2.2 j h
 have hblkA:∀b,r.blk v=some b→After w w' E0 outs vs b∧¬E0.rd b:=by
  intro b hb
  obtain⟨i,hi,hod'⟩:=hrb b hb
  obtain⟨h1,h2⟩:=(hR2.rep i).zbk hi
  refine⟨⟨?_,fun ho=>?_⟩,fun hrd=>?_⟩
  ·rcases h1 with h | h
   ·exact .inr (.inr ⟨h,h2⟩)
   ·exact .inr (.inl h)
  ·obtain⟨j,o,h3,h4,h5⟩:=hno b ho
   have:=hR2.inj i j b hi h5
   subst this
   exact h4 (zn8 hod' h3)
  ·rcases h1 with h | h
   ·have:=hE0.rd b hrd;omega
   ·exact hE0.apart b hrd h
 have hnb:∀b,Shared E w.heap.size w' s2 (zai a') b→r.blk v≠some b:=by
  intro b hb h
  obtain⟨i,hi,_⟩:=hrb b h
  exact hb.2.2 i hi
 have hfin:a'.defers=[]∧∃v,(results fn a'.tmps).run P w'=.ok v w'∧∃v',Ending.returned v=.returned v'∧Kept E0.lent w w'∧zkq w' (After w w' E0 outs vs) r v'∧(∀b,r.blk v'=some b→After w w' E0 outs vs b∧¬E0.rd b) ∧
   ∀(j:Nat) (o:AV),outs[j]?=some o→zaQ w' (fun b=>After w w' E0 outs vs b∧r.blk v'≠some b) E0.lent zkd zDA o (tmV vs j):=by
  refine⟨hR'.defers,v,hrun,v,rfl,hR'.below,hrep.mono (fun b hb=>hb.elim (hafter b) (fun h=>(hblkA b h).1)) (fun _ _=>rfl),hblkA,fun j o h1=>?_⟩
  by_cases hne:o=.dead
  ·subst hne;trivial
  obtain⟨h3,h4⟩:=houts j o h1 hne
  have hlt:j<args.length:=by rw[hfl];exact(List.getElem?_eq_some_iff.1 h1).1
  obtain⟨x,hx⟩:∃x,args[j]?=some x:=⟨_,List.getElem?_eq_getElem hlt⟩
  have hff:=hfa j x o hx h1
  obtain⟨hbx,hrx⟩:=hargs.rep j x hx
  have hr:=hR2.rep j
  rw[h3,h4] at hr
  have hbo:o.bare=true:=by cases x<;>cases o<;>first | rfl | (simp[zau] at hff)
  exact hr.bare hbo (fun b hb=>⟨hafter b hb,hnb b hb⟩) (fun b hb _=>(hrx.zbk (zwj hff hrx hb)).1)
 rcases he with rfl | rfl
 ·exact hfin
 ·exact hfin
theorem zab.ofM{f:FuncId}{args:List XV}{r:RV}(h:zat P f (args.map .x) r (args.map fun _=>.dead)):zab P f args r:=by
 refine⟨h.1,fun w S vs hS hargs=>?_⟩
 have hnob:∀(j:Nat) (x:AV) (u:Value) (b:Nat),(args.map AV.x)[j]?=some x→zaf x u=some b→False:=by
  intro j x u b hj hb
  rw[List.getElem?_map] at hj
  cases hx:args[j]? with
  |none=>rw[hx] at hj;cases hj
  |some y=>rw[hx] at hj;injection hj with hj;subst hj;cases hb
 have hnow:∀b,¬zlL (args.map fun _=>AV.dead) vs b:=by
  rintro b ⟨j,o,h1,h3⟩
  rw[List.getElem?_map] at h1
  cases hx:args[j]? with
  |none=>rw[hx] at h1;cases h1
  |some y=>rw[hx] at h1;injection h1 with h1;subst h1;cases h3
 refine(h.2.2 w ⟨S,fun _=>False,0,fun _=>undef⟩ vs hS ⟨by simp[hargs.1],fun j x hj=>?_,fun i j x y b h1 h3=>(hnob i x _ b h1 h3).elim,fun b hb=>hb.elim⟩).mono ?_
 ·rw[List.getElem?_map] at hj
  cases hx:args[j]? with
  |none=>rw[hx] at hj;cases hj
  |some y =>
   rw[hx] at hj
   injection hj with hj
   subst hj
   obtain⟨u,hu,hr⟩:=hargs.2 j y hx
   exact⟨rfl,by rw[zc7 hu];exact hr⟩
 ·rintro e w' ⟨v,rfl,hk,hr,hb,_⟩
  refine⟨v,rfl,hk.below (fun _ h=>h),hr.mono (fun b hb=>?_) (fun _ _=>rfl),fun b hbb=>?_⟩
  ·rcases hb.1 with h | h | h
   ·exact .inl h
   ·exact h.elim
   ·exact .inr h
  ·obtain⟨⟨h1,_⟩,h2⟩:=hb b hbb
   rcases h1 with h | h | h
   ·exact absurd h h2
   ·exact h.elim
   ·exact h.1
theorem zlf{s:St}{α:Type}:∀(l:List α) (k:Nat),zcj s k (l.map fun _=>AV.dead)
 |[],_=>trivial
 |_::r,k=>⟨trivial,zlf r (k+1)⟩
theorem zeL{α:Type}:∀(l:List α) (i:Nat),zdt (l.map fun _=>AV.dead) i
 |[],_=>by unfold zdt;trivial
 |_::r,0=>rfl
 |_::r,i+1=>zeL r i
theorem zgl:∀l:List XV,zaU (l.map .x) (l.map fun _=>AV.dead)=true
 |[]=>rfl
 |_::r=>by simp[zaU,zau,zgl r]
theorem zat.mk [Hint] {f : FuncId} {fn : Func} {c : Code} {args : List AV} {r : RV} {outs : List AV} (hm : P.follows .mixedOrders = true) (hf : P.funcs[f]? = some fn) (hname : (fn.name == "runtime.NumGoroutine") = false)
  (hb:fn.body=some c)(hok:codeOk c=true)(hod:zbY (zb5 outs) c=true)(hl:args.length≤fn.ntmps)(hfit:zaU args outs=true){Qa:Exit→St→Prop}
  (hQa:∀e s,Qa e s→(e=.normal∨e=.ret)∧zfZ P s fn.results.toList outs r∧zcj (zd8 s fn.results.toList r) 0 outs)
  (h:(∀x∈args,x.ok)→awp P fn.ntmps c Qa (zei args 0)):zat P f args r outs:=zat.mkL hm hf hname hb hok hod hl hfit [] [] (.inl rfl) hQa h
theorem zab.mk [Hint] {f : FuncId} {fn : Func} {c : Code} {args : List XV} {r : RV} (hm : P.follows .mixedOrders = true) (hf : P.funcs[f]? = some fn) (hname : (fn.name == "runtime.NumGoroutine") = false)
  (hb:fn.body=some c)(hok:codeOk c=true)(hl:args.length≤fn.ntmps)
  (h:(∀x∈args,x.ok)→awp P fn.ntmps c (fun e s=>(e=.normal∨e=.ret)∧zfZ P s fn.results.toList [] r) (ziV args 0)):zab P f args r:=by
 refine zab.ofM (zat.mk hm hf hname hb hok (by rw[zgO];exact zg3 c) (by simpa using hl) (zgl args) (Qa:=fun e s=>(e=.normal∨e=.ret)∧zfZ P s fn.results.toList [] r) (fun e s hq=>⟨hq.1,?_,zlf args 0⟩) (fun hx=>by rw[←zoE];exact h (fun x hx'=>hx (.x x) (List.mem_map.2 ⟨x,hx',rfl⟩))))
 have hgive:=hq.2
 unfold zfZ at hgive ⊢
 split at hgive
 ·split at hgive
  ·unfold zDZ at hgive ⊢
   split at hgive
   ·exact⟨hgive.1,hgive.2.1,hgive.2.2.1,zeL args _⟩
   ·unfold zpj at hgive ⊢
    split at hgive
    ·exact⟨hgive.1,hgive.2.1,hgive.2.2.1,zeL args _⟩
    ·exact hgive.elim
   ·unfold zpj at hgive ⊢
    split at hgive
    ·exact⟨hgive.1,hgive.2.1,hgive.2.2.1,zeL args _⟩
    ·exact hgive.elim
   ·exact hgive
   ·exact hgive.elim
  ·exact hgive.elim
 ·exact hgive
end
end Go.Ab
