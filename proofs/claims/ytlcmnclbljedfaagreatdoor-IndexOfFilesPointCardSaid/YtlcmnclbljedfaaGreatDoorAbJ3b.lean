/- A part of the proof: lemmas and contracts of functions. -/
import Derived.Test.YtlcmnclbljedfaaGreatDoorAbJ3
set_option linter.all false
namespace Go.Ab
open Go Go.RowKit
variable [Amb]
def appU (o:Oper):Bool:=match o.op with
 | .call c=>match c.callee with
  | .builtin .append=>o.guard.isNone
  | _=>false
 | _=>false
def takes (s:St) (v:AV):Option Nat:=match sourceOf s v with
 | some (some i,_)=>some i
 | _=>none
def takeSt (s:St):Option Nat→St
 | some i=>put s i .dead
 | none=>s
def AV.isSl:AV→Bool
 | .own _ _ _=>true
 | .gown _ _ _ _=>true
 | _=>false
theorem isSl_owner {a:AV} (h:a.isSl=true):a.isOwner=true:=by cases a<;>first | rfl | cases h
theorem takes_own {s:St} {v:AV} {i:Nat} (h:takes s v=some i):(s i).isSl=true∧v.refs i=true:=by
 unfold takes at h
 split at h
 ·rename_i j q hs
  injection h with h
  subst h
  unfold sourceOf at hs
  split at hs
  ·simp at hs
  ·split at hs
   ·rename_i e z xs e1
    simp only [Option.some.injEq,Prod.mk.injEq] at hs
    obtain ⟨rfl,_⟩:=hs
    exact ⟨by rw [e1];rfl,by simp [AV.refs]⟩
   ·rename_i v e z xs e1
    simp only [Option.some.injEq,Prod.mk.injEq] at hs
    obtain ⟨rfl,_⟩:=hs
    exact ⟨by rw [e1];rfl,by simp [AV.refs]⟩
   ·cases hs
  ·split at hs
   ·rename_i e z xs e1
    simp only [Option.some.injEq,Prod.mk.injEq] at hs
    obtain ⟨rfl,_⟩:=hs
    exact ⟨by rw [e1];rfl,by simp [AV.refs]⟩
   ·cases hs
  ·cases hs
 ·cases h
section
variable {P:Program} {s s1:St}
theorem aappend_st {t t':TypeId} {x y:Prop×AV} (h:(aappend P s t t' x y).1):(aappend P s t t' x y).2.1=takeSt s (takes s x.2)∧∃e z xs,(aappend P s t t' x y).2.2=.own e z xs:=by
 unfold aappend at h ⊢
 unfold takes
 split at h
 ·rename_i l e0
  unfold aappendS at h ⊢
  split at h
  ·rename_i e1 e2;simp only [e1,e2];exact ⟨rfl,_,_,_,rfl⟩
  ·rename_i e1 e2;simp only [e1,e2];exact ⟨rfl,_,_,_,rfl⟩
  ·exact h.elim
 ·unfold aappend0 at h ⊢
  split at h
  ·rename_i e1
   split at h
   ·rename_i e2 e3 e4;simp only [e1,e2,e3,e4];exact ⟨rfl,_,_,_,rfl⟩
   ·rename_i e2 e3 e4;simp only [e1,e2,e3,e4];exact ⟨rfl,_,_,_,rfl⟩
   ·rename_i e2 e3 e4
    split at h
    ·rename_i e5;simp only [e1,e2,e3,e4,e5];exact ⟨rfl,_,_,_,rfl⟩
    ·exact h.elim
   ·exact h.elim
  ·exact h.elim
theorem aappend_congr {t t':TypeId} {x y:Prop×AV} (h1:sourceOf s1 x.2=sourceOf s x.2) (h2:∀size,newsOf s1 size y.2=newsOf s size y.2) :
  ((aappend P s1 t t' x y).1↔(aappend P s t t' x y).1)∧(aappend P s1 t t' x y).2.2=(aappend P s t t' x y).2.2:=by
 unfold aappend
 cases strOf y.2 with
 | some l =>
  dsimp only
  unfold aappendS
  rw [h1]
  split<;>exact ⟨Iff.rfl,rfl⟩
 | none =>
  dsimp only
  unfold aappend0
  split
  ·rw [h1,h2]
   split
   ·exact ⟨Iff.rfl,rfl⟩
   ·exact ⟨Iff.rfl,rfl⟩
   ·split<;>exact ⟨Iff.rfl,rfl⟩
   ·exact ⟨Iff.rfl,rfl⟩
  ·exact ⟨Iff.rfl,rfl⟩
theorem sourceOf_congr {v:AV} (h:∀b,v.refs b=true→s1 b=s b):sourceOf s1 v=sourceOf s v:=by
 unfold sourceOf
 split
 ·rfl
 ·simp only [h _ (beq_self_eq_true _)]
 ·simp only [h _ (beq_self_eq_true _)]
 ·rfl
def bareV (s:St):AV→Bool
 | .x _=>true
 | .elem _=>true
 | .ptr i _=>match s i with
  | .box _=>true
  | _=>false
 | .alias i=>match s i with
  | .mp _ _ _=>true
  | _=>false
 | .cond _ v=>bareV s v
 | _=>false
def AV.bx:AV→Bool
 | .box _=>true
 | .mp _ _ _=>true
 | _=>false
theorem bx_owner {a:AV} (h:a.bx=true):a.isOwner=true:=by cases a<;>first | rfl | cases h
theorem bx_sl {a:AV} (h:a.bx=true):a.isSl=false:=by cases a<;>first | rfl | cases h
theorem bx_refs {a:AV} (h:a.bx=true) (j:Nat):a.refs j=false:=by cases a<;>first | rfl | cases h
def notAny:AV→Bool
 | .x (.one .any)=>false
 | _=>true
def bareArgs:Op→Option (List Operand)
 | .move x=>some [x]
 | .nilCheck x=>some [x]
 | .load _ x=>some [x]
 | .fieldAddr _ x _=>some [x]
 | .field _ x _=>some [x]
 | .extract x _=>some [x]
 | .unOp _ _ x=>some [x]
 | .convert _ _ x=>some [x]
 | .binOp _ _ x y _=>some [x,y]
 | .index _ x i=>some [x,i]
 | .pick c x y=>some [c,x,y]
 | .build _ ps=>some (ps.toList.map (·.2))
 | .buildSlice _ _ ps=>some (ps.toList.map (·.2))
 | .alloc _=>some []
 | .box _ x=>some [x]
 | .call c=>match c.callee with
  | .value f=>some (f::c.args.toList)
  | .builtin .len=>some c.args.toList
  | _=>none
 | _=>none
def bareAll (s:St):List Operand→Bool
 | []=>true
 | x::r=>bareV s (look s x)&&bareAll s r
def bareOp (P:Program) (s:St) (op:Op):Prop:=
 (match bareArgs op with
  | some l=>bareAll s l=true
  | none=>False) ∧
 match op with
 | .load t x=>notAny (aload (tk P t) (zeroX P t) (sv s x).1 (mem s (sv s x).2)).2=true
 | _=>True
theorem bareAll_at:∀{l:List Operand},bareAll s l=true→∀x∈l,bareV s (look s x)=true
 | [],_,x,h=>by cases h
 | y::r,h,x,hx=>by
  simp only [bareAll,Bool.and_eq_true] at h
  rcases List.mem_cons.1 hx with rfl | hx
  ·exact h.1
  ·exact bareAll_at h.2 x hx
theorem bareArgs_mem {op:Op} {l:List Operand} (h:bareArgs op=some l):∀x∈op.operands,x∈l:=by
 intro x hx
 cases op<;>simp only [bareArgs] at h<;>first | (cases h;done) | (injection h with h;subst h;first | (simpa [Op.operands] using hx) | (simp [Op.operands] at hx)) | skip
 rename_i c
 obtain ⟨callee,args,ts⟩:=c
 cases callee with
 | value f=>injection h with h;subst h;simpa [Op.operands,Call.operands] using hx
 | builtin b =>
  cases b<;>first | (cases h;done) | (injection h with h;subst h;simpa [Op.operands,Call.operands] using hx)
 | _=>cases h
theorem bareOp_at {op:Op} (h:bareOp P s op):∀x∈op.operands,bareV s (look s x)=true:=by
 intro x hx
 obtain ⟨h,_⟩:=h
 split at h
 ·rename_i l e
  exact bareAll_at h x (bareArgs_mem e x hx)
 ·exact h.elim
theorem bareV_refs:∀{v:AV} {b:Nat},bareV s v=true→v.refs b=true→(s b).bx=true
 | .ptr i off,b,h,hr=>by
  obtain rfl:i=b:=by simpa [AV.refs] using hr
  unfold bareV at h
  split at h
  ·rename_i cs e;rw [e];rfl
  ·cases h
 | .alias i,b,h,hr=>by
  obtain rfl:i=b:=by simpa [AV.refs] using hr
  unfold bareV at h
  split at h
  ·rename_i e;rw [e];rfl
  ·cases h
 | .cond e v,b,h,hr=>bareV_refs (v:=v) h hr
 | .x _,b,_,hr=>by cases hr
 | .elem _,b,_,hr=>by cases hr
theorem bare_agree {x:Operand} (hp:bareV s (look s x)=true) (hs:∀t,x=.tmp t→s1 t=s t) (hb:∀i,(s i).bx=true→s1 i=s i):AgreeO s s1 x:=by
 cases x with
 | tmp t =>
  refine ⟨hs t rfl,fun b hbr=>?_⟩
  have hp':bareV s (look s (.tmp t))=true:=hp
  simp only [look] at hp'
  split at hp'
  ·rename_i cs e;rw [e] at hbr;cases hbr
  ·rename_i e;simp only [bareV,e] at hp';cases hp'
  ·rename_i e;rw [e] at hbr;cases hbr
  ·cases hp'
  ·cases hp'
  ·exact hb b (bareV_refs hp' hbr)
 | _=>trivial
theorem bareV_congr:∀{v:AV},(∀b,v.refs b=true→s1 b=s b)→bareV s1 v=bareV s v
 | .ptr i off,h=>by simp only [bareV,h i (by simp [AV.refs])]
 | .alias i,h=>by simp only [bareV,h i (by simp [AV.refs])]
 | .cond e v,h=>bareV_congr (v:=v) h
 | .x _,_=>rfl
 | .elem _,_=>rfl
 | .dead,_=>rfl
 | .tup _,_=>rfl
 | .box _,_=>rfl
 | .eptr _ _ _,_=>rfl
 | .own _ _ _,_=>rfl
 | .mp _ _ _,_=>rfl
 | .view _ _ _ _,_=>rfl
 | .cloR _ _,_=>rfl
 | .link _ _ _,_=>rfl
 | .res _,_=>rfl
 | .ptr2 _ _,_=>rfl
 | .gbox _ _,_=>rfl
 | .gown _ _ _ _,_=>rfl
theorem look_agree {x:Operand} (h:AgreeO s s1 x) {b:Nat} (hb:(look s x).refs b=true):s1 b=s b:=by
 cases x with
 | tmp t =>
  simp only [look] at hb
  split at hb
  ·obtain rfl:t=b:=by simpa [AV.refs] using hb
   exact h.1
  ·obtain rfl:t=b:=by simpa [AV.refs] using hb
   exact h.1
  ·obtain rfl:t=b:=by simpa [AV.refs] using hb
   exact h.1
  ·cases hb
  ·cases hb
  ·exact h.2 b hb
 | const v =>
  simp only [look,constAV] at hb
  split at hb
  ·split at hb<;>cases hb
  ·cases hb
  ·split at hb<;>cases hb
 | _=>cases hb
theorem bareAll_congr:∀{l:List Operand},(∀x∈l,AgreeO s s1 x)→bareAll s1 l=bareAll s l
 | [],_=>rfl
 | x::r,h=>by
  have hx:=h x (by simp)
  simp only [bareAll,look_congr hx,bareV_congr (fun b hb=>look_agree hx hb),bareAll_congr (l:=r) (fun y hy=>h y (by simp [hy]))]
theorem mem_bareArgs {op:Op} {l:List Operand} (h:bareArgs op=some l):∀x∈l,x∈op.operands:=by
 intro x hx
 cases op<;>simp only [bareArgs] at h<;>first | (cases h;done) | (injection h with h;subst h;first | (simpa [Op.operands] using hx) | (simp [Op.operands] at hx)) | skip
 rename_i c
 obtain ⟨callee,args,ts⟩:=c
 cases callee with
 | value f=>injection h with h;subst h;simpa [Op.operands,Call.operands] using hx
 | builtin b =>
  cases b<;>first | (cases h;done) | (injection h with h;subst h;simpa [Op.operands,Call.operands] using hx)
 | _=>cases h
theorem bareOp_congr {op:Op} (h:∀x∈op.operands,AgreeO s s1 x):bareOp P s1 op↔bareOp P s op:=by
 have h1:(match bareArgs op with | some l=>bareAll s1 l=true | none=>False)↔(match bareArgs op with | some l=>bareAll s l=true | none=>False):=by
  cases e:bareArgs op with
  | none=>exact Iff.rfl
  | some l =>
   dsimp only
   rw [bareAll_congr (fun x hx=>h x (mem_bareArgs e x hx))]
 unfold bareOp
 rw [h1]
 cases op with
 | load t x =>
  have hx:=h x (by simp [Op.operands])
  simp only [sv_congr hx,mem_congr (fun b hb=>base_congr hx hb)]
 | _=>exact Iff.rfl
theorem bare_LK {op:Op} (h:bareOp P s op):LKok P s s1 op:=by
 cases op with
 | load t x =>
  obtain ⟨_,h⟩:=h
  unfold LKok
  dsimp only at h ⊢
  generalize aload (tk P t) (zeroX P t) (sv s x).1 (mem s (sv s x).2)=v at h
  have key:∀(t:St) (r:AV),linkLoad t r v=v:=by
   intro t r
   rcases linkLoad_or t r v with e | ⟨p,i,off,d,e,_⟩
   ·exact e
   ·rw [e] at h;cases h
  rw [key,key]
 | _=>trivial
def movesT (g:Nat):Op→Bool
 | .move (.tmp k)=>k==g
 | _=>false
def freeOf (g:Nat):List Bool→List Oper→Bool
 | f::fr,o::r=>(!f || (o.dst != some g&&!movesT g o.op))&&freeOf g fr r
 | _,_=>true
theorem freeOf_both {g:Nat}:∀{fl:List Bool} {l:List Oper} {i:Nat} {o:Oper},freeOf g fl l=true→fl[i]?=some true→l[i]?=some o→o.dst≠some g∧movesT g o.op=false
 | [],l,i,o,_,h,_=>by simp at h
 | f::fr,[],i,o,_,_,h=>by simp at h
 | f::fr,x::r,0,o,h,h1,h2=>by
  simp only [List.getElem?_cons_zero,Option.some.injEq] at h1 h2
  subst h1;subst h2
  simp only [freeOf,Bool.and_eq_true] at h
  have:=h.1
  simp only [Bool.not_true,Bool.false_or,Bool.and_eq_true,bne_iff_ne,ne_eq,Bool.not_eq_true'] at this
  exact this
 | f::fr,x::r,i+1,o,h,h1,h2=>by
  simp only [freeOf,Bool.and_eq_true] at h
  exact freeOf_both h.2 (by simpa using h1) (by simpa using h2)
theorem freeOf_at {g:Nat} {fl:List Bool} {l:List Oper} {i:Nat} {o:Oper} (h:freeOf g fl l=true) (h1:fl[i]?=some true) (h2:l[i]?=some o):o.dst≠some g:=(freeOf_both h h1 h2).1
def appOk (s:St) (d:Nat) (fl:List Bool) (ops:Array Oper):Option Nat→Prop
 | some g=>(g=d∨(s d).isOwner=false)∧freeOf g fl ops.toList=true
 | none=>(s d).isOwner=false
def appOk2 (n:Nat) (s:St) (d:Nat) (fl:List Bool) (ops:Array Oper) (x:AV) (tk:Option Nat):Prop:=
 appOk s d fl ops tk∨∃g,x=.alias g∧tk=some g∧n≤g∧(s g).isG=true∧(s d).isOwner=false
theorem srcR_congr {n dj:Nat} {s:St} {r:AV} {x x':Prop×AV} (hj:(s dj).isOwner=false) (hd:dj<n):srcR n (put s dj r) x x'↔srcR n s x x':=by
 have e:∀g,n≤g→put s dj r g=s g:=fun g hg=>by rw [put_calm hj,if_neg (by omega)]
 unfold srcR
 constructor
 ·rintro (h | ⟨p,v,g,e1,z,xs,h1,h2,h3,h4⟩)
  ·exact .inl h
  ·exact .inr ⟨p,v,g,e1,z,xs,h1,h2,by rw [←e g h2];exact h3,h4⟩
 ·rintro (h | ⟨p,v,g,e1,z,xs,h1,h2,h3,h4⟩)
  ·exact .inl h
  ·exact .inr ⟨p,v,g,e1,z,xs,h1,h2,by rw [e g h2];exact h3,h4⟩
theorem asrc_congr {n dj:Nat} {s:St} {r:AV} {x:Prop×AV} {k:Prop×AV→Prop} (hj:(s dj).isOwner=false) (hd:dj<n):asrc n (put s dj r) x k↔asrc n s x k:=by
 have e:∀g,n≤g→put s dj r g=s g:=fun g hg=>by rw [put_calm hj,if_neg (by omega)]
 unfold asrc
 split
 ·constructor
  ·rintro ⟨g,h1,⟨a,b,c,h2⟩,h3⟩;exact ⟨g,h1,⟨a,b,c,by rw [←e g h1];exact h2⟩,h3⟩
  ·rintro ⟨g,h1,⟨a,b,c,h2⟩,h3⟩;exact ⟨g,h1,⟨a,b,c,by rw [e g h1];exact h2⟩,h3⟩
 ·exact Iff.rfl
def appStep (P:Program) (n:Nat) (fl:List Bool) (ops:Array Oper) (o:Oper) (s s':St):Prop:=
 ∃d x y t t' x',o.dst=some d∧d<n∧o.op=.call ⟨.builtin .append,⟨[x,y]⟩,⟨[t,t']⟩⟩∧o.guard=none∧srcR n s (sv s x) x'∧(∀k',k' x'→asrc n s (sv s x) k')∧appOk2 n s d fl ops x'.2 (takes s x'.2) ∧
  (aappend P s t t' x' (sv s y)).1∧s'=put (aappend P s t t' x' (sv s y)).2.1 d (aappend P s t t' x' (sv s y)).2.2
def tookAt (s:St) (tk:Option Nat) (k:Nat):AV:=match tk with
 | some g=>if k=g then .dead else if (s k).refs g=true then .dead else s k
 | none=>s k
theorem app_at {s:St} {d:Nat} {tk:Option Nat} {v:AV} (hv:∀j,v.refs j=false) (ho:∀g,tk=some g→(s g).isOwner=true) (hd:tk=some d∨(s d).isOwner=false) (k:Nat) :
  put (takeSt s tk) d v k=if k=d then v else tookAt s tk k:=by
 by_cases hk:k=d
 ·subst hk;rw [if_pos rfl];exact put_same (hv k)
 ·rw [if_neg hk]
  cases tk with
  | none =>
   have hnd:(s d).isOwner=false:=by
    rcases hd with h | h
    ·cases h
    ·exact h
   show put s d v k=s k
   rw [put_calm hnd,if_neg hk]
  | some g =>
   have hog:=ho g rfl
   have hnd:(put s g .dead d).isOwner=false:=by
    by_cases hg:d=g
    ·subst hg
     have:put s d .dead d=.dead:=put_same rfl
     rw [this];rfl
    ·rcases hd with h | h
     ·injection h with h;exact absurd h.symm hg
     ·rcases put_other (s:=s) (v:=.dead) hg with e | ⟨_,_,e⟩
      ·rw [e];exact h
      ·rw [e];rfl
   show put (put s g .dead) d v k=if k=g then .dead else if (s k).refs g=true then .dead else s k
   rw [put_calm hnd,if_neg hk]
   by_cases hg:k=g
   ·subst hg
    rw [if_pos rfl]
    exact put_same rfl
   ·rw [if_neg hg]
    cases hr:(s k).refs g with
    | true=>rw [put_killed hg hog hr,if_pos rfl]
    | false=>rw [put_keeps hg hr,if_neg (by simp)]
end
section
variable {P:Program} {n:Nat} {fl:List Bool} {ops:Array Oper}
theorem bareV_sl {s:St} {g:Nat} (hg:(s g).isSl=true):bareV s (look s (.tmp g))=false:=by
 simp only [look]
 cases h:s g<;>rw [h] at hg<;>first | (simp [AV.isSl] at hg;done) | rfl | (simp only [bareV,h])
theorem bare_result {s:St} (hw:Wf s) {op:Op} (hp:bareOp P s op) {g:Nat} (hg:(s g).isSl=true) {r:AV} :
  (acalm P s op r→r.refs g=false)∧∀e,acalmG P s e op r→r.refs g=false:=by
 have hgo:(s g).isOwner=true:=isSl_owner hg
 have hw2:Wf (put s g .dead):=put_wf hw (fun j h=>by cases h)
 have hag:∀x∈op.operands,AgreeO s (put s g .dead) x:=by
  intro x hx
  have hpx:=bareOp_at hp x hx
  refine bare_agree hpx (fun t ht=>?_) (fun i hi=>?_)
  ·subst ht
   have htg:t≠g:=by rintro rfl;rw [bareV_sl hg] at hpx;cases hpx
   refine put_keeps htg ?_
   cases hr:(s t).refs g with
   | false=>rfl
   | true =>
    exfalso
    simp only [look] at hpx
    split at hpx
    ·rename_i cs e;rw [e] at hr;cases hr
    ·rename_i e;simp only [bareV,e] at hpx;cases hpx
    ·rename_i e;rw [e] at hr;cases hr
    ·cases hpx
    ·cases hpx
    ·rw [bx_sl (bareV_refs hpx hr)] at hg;cases hg
  ·have hig:i≠g:=by rintro rfl;rw [bx_sl hi] at hg;cases hg
   exact put_keeps hig (bx_refs hi g)
 have hd:(put s g .dead g).isOwner=false:=by rw [put_same rfl];rfl
 refine ⟨fun h=>?_,fun e h=>?_⟩
 ·cases hr:r.refs g with
  | false=>rfl
  | true =>
   have:=acalm_refs hw2 ((acalm_congr op r hag (bare_LK hp)).2 h) hr
   rw [hd] at this;cases this
 ·cases hr:r.refs g with
  | false=>rfl
  | true =>
   have:=acalmG_refs hw2 ((acalmG_congr op r hag (bare_LK hp)).2 h) hr
   rw [hd] at this;cases this
theorem bare_slot {s:St} {t g:Nat} (hp:bareV s (look s (.tmp t))=true) (hg:(s g).isSl=true):t≠g∧(s t).refs g=false:=by
 refine ⟨(by rintro rfl;rw [bareV_sl hg] at hp;cases hp),?_⟩
 cases hr:(s t).refs g with
 | false=>rfl
 | true =>
  exfalso
  simp only [look] at hp
  split at hp
  ·rename_i cs e;rw [e] at hr;cases hr
  ·rename_i e;simp only [bareV,e] at hp;cases hp
  ·rename_i e;rw [e] at hr;cases hr
  ·cases hp
  ·cases hp
  ·rw [bx_sl (bareV_refs hp hr)] at hg;cases hg
theorem app_swap {s:St} {d dj:Nat} {tk:Option Nat} {v r:AV} (hv:∀j,v.refs j=false) (ho:∀g,tk=some g→(s g).isSl=true∧dj≠g∧r.refs g=false) (hd:tk=some d∨(s d).isOwner=false)
  (hj:(s dj).isOwner=false) (hne:dj≠d):(∀k,put (takeSt s tk) d v k=if k=d then v else tookAt s tk k)∧(put (takeSt s tk) d v dj).isOwner=false∧put (takeSt (put s dj r) tk) d v=put (put (takeSt s tk) d v) dj r:=by
 have hos:∀g,tk=some g→(s g).isOwner=true:=fun g hg=>isSl_owner (ho g hg).1
 have hat:=app_at hv hos hd
 have hpk:∀k,put s dj r k=if k=dj then (match r.refs dj with | true=>.dead | false=>r) else s k:=fun k=>put_calm hj k
 have hpd:put s dj r d=s d:=by rw [hpk,if_neg (Ne.symm hne)]
 have hat2:=app_at (s:=put s dj r) (d:=d) (tk:=tk) (v:=v) hv (fun g hg=>by rw [hpk,if_neg (Ne.symm (ho g hg).2.1)];exact hos g hg) (by rw [hpd];exact hd)
 have hdj:(put (takeSt s tk) d v dj).isOwner=false:=by
  rw [hat,if_neg hne]
  cases tk with
  | none=>exact hj
  | some g =>
   show (if dj=g then AV.dead else if (s dj).refs g=true then .dead else s dj).isOwner=false
   rw [if_neg (ho g rfl).2.1]
   split
   ·rfl
   ·exact hj
 refine ⟨hat,hdj,?_⟩
 funext k
 rw [hat2,put_calm hdj]
 by_cases hkj:k=dj
 ·subst hkj
  rw [if_neg hne,if_pos rfl]
  have hr':put s k r k=(match r.refs k with | true=>.dead | false=>r):=by rw [hpk,if_pos rfl]
  cases tk with
  | none=>exact hr'
  | some g =>
   show (if k=g then AV.dead else if (put s k r k).refs g=true then .dead else put s k r k)=_
   rw [if_neg (ho g rfl).2.1,hr']
   have:AV.refs g (match r.refs k with | true=>AV.dead | false=>r)=false:=by
    cases r.refs k with
    | true=>rfl
    | false=>exact (ho g rfl).2.2
   rw [this,if_neg (by simp)]<;>cases r.refs k<;>rfl
 ·rw [if_neg hkj,hat]
  have hsk:put s dj r k=s k:=by rw [hpk,if_neg hkj]
  unfold tookAt
  rw [hsk]
theorem wf_own {s:St} {P:Program} {t t':TypeId} {x y:Prop×AV} (hw:Wf s):∀j,(aappend P s t t' x y).2.2.refs j=false:=(aappend_wf hw).2
theorem calm_app {oi oj:Oper} {j:Nat} {s s1 s2:St} (hw:Wf s) (hjo:ops[j]?=some oj) (hfl:fl[j]?=some true)
  (a1:∀d,oj.dst=some d→d∉oi.looksAt ops) (a2:∀d,oi.dst=some d→d∉oj.looksAt ops) (a3:∀d,oj.dst=some d→oi.dst≠some d)
  (hj:calmStep P n ops oj s s1) (hp:bareOp P s oj.op) (hi:appStep P n fl ops oi s1 s2):∃s1',appStep P n fl ops oi s s1'∧calmStep P n ops oj s1' s2∧bareOp P s1' oj.op:=by
 obtain ⟨dj,r,hdj,hjn,hoj,rfl,hvj⟩:=hj
 obtain ⟨d,x,y,t,t',x',hd,hdn,hop,hgd,hsr,has,hok,hc,rfl⟩:=hi
 have hne:dj≠d:=fun e=>a3 dj hdj (by rw [hd,e])
 have hag:∀z∈oi.op.operands,AgreeO s (put s dj r) z:=fun z hz=>agree_put hw hoj (ops_apart oi dj (a1 dj hdj) z hz)
 have hx:=hag x (by rw [hop];simp [Op.operands,Call.operands])
 have hy:=hag y (by rw [hop];simp [Op.operands,Call.operands])
 rw [sv_congr hy] at hc ⊢
 rw [sv_congr hx] at hsr has
 have hsr':=(srcR_congr hoj hjn).1 hsr
 have has':∀k',k' x'→asrc n s (sv s x) k':=fun k' h=>(asrc_congr hoj hjn).1 (has k' h)
 have hxb:∀b,x'.2.refs b=true→put s dj r b=s b:=by
  intro b hb
  rcases hsr' with rfl | ⟨p,v,g,e,z,xs,_,hng,_,rfl⟩
  ·exact base_congr hx hb
  ·obtain rfl:g=b:=by simpa [AV.refs] using hb
   have hjn':@LT.lt Nat _ dj n:=hjn
   have hne':g≠dj:=by omega
   rw [put_calm hoj,if_neg hne']
 have hsrc:sourceOf (put s dj r) x'.2=sourceOf s x'.2:=sourceOf_congr hxb
 have hnew:∀size,newsOf (put s dj r) size (sv s y).2=newsOf s size (sv s y).2:=fun size=>newsOf_congr (fun b hb=>base_congr hy hb)
 obtain ⟨hcc,hcv⟩:=aappend_congr (P:=P) (t:=t) (t':=t') (x:=x') (y:=sv s y) hsrc hnew
 have htk:takes (put s dj r) x'.2=takes s x'.2:=by unfold takes;rw [hsrc]
 have hpd:put s dj r d=s d:=by rw [put_calm hoj,if_neg (Ne.symm hne)]
 have hst2:=(aappend_st hc).1
 have hc':=hcc.1 hc
 obtain ⟨hst,e0,z0,xs0,hv0⟩:=aappend_st hc'
 rw [htk] at hst2 hok
 rw [hst2,hcv]
 generalize htke:takes s x'.2=tk at *
 have hval:(∀g,(s g).isSl=true→r.refs g=false):=by
  intro g hg
  have h:=bare_result (P:=P) hw hp hg (r:=r)
  cases hgj:oj.guard with
  | none=>rw [hgj] at hvj;exact h.1 hvj
  | some gg=>rw [hgj] at hvj;obtain ⟨e,_,hv⟩:=hvj;exact h.2 e hv
 have ho:∀g,tk=some g→(s g).isSl=true∧dj≠g∧r.refs g=false:=by
  intro g hg
  have hog:=(takes_own (htke.trans hg)).1
  refine ⟨hog,?_,hval g hog⟩
  rcases hok with hok | ⟨g',_,hg',hng,hG,_⟩
  ·rw [hg] at hok
   have:=freeOf_at hok.2 hfl (by simpa using hjo)
   rintro rfl
   exact this hdj
  ·rw [hg] at hg';injection hg' with hg'
   have hjn':@LT.lt Nat _ dj n:=hjn
   subst hg'
   intro e'
   have e2:@Eq Nat dj g:=e'
   omega
 have hdd:tk=some d∨(s d).isOwner=false:=by
  rcases hok with hok | ⟨g',_,hg',hng,hG,hod⟩
  ·cases tk with
   | none=>exact .inr (by rw [←hpd];exact hok)
   | some g =>
    rcases hok.1 with h | h
    ·exact .inl (by rw [h])
    ·exact .inr (by rw [←hpd];exact h)
  ·exact .inr (by rw [←hpd];exact hod)
 obtain ⟨hat,hdjo,hswap⟩:=app_swap (r:=r) (wf_own (P:=P) (t:=t) (t':=t') (x:=x') (y:=sv s y) hw) ho hdd hoj hne
 have hkeep:∀k,k≠d→(∀g,tk=some g→k≠g∧(s k).refs g=false)→put (takeSt s tk) d (aappend P s t t' x' (sv s y)).2.2 k=s k:=by
  intro k hk h
  rw [hat,if_neg hk]
  cases tk with
  | none=>rfl
  | some g=>show (if k=g then AV.dead else if (s k).refs g=true then .dead else s k)=s k;rw [if_neg (h g rfl).1,(h g rfl).2];simp
 have hagj:∀z∈oj.op.operands,AgreeO s (put (takeSt s tk) d (aappend P s t t' x' (sv s y)).2.2) z:=by
  intro z hz
  have hpz:=bareOp_at hp z hz
  refine bare_agree hpz (fun t0 ht=>?_) (fun i hi=>?_)
  ·subst ht
   refine hkeep t0 ?_ (fun g hg=>bare_slot hpz (ho g hg).1)
   rintro rfl
   exact ops_apart oj t0 (a2 t0 hd) _ hz rfl
  ·refine hkeep i ?_ (fun g hg=>?_)
   ·rintro rfl
    rcases hdd with h | h
    ·have e:=(ho i h).1
     rw [bx_sl hi] at e;cases e
    ·rw [bx_owner hi] at h;cases h
   ·have e:=(ho g hg).1
    exact ⟨(by rintro rfl;rw [bx_sl hi] at e;cases e),bx_refs hi g⟩
 refine ⟨put (takeSt s tk) d (aappend P s t t' x' (sv s y)).2.2,⟨d,x,y,t,t',x',hd,hdn,hop,hgd,hsr',has',?_,hc',by rw [hst]⟩,⟨dj,r,hdj,hjn,hdjo,hswap,?_⟩,(bareOp_congr hagj).2 hp⟩
 ·rw [htke]
  rcases hok with hok | ⟨g',hx',hg',hng,hG,hod⟩
  ·refine .inl ?_
   cases tk with
   | none=>show (s d).isOwner=false;rw [←hpd];exact hok
   | some g=>refine ⟨?_,hok.2⟩;rw [←hpd];exact hok.1
  ·have hjn':@LT.lt Nat _ dj n:=hjn
   have hne':¬@Eq Nat g' dj:=by omega
   exact .inr ⟨g',hx',hg',hng,by rw [put_calm hoj,if_neg hne'] at hG;exact hG,by rw [←hpd];exact hod⟩
 ·cases hgj:oj.guard with
  | none =>
   rw [hgj] at hvj
   exact (acalm_congr oj.op r hagj (bare_LK hp)).2 hvj
  | some gg =>
   rw [hgj] at hvj
   obtain ⟨e,he,hv⟩:=hvj
   refine ⟨e,?_,(acalmG_congr oj.op r hagj (bare_LK hp)).2 hv⟩
   rw [←he]
   refine gval_congr (fun d' hd'=>?_)
   have hdd':=guard_apart oj d gg (a2 d hd) hgj d' hd'
   refine hkeep d' hdd' (fun g hg=>?_)
   have eg:=(ho g hg).1
   unfold gval at he
   rw [hd'] at he
   simp only at he
   split at he
   ·rename_i b hs
    exact ⟨(by rintro rfl;rw [hs] at eg;simp [AV.isSl] at eg),by rw [hs];rfl⟩
   ·rename_i e' b hs
    exact ⟨(by rintro rfl;rw [hs] at eg;simp [AV.isSl] at eg),by rw [hs];rfl⟩
   ·cases he
theorem app_calm {oi oj:Oper} {j:Nat} {s s1 s2:St} (hw:Wf s) (hjo:ops[j]?=some oj) (hfl:fl[j]?=some true)
  (a1:∀d,oj.dst=some d→d∉oi.looksAt ops) (a2:∀d,oi.dst=some d→d∉oj.looksAt ops) (a3:∀d,oj.dst=some d→oi.dst≠some d)
  (hi:appStep P n fl ops oi s s1) (hj:calmStep P n ops oj s1 s2) (hp:bareOp P s1 oj.op):∃s1',calmStep P n ops oj s s1'∧bareOp P s oj.op∧appStep P n fl ops oi s1' s2:=by
 obtain ⟨d,x,y,t,t',x',hd,hdn,hop,hgd,hsr,has,hok,hc,rfl⟩:=hi
 obtain ⟨dj,r,hdj,hjn,hoj1,rfl,hvj⟩:=hj
 have hne:dj≠d:=fun e=>a3 dj hdj (by rw [hd,e])
 obtain ⟨hst,e0,z0,xs0,hv0⟩:=aappend_st hc
 generalize htke:takes s x'.2=tk at hst hok
 have ho1:∀g,tk=some g→(s g).isSl=true∧dj≠g:=by
  intro g hg
  refine ⟨(takes_own (htke.trans hg)).1,?_⟩
  rcases hok with hok | ⟨g',_,hg',hng,hG,_⟩
  ·rw [hg] at hok
   have:=freeOf_at hok.2 hfl (by simpa using hjo)
   rintro rfl
   exact this hdj
  ·rw [hg] at hg';injection hg' with hg'
   have hjn':@LT.lt Nat _ dj n:=hjn
   subst hg'
   intro e'
   have e2:@Eq Nat dj g:=e'
   omega
 have hdd:tk=some d∨(s d).isOwner=false:=by
  rcases hok with hok | ⟨g',_,hg',hng,hG,hod⟩
  ·cases tk with
   | none=>exact .inr hok
   | some g =>
    rcases hok.1 with h | h
    ·exact .inl (by rw [h])
    ·exact .inr h
  ·exact .inr hod
 have hvr:=wf_own (P:=P) (t:=t) (t':=t') (x:=x') (y:=sv s y) hw
 have hos:∀g,tk=some g→(s g).isOwner=true:=fun g hg=>isSl_owner (ho1 g hg).1
 have hat:=app_at hvr hos hdd
 rw [hst] at hp hoj1 hvj ⊢
 have hback:∀k,k≠d→put (takeSt s tk) d (aappend P s t t' x' (sv s y)).2.2 k=.dead∨put (takeSt s tk) d (aappend P s t t' x' (sv s y)).2.2 k=s k:=by
  intro k hk
  rw [hat,if_neg hk]
  cases tk with
  | none=>exact .inr rfl
  | some g =>
   show (if k=g then AV.dead else if (s k).refs g=true then .dead else s k)=.dead∨(if k=g then AV.dead else if (s k).refs g=true then .dead else s k)=s k
   split
   ·exact .inl rfl
   ·split
    ·exact .inl rfl
    ·exact .inr rfl
 have hagj:∀z∈oj.op.operands,AgreeO (put (takeSt s tk) d (aappend P s t t' x' (sv s y)).2.2) s z:=by
  intro z hz
  have hpz:=bareOp_at hp z hz
  refine bare_agree hpz (fun t0 ht=>?_) (fun i hi=>?_)
  ·subst ht
   rcases hback t0 (by rintro rfl;exact ops_apart oj t0 (a2 t0 hd) _ hz rfl) with e | e
   ·simp only [look,e] at hpz;cases hpz
   ·exact e.symm
  ·rcases hback i (by rintro rfl;rw [hat,if_pos rfl,hv0] at hi;cases hi) with e | e
   ·rw [e] at hi;cases hi
   ·exact e.symm
 have hp':=(bareOp_congr hagj).2 hp
 have hdjo:(s dj).isOwner=false:=by
  cases h:(s dj).isOwner with
  | false=>rfl
  | true =>
   exfalso
   rw [hat,if_neg hne] at hoj1
   cases tk with
   | none=>rw [show tookAt s none dj=s dj from rfl,h] at hoj1;cases hoj1
   | some g =>
    have:(if dj=g then AV.dead else if (s dj).refs g=true then .dead else s dj).isOwner=false:=hoj1
    rw [if_neg (ho1 g rfl).2] at this
    split at this
    ·rename_i hr;rw [refs_owner hr] at h;cases h
    ·rw [h] at this;cases this
 have hgv:∀gg,oj.guard=some gg→∀e,gval ops (put (takeSt s tk) d (aappend P s t t' x' (sv s y)).2.2) gg=some e→gval ops s gg=some e:=by
  intro gg hgj e he
  rw [←he]
  refine gval_congr (fun d' hd'=>?_)
  rcases hback d' (guard_apart oj d gg (a2 d hd) hgj d' hd') with e1 | e1
  ·unfold gval at he
   rw [hd'] at he
   simp only [e1] at he
   cases he
  ·exact e1.symm
 have hcalm:match oj.guard with
   | none=>acalm P s oj.op r
   | some g=>∃e,gval ops s g=some e∧acalmG P s e oj.op r:=by
  cases hgj:oj.guard with
  | none=>rw [hgj] at hvj;exact (acalm_congr oj.op r hagj (bare_LK hp)).2 hvj
  | some gg =>
   rw [hgj] at hvj
   obtain ⟨e,he,hv⟩:=hvj
   exact ⟨e,hgv gg hgj e he,(acalmG_congr oj.op r hagj (bare_LK hp)).2 hv⟩
 have hval:(∀g,(s g).isSl=true→r.refs g=false):=by
  intro g hg
  have h:=bare_result (P:=P) hw hp' hg (r:=r)
  cases hgj:oj.guard with
  | none=>rw [hgj] at hcalm;exact h.1 hcalm
  | some gg=>rw [hgj] at hcalm;obtain ⟨e,_,hv⟩:=hcalm;exact h.2 e hv
 have ho:∀g,tk=some g→(s g).isSl=true∧dj≠g∧r.refs g=false:=fun g hg=>⟨(ho1 g hg).1,(ho1 g hg).2,hval g (ho1 g hg).1⟩
 obtain ⟨_,_,hswap⟩:=app_swap (r:=r) hvr ho hdd hdjo hne
 have hag:∀z∈oi.op.operands,AgreeO s (put s dj r) z:=fun z hz=>agree_put hw hdjo (ops_apart oi dj (a1 dj hdj) z hz)
 have hx:=hag x (by rw [hop];simp [Op.operands,Call.operands])
 have hy:=hag y (by rw [hop];simp [Op.operands,Call.operands])
 have hxb:∀b,x'.2.refs b=true→put s dj r b=s b:=by
  intro b hb
  rcases hsr with rfl | ⟨p,v,g,e,z,xs,_,hng,_,rfl⟩
  ·exact base_congr hx hb
  ·obtain rfl:g=b:=by simpa [AV.refs] using hb
   have hjn':@LT.lt Nat _ dj n:=hjn
   have hne':g≠dj:=by omega
   rw [put_calm hdjo,if_neg hne']
 have hsrc:sourceOf (put s dj r) x'.2=sourceOf s x'.2:=sourceOf_congr hxb
 have hnew:∀size,newsOf (put s dj r) size (sv s y).2=newsOf s size (sv s y).2:=fun size=>newsOf_congr (fun b hb=>base_congr hy hb)
 obtain ⟨hcc,hcv⟩:=aappend_congr (P:=P) (t:=t) (t':=t') (x:=x') (y:=sv s y) hsrc hnew
 have htk:takes (put s dj r) x'.2=tk:=by unfold takes;rw [hsrc];exact htke
 have hpd:put s dj r d=s d:=by rw [put_calm hdjo,if_neg (Ne.symm hne)]
 have hc2:=hcc.2 hc
 refine ⟨put s dj r,⟨dj,r,hdj,hjn,hdjo,rfl,hcalm⟩,hp',⟨d,x,y,t,t',x',hd,hdn,hop,hgd,?_,?_,?_,?_,?_⟩⟩
 ·rw [sv_congr hx];exact (srcR_congr hdjo hjn).2 hsr
 ·intro k' h;rw [sv_congr hx];exact (asrc_congr hdjo hjn).2 (has k' h)
 ·rw [htk]
  rcases hok with hok | ⟨g',hx',hg',hng,hG,hod⟩
  ·refine .inl ?_
   cases tk with
   | none=>show (put s dj r d).isOwner=false;rw [hpd];exact hok
   | some g=>refine ⟨?_,hok.2⟩;rw [hpd];exact hok.1
  ·have hjn':@LT.lt Nat _ dj n:=hjn
   have hne':¬@Eq Nat g' dj:=by omega
   exact .inr ⟨g',hx',hg',hng,by rw [put_calm hdjo,if_neg hne'];exact hG,by rw [hpd];exact hod⟩
 ·rw [sv_congr hy];exact hc2
 ·rw [sv_congr hy,(aappend_st hc2).1,htk,hcv];exact hswap.symm
theorem sv_own {s:St} {k e z:Nat} {xs:List (List CV)} (h:s k=.own e z xs):sv s (.tmp k)=(True,.alias k):=by
 unfold sv
 simp only [look,h]
 rfl
def mvOwn (s:St) (o:Oper):Prop:=∃k e z xs,o.op=.move (.tmp k)∧o.guard=none∧s k=.own e z xs
theorem mva_app {oi oj:Oper} {j:Nat} {s s1 s2:St} (hw:Wf s) (hjo:ops[j]?=some oj) (hfl:fl[j]?=some true)
  (a1:∀d,oj.dst=some d→d∉oi.looksAt ops) (a2:∀d,oi.dst=some d→d∉oj.looksAt ops) (a3:∀d,oj.dst=some d→oi.dst≠some d)
  (hj:calmStep P n ops oj s s1) (hp:mvOwn s oj) (hi:appStep P n fl ops oi s1 s2):∃s1',appStep P n fl ops oi s s1'∧calmStep P n ops oj s1' s2∧mvOwn s1' oj:=by
 obtain ⟨dj,r,hdj,hjn,hoj,rfl,hvj⟩:=hj
 obtain ⟨km,e1,z1,xs1,hmv,hgj,hkm⟩:=hp
 have hr:r=.alias km:=by
  rw [hgj,hmv] at hvj
  have:r=(sv s (.tmp km)).2:=hvj.2
  rw [this,sv_own hkm]
 obtain ⟨d,x,y,t,t',x',hd,hdn,hop,hgd,hsr,has,hok,hc,rfl⟩:=hi
 have hne:dj≠d:=fun e=>a3 dj hdj (by rw [hd,e])
 have hag:∀z∈oi.op.operands,AgreeO s (put s dj r) z:=fun z hz=>agree_put hw hoj (ops_apart oi dj (a1 dj hdj) z hz)
 have hx:=hag x (by rw [hop];simp [Op.operands,Call.operands])
 have hy:=hag y (by rw [hop];simp [Op.operands,Call.operands])
 rw [sv_congr hy] at hc ⊢
 rw [sv_congr hx] at hsr has
 have hsr':=(srcR_congr hoj hjn).1 hsr
 have has':∀k',k' x'→asrc n s (sv s x) k':=fun k' h=>(asrc_congr hoj hjn).1 (has k' h)
 have hxb:∀b,x'.2.refs b=true→put s dj r b=s b:=by
  intro b hb
  rcases hsr' with rfl | ⟨p,v,g,e,z,xs,_,hng,_,rfl⟩
  ·exact base_congr hx hb
  ·obtain rfl:g=b:=by simpa [AV.refs] using hb
   have hjn':@LT.lt Nat _ dj n:=hjn
   have hne':g≠dj:=by omega
   rw [put_calm hoj,if_neg hne']
 have hsrc:sourceOf (put s dj r) x'.2=sourceOf s x'.2:=sourceOf_congr hxb
 have hnew:∀size,newsOf (put s dj r) size (sv s y).2=newsOf s size (sv s y).2:=fun size=>newsOf_congr (fun b hb=>base_congr hy hb)
 obtain ⟨hcc,hcv⟩:=aappend_congr (P:=P) (t:=t) (t':=t') (x:=x') (y:=sv s y) hsrc hnew
 have htk:takes (put s dj r) x'.2=takes s x'.2:=by unfold takes;rw [hsrc]
 have hpd:put s dj r d=s d:=by rw [put_calm hoj,if_neg (Ne.symm hne)]
 have hst2:=(aappend_st hc).1
 have hc':=hcc.1 hc
 obtain ⟨hst,e0,z0,xs0,hv0⟩:=aappend_st hc'
 rw [htk] at hst2 hok
 rw [hst2,hcv]
 generalize htke:takes s x'.2=tk at *
 have ho:∀g,tk=some g→(s g).isSl=true∧dj≠g∧r.refs g=false:=by
  intro g hg
  have hog:=(takes_own (htke.trans hg)).1
  refine ⟨hog,?_⟩
  rcases hok with hok | ⟨g',_,hg',hng,hG,_⟩
  ·rw [hg] at hok
   obtain ⟨h1,h2⟩:=freeOf_both hok.2 hfl (by simpa using hjo)
   refine ⟨?_,?_⟩
   ·rintro rfl
    exact h1 hdj
   ·rw [hr];rw [hmv] at h2;exact h2
  ·rw [hg] at hg';injection hg' with hg'
   have hjn':@LT.lt Nat _ dj n:=hjn
   subst hg'
   refine ⟨fun e'=>?_,?_⟩
   ·have e2:@Eq Nat dj g:=e'
    omega
   ·rw [hr]
    have hne':¬@Eq Nat g dj:=by omega
    rw [put_calm hoj,if_neg hne'] at hG
    show (km==g)=false
    rw [beq_eq_false_iff_ne]
    rintro rfl
    rw [hkm] at hG;cases hG
 have hdd:tk=some d∨(s d).isOwner=false:=by
  rcases hok with hok | ⟨g',_,hg',hng,hG,hod⟩
  ·cases tk with
   | none=>exact .inr (by rw [←hpd];exact hok)
   | some g =>
    rcases hok.1 with h | h
    ·exact .inl (by rw [h])
    ·exact .inr (by rw [←hpd];exact h)
  ·exact .inr (by rw [←hpd];exact hod)
 obtain ⟨hat,hdjo,hswap⟩:=app_swap (r:=r) (wf_own (P:=P) (t:=t) (t':=t') (x:=x') (y:=sv s y) hw) ho hdd hoj hne
 have hkeep:∀k,k≠d→(∀g,tk=some g→k≠g∧(s k).refs g=false)→put (takeSt s tk) d (aappend P s t t' x' (sv s y)).2.2 k=s k:=by
  intro k hk h
  rw [hat,if_neg hk]
  cases tk with
  | none=>rfl
  | some g=>show (if k=g then AV.dead else if (s k).refs g=true then .dead else s k)=s k;rw [if_neg (h g rfl).1,(h g rfl).2];simp
 have hkmk:put (takeSt s tk) d (aappend P s t t' x' (sv s y)).2.2 km=s km:=by
  refine hkeep km ?_ (fun g hg=>⟨?_,by rw [hkm];rfl⟩)
  ·rintro rfl
   exact ops_apart oj km (a2 km hd) (.tmp km) (by rw [hmv];simp [Op.operands]) rfl
  ·rintro rfl
   have:=(ho km hg).2.2
   rw [hr] at this
   simp [AV.refs] at this
 refine ⟨put (takeSt s tk) d (aappend P s t t' x' (sv s y)).2.2,⟨d,x,y,t,t',x',hd,hdn,hop,hgd,hsr',has',?_,hc',by rw [hst]⟩,⟨dj,r,hdj,hjn,hdjo,hswap,?_⟩,⟨km,e1,z1,xs1,hmv,hgj,by rw [hkmk];exact hkm⟩⟩
 ·rw [htke]
  rcases hok with hok | ⟨g',hx',hg',hng,hG,hod⟩
  ·refine .inl ?_
   cases tk with
   | none=>show (s d).isOwner=false;rw [←hpd];exact hok
   | some g=>refine ⟨?_,hok.2⟩;rw [←hpd];exact hok.1
  ·have hjn':@LT.lt Nat _ dj n:=hjn
   have hne':¬@Eq Nat g' dj:=by omega
   exact .inr ⟨g',hx',hg',hng,by rw [put_calm hoj,if_neg hne'] at hG;exact hG,by rw [←hpd];exact hod⟩
 ·rw [hgj,hmv]
  refine ⟨?_,?_⟩
  ·show (sv _ (.tmp km)).1
   rw [sv_own (hkmk.trans hkm)];trivial
  ·show r=(sv _ (.tmp km)).2
   rw [hr,sv_own (hkmk.trans hkm)]
theorem app_mva {oi oj:Oper} {j:Nat} {s s1 s2:St} (hw:Wf s) (hjo:ops[j]?=some oj) (hfl:fl[j]?=some true)
  (a1:∀d,oj.dst=some d→d∉oi.looksAt ops) (a2:∀d,oi.dst=some d→d∉oj.looksAt ops) (a3:∀d,oj.dst=some d→oi.dst≠some d)
  (hi:appStep P n fl ops oi s s1) (hj:calmStep P n ops oj s1 s2) (hp:mvOwn s1 oj):∃s1',calmStep P n ops oj s s1'∧mvOwn s oj∧appStep P n fl ops oi s1' s2:=by
 obtain ⟨d,x,y,t,t',x',hd,hdn,hop,hgd,hsr,has,hok,hc,rfl⟩:=hi
 obtain ⟨dj,r,hdj,hjn,hoj1,rfl,hvj⟩:=hj
 have hne:dj≠d:=fun e=>a3 dj hdj (by rw [hd,e])
 obtain ⟨hst,e0,z0,xs0,hv0⟩:=aappend_st hc
 generalize htke:takes s x'.2=tk at hst hok
 have ho1:∀g,tk=some g→(s g).isSl=true∧dj≠g:=by
  intro g hg
  refine ⟨(takes_own (htke.trans hg)).1,?_⟩
  rcases hok with hok | ⟨g',_,hg',hng,hG,_⟩
  ·rw [hg] at hok
   have:=freeOf_at hok.2 hfl (by simpa using hjo)
   rintro rfl
   exact this hdj
  ·rw [hg] at hg';injection hg' with hg'
   have hjn':@LT.lt Nat _ dj n:=hjn
   subst hg'
   intro e'
   have e2:@Eq Nat dj g:=e'
   omega
 have hdd:tk=some d∨(s d).isOwner=false:=by
  rcases hok with hok | ⟨g',_,hg',hng,hG,hod⟩
  ·cases tk with
   | none=>exact .inr hok
   | some g =>
    rcases hok.1 with h | h
    ·exact .inl (by rw [h])
    ·exact .inr h
  ·exact .inr hod
 have hvr:=wf_own (P:=P) (t:=t) (t':=t') (x:=x') (y:=sv s y) hw
 have hos:∀g,tk=some g→(s g).isOwner=true:=fun g hg=>isSl_owner (ho1 g hg).1
 have hat:=app_at hvr hos hdd
 rw [hst] at hp hoj1 hvj ⊢
 obtain ⟨km,e1,z1,xs1,hmv,hgj,hkm⟩:=hp
 have hback:∀k,k≠d→put (takeSt s tk) d (aappend P s t t' x' (sv s y)).2.2 k=.dead∨put (takeSt s tk) d (aappend P s t t' x' (sv s y)).2.2 k=s k:=by
  intro k hk
  rw [hat,if_neg hk]
  cases tk with
  | none=>exact .inr rfl
  | some g =>
   show (if k=g then AV.dead else if (s k).refs g=true then .dead else s k)=.dead∨(if k=g then AV.dead else if (s k).refs g=true then .dead else s k)=s k
   split
   ·exact .inl rfl
   ·split
    ·exact .inl rfl
    ·exact .inr rfl
 have hkd:km≠d:=by
  rintro rfl
  exact ops_apart oj km (a2 km hd) (.tmp km) (by rw [hmv];simp [Op.operands]) rfl
 have hks:s km=.own e1 z1 xs1:=by
  rcases hback km hkd with e | e
  ·rw [e] at hkm;cases hkm
  ·rw [←e];exact hkm
 have hr:r=.alias km:=by
  rw [hgj,hmv] at hvj
  have:r=(sv _ (.tmp km)).2:=hvj.2
  rw [this,sv_own hkm]
 have hdjo:(s dj).isOwner=false:=by
  cases h:(s dj).isOwner with
  | false=>rfl
  | true =>
   exfalso
   rw [hat,if_neg hne] at hoj1
   cases tk with
   | none=>rw [show tookAt s none dj=s dj from rfl,h] at hoj1;cases hoj1
   | some g =>
    have:(if dj=g then AV.dead else if (s dj).refs g=true then .dead else s dj).isOwner=false:=hoj1
    rw [if_neg (ho1 g rfl).2] at this
    split at this
    ·rename_i hr;rw [refs_owner hr] at h;cases h
    ·rw [h] at this;cases this
 have hcalm:match oj.guard with
   | none=>acalm P s oj.op r
   | some g=>∃e,gval ops s g=some e∧acalmG P s e oj.op r:=by
  rw [hgj,hmv]
  refine ⟨?_,?_⟩
  ·show (sv s (.tmp km)).1
   rw [sv_own hks];trivial
  ·show r=(sv s (.tmp km)).2
   rw [hr,sv_own hks]
 have hval:∀g,tk=some g→r.refs g=false:=by
  intro g hg
  rw [hr]
  show (km==g)=false
  rw [beq_eq_false_iff_ne]
  rintro rfl
  rw [hat,if_neg hkd,hg] at hkm
  have:(if km=km then AV.dead else if (s km).refs km=true then .dead else s km)=.own e1 z1 xs1:=hkm
  rw [if_pos rfl] at this;cases this
 have ho:∀g,tk=some g→(s g).isSl=true∧dj≠g∧r.refs g=false:=fun g hg=>⟨(ho1 g hg).1,(ho1 g hg).2,hval g hg⟩
 obtain ⟨_,_,hswap⟩:=app_swap (r:=r) hvr ho hdd hdjo hne
 have hag:∀z∈oi.op.operands,AgreeO s (put s dj r) z:=fun z hz=>agree_put hw hdjo (ops_apart oi dj (a1 dj hdj) z hz)
 have hx:=hag x (by rw [hop];simp [Op.operands,Call.operands])
 have hy:=hag y (by rw [hop];simp [Op.operands,Call.operands])
 have hxb:∀b,x'.2.refs b=true→put s dj r b=s b:=by
  intro b hb
  rcases hsr with rfl | ⟨p,v,g,e,z,xs,_,hng,_,rfl⟩
  ·exact base_congr hx hb
  ·obtain rfl:g=b:=by simpa [AV.refs] using hb
   have hjn':@LT.lt Nat _ dj n:=hjn
   have hne':g≠dj:=by omega
   rw [put_calm hdjo,if_neg hne']
 have hsrc:sourceOf (put s dj r) x'.2=sourceOf s x'.2:=sourceOf_congr hxb
 have hnew:∀size,newsOf (put s dj r) size (sv s y).2=newsOf s size (sv s y).2:=fun size=>newsOf_congr (fun b hb=>base_congr hy hb)
 obtain ⟨hcc,hcv⟩:=aappend_congr (P:=P) (t:=t) (t':=t') (x:=x') (y:=sv s y) hsrc hnew
 have htk:takes (put s dj r) x'.2=tk:=by unfold takes;rw [hsrc];exact htke
 have hpd:put s dj r d=s d:=by rw [put_calm hdjo,if_neg (Ne.symm hne)]
 have hc2:=hcc.2 hc
 refine ⟨put s dj r,⟨dj,r,hdj,hjn,hdjo,rfl,hcalm⟩,⟨km,e1,z1,xs1,hmv,hgj,hks⟩,⟨d,x,y,t,t',x',hd,hdn,hop,hgd,?_,?_,?_,?_,?_⟩⟩
 ·rw [sv_congr hx];exact (srcR_congr hdjo hjn).2 hsr
 ·intro k' h;rw [sv_congr hx];exact (asrc_congr hdjo hjn).2 (has k' h)
 ·rw [htk]
  rcases hok with hok | ⟨g',hx',hg',hng,hG,hod⟩
  ·refine .inl ?_
   cases tk with
   | none=>show (put s dj r d).isOwner=false;rw [hpd];exact hok
   | some g=>refine ⟨?_,hok.2⟩;rw [hpd];exact hok.1
  ·have hjn':@LT.lt Nat _ dj n:=hjn
   have hne':¬@Eq Nat g' dj:=by omega
   exact .inr ⟨g',hx',hg',hng,by rw [put_calm hdjo,if_neg hne'];exact hG,by rw [hpd];exact hod⟩
 ·rw [sv_congr hy];exact hc2
 ·rw [sv_congr hy,(aappend_st hc2).1,htk,hcv];exact hswap.symm
end
section
variable {P:Program} {n:Nat} {fl:List Bool} {ops:Array Oper}
theorem appU_spec {o:Oper} (h:appU o=true):∃c,o.op=.call c∧c.callee=.builtin .append∧o.guard=none:=by
 unfold appU at h
 split at h
 ·rename_i c e
  split at h
  ·rename_i hf;exact ⟨c,e,hf,by simpa using h⟩
  ·cases h
 ·cases h
theorem appU_calmB {o:Oper} (h:appU o=true):calmB ops o.op=false∧storeU o=false:=by
 obtain ⟨c,e,hf,_⟩:=appU_spec h
 refine ⟨?_,?_⟩
 ·rw [e];simp only [calmB,hf]
 ·unfold storeU;rw [e]
def stepA (P:Program) (n:Nat) (fl:List Bool) (ops:Array Oper) (i:Nat) (s s':St):Prop:=
 ∃o,ops[i]?=some o∧match appU o with
  | true=>appStep P n fl ops o s s'
  | false=>stepD P n false ops i s s'∧(fl[i]?=some true→bareOp P s o.op)
theorem app_aop {o:Oper} {s s':St} (h:appStep P n fl ops o s s'):aop P n ops o s (fun t=>t=s'):=by
 obtain ⟨d,x,y,t,t',x',hd,hdn,hop,hgd,_,has,hok,hc,rfl⟩:=h
 unfold aop
 rw [hgd,hd,hop]
 exact has (fun z=>(aappend P s t t' z (sv s y)).1∧d<n∧put (aappend P s t t' z (sv s y)).2.1 d (aappend P s t t' z (sv s y)).2.2=put (aappend P s t t' x' (sv s y)).2.1 d (aappend P s t t' x' (sv s y)).2.2) ⟨hc,hdn,rfl⟩
theorem stepA_D {i:Nat} {s s':St} (h:stepA P n fl ops i s s'):stepD P n false ops i s s':=by
 obtain ⟨o,ho,h⟩:=h
 split at h
 ·rename_i hu
  obtain ⟨h1,h2⟩:=appU_calmB (ops:=ops) hu
  refine ⟨o,ho,?_⟩
  rw [h1,h2]
  exact app_aop h
 ·exact h.1
theorem stepA_wf {i:Nat} {s s':St} (hw:Wf s) (h:stepA P n fl ops i s s'):Wf s':=stepD_wf hw (stepA_D h)
def appSide (s:St) (fl:List Bool) (ops:Array Oper) (o:Oper):Prop:=match o.dst,o.op with
 | some d,.call c=>match c.args.toList with
  | x::_=>appOk s d fl ops (takes s (sv s x).2)
  | []=>False
 | _,_=>False
def bareIf (P:Program) (s:St) (op:Op):Bool→Prop
 | true=>bareOp P s op
 | false=>True
def aopsA (P:Program) (n:Nat) (fl:List Bool) (ops:Array Oper):List Bool→List Oper→St→(St→Prop)→Prop
 | _,[],s,K=>K s
 | fr,o::r,s,K=>match appU o with
  | true=>appSide s fl ops o∧aop P n ops o s (fun s'=>aopsA P n fl ops fr.tail r s' K)
  | false=>bareIf P s o.op (fr.headD false)∧aopsD P n false ops [o] s (fun s'=>aopsA P n fl ops fr.tail r s' K)
theorem app_of_aop {o:Oper} {s:St} {K:St→Prop} (hu:appU o=true) (hs:appSide s fl ops o) (h:aop P n ops o s K):∃s',appStep P n fl ops o s s'∧K s':=by
 obtain ⟨c,hop,hf,hg⟩:=appU_spec hu
 obtain ⟨callee,args,ts⟩:=c
 dsimp only at hf
 subst hf
 unfold aop at h
 rw [hg,hop] at h
 unfold appSide at hs
 rw [hop] at hs
 cases hd:o.dst with
 | none=>rw [hd] at hs;exact hs.elim
 | some d =>
  rw [hd] at hs h
  obtain ⟨args⟩:=args
  obtain ⟨ts⟩:=ts
  match args,ts,hs,h with
  | [x,y],[t,t'],hs,h =>
   obtain ⟨x',hsr,h',has⟩:=asrc_spec (n:=n) (s:=s) (x:=sv s x) (k:=fun z=>(aappend P s t t' z (sv s y)).1∧d<n∧K (put (aappend P s t t' z (sv s y)).2.1 d (aappend P s t t' z (sv s y)).2.2)) h
   refine ⟨_,⟨d,x,y,t,t',x',hd,h'.2.1,hop,hg,hsr,has,?_,h'.1,rfl⟩,h'.2.2⟩
   rcases hsr with rfl | ⟨p,v,g,e,z,xs,ex,hng,hsg,rfl⟩
   ·exact .inl hs
   ·have ht:takes s (AV.alias g)=some g:=by unfold takes sourceOf;simp only [hsg]
    refine .inr ⟨g,rfl,ht,hng,by rw [hsg];rfl,?_⟩
    have hs':appOk s d fl ops (takes s (sv s x).2):=hs
    rw [ex] at hs'
    exact hs'
theorem aopsD_one {o:Oper} {k:Nat} {s:St} {K:St→Prop} (hw:Wf s) (h0:ops[k]?=some o) (h:aopsD P n false ops [o] s K):∃s1,stepD P n false ops k s s1∧K s1:=by
 simp only [aopsD] at h
 split at h
 ·rename_i hc
  simp only [Bool.false_and] at h
  obtain ⟨s1,h1,h2⟩:=aopD_step h.2
  exact ⟨s1,⟨o,h0,by rw [hc];simp only [Bool.false_and];exact ⟨h1,h.1⟩⟩,h2⟩
 ·rename_i hc
  split at h
  ·rename_i hu
   obtain ⟨s1,h1,h2⟩:=store_wStep hu h.1 h.2
   exact ⟨s1,⟨o,h0,by rw [hc];simp only [hu];exact h1⟩,h2⟩
  ·rename_i hu
   obtain ⟨s1,h1,h2,_⟩:=aop_exact hw h
   exact ⟨s1,⟨o,h0,by rw [hc];simp only [hu];exact h1⟩,h2⟩
theorem headD_get {l:List Bool} (h:l[0]?=some true):l.headD false=true:=by
 cases l with
 | nil=>cases h
 | cons b r=>simpa using h
theorem chain_of_aopsA {K:St→Prop}:∀(l:List Oper) (fr:List Bool) (k:Nat) (s:St),Wf s→(∀j,l[j]?=ops[k+j]?)→(∀j,fr[j]?=fl[k+j]?)→aopsA P n fl ops fr l s K →
  ∃s',chain (stepA P n fl ops) (List.range' k l.length) s s'∧K s'
 | [],_,_,s,_,_,_,h=>⟨s,rfl,by simpa [aopsA] using h⟩
 | o::l,fr,k,s,hw,hl,hf,h=>by
  have h0:ops[k]?=some o:=by simpa using (hl 0).symm
  have hnext:∀j,l[j]?=ops[(k+1)+j]?:=fun j=>by have:=hl (j+1);simpa [Nat.add_assoc,Nat.add_comm 1 j] using this
  have fnext:∀j,fr.tail[j]?=fl[(k+1)+j]?:=fun j=>by have:=hf (j+1);simpa [Nat.add_assoc,Nat.add_comm 1 j] using this
  simp only [aopsA] at h
  have:∃s1,stepA P n fl ops k s s1∧aopsA P n fl ops fr.tail l s1 K:=by
   split at h
   ·rename_i hu
    obtain ⟨s1,h1,h2⟩:=app_of_aop hu h.1 h.2
    exact ⟨s1,⟨o,h0,by rw [hu];exact h1⟩,h2⟩
   ·rename_i hu
    obtain ⟨s1,h1,h2⟩:=aopsD_one hw h0 h.2
    refine ⟨s1,⟨o,h0,?_⟩,h2⟩
    rw [hu]
    refine ⟨h1,fun hk=>?_⟩
    have hh:=headD_get ((hf 0).trans hk)
    have:=h.1
    rw [hh] at this
    exact this
  obtain ⟨s1,h1,h2⟩:=this
  obtain ⟨s',h3,h4⟩:=chain_of_aopsA l fr.tail (k+1) s1 (stepA_wf hw h1) hnext fnext h2
  exact ⟨s',⟨s1,h1,h3⟩,h4⟩
def flagAt (fl:List Bool) (i:Nat):Bool:=fl.getD i false
theorem flagAt_get {i:Nat} (h:flagAt fl i=true):fl[i]?=some true:=by
 unfold flagAt at h
 rw [List.getD_eq_getElem?_getD] at h
 cases e:fl[i]? with
 | none=>rw [e] at h;cases h
 | some b=>rw [e] at h;simpa using h
def mixA (fl:List Bool) (ops:Array Oper) (i j:Nat) (oi oj:Oper):Bool:=
 mixB false ops oi oj || (appU oi&&calmB ops oj.op&&flagAt fl j) || (appU oj&&calmB ops oi.op&&flagAt fl i)
def pairOkA (fl:List Bool) (ops:Array Oper) (b:Array Nat) (i j:Nat):Bool:=
 (b.getD i 0).testBit j ||
 match ops[i]?,ops[j]? with
 | some oi,some oj=>mixA fl ops i j oi oj&&oj.apart ops oi
 | _,_=>false
def drawOkA (fl:List Bool) (ops:Array Oper):Bool:=
 let b:=Region.before ops
 ops.toList.all lowDst&&(List.range ops.size).all fun i =>
  (match ops[i]? with
   | some o=>o.after.toList.all fun e=>!Region.binds .any e || decide (e.on<i)
   | none=>false) &&
  (List.range i).all fun j=>pairOkA fl ops b i j
theorem mixB_app {m:Bool} {oi oj:Oper} (h:mixB m ops oi oj=true):appU oi=false∧appU oj=false:=by
 refine ⟨?_,?_⟩
 ·cases hu:appU oi with
  | false=>rfl
  | true =>
   obtain ⟨h1,h2⟩:=appU_calmB (ops:=ops) hu
   simp [mixB,h1,h2] at h
 ·cases hu:appU oj with
  | false=>rfl
  | true =>
   obtain ⟨h1,h2⟩:=appU_calmB (ops:=ops) hu
   simp [mixB,h1,h2] at h
theorem stepD_calm {i:Nat} {o:Oper} {s s':St} (ho:ops[i]?=some o) (hc:calmB ops o.op=true) (h:stepD P n false ops i s s'):calmStep P n ops o s s':=by
 obtain ⟨o',ho',h⟩:=h
 rw [ho] at ho';injection ho' with ho';subst ho'
 rw [hc] at h
 exact h.1
theorem calm_stepD {i:Nat} {o:Oper} {s s':St} (ho:ops[i]?=some o) (hc:calmB ops o.op=true) (h:calmStep P n ops o s s'):stepD P n false ops i s s':=by
 refine ⟨o,ho,?_⟩
 rw [hc]
 exact ⟨h,fun h=>by cases h⟩
theorem calmB_app {o:Oper} (hc:calmB ops o.op=true):appU o=false:=by
 cases hu:appU o with
 | false=>rfl
 | true=>rw [(appU_calmB (ops:=ops) hu).1] at hc;cases hc
theorem bareV_sh {s s1:St}:∀{v:AV},(∀k,Sh (s k) (s1 k))→bareV s1 v=bareV s v
 | .ptr i off,h=>by
  rcases h i with e | ⟨_,_,e1,e2⟩ | ⟨_,_,_,_,e1,e2,_⟩ | ⟨_,_,_,e1,e2⟩
  ·simp only [bareV,e]
  ·simp only [bareV,e1,e2]
  ·simp only [bareV,e1,e2]
  ·simp only [bareV,e1,e2]
 | .alias i,h=>by
  rcases h i with e | ⟨_,_,e1,e2⟩ | ⟨_,_,_,_,e1,e2,_⟩ | ⟨_,_,_,e1,e2⟩
  ·simp only [bareV,e]
  ·simp only [bareV,e1,e2]
  ·simp only [bareV,e1,e2]
  ·simp only [bareV,e1,e2]
 | .cond e v,h=>bareV_sh (v:=v) h
 | .x _,_=>rfl
 | .elem _,_=>rfl
 | .dead,_=>rfl
 | .tup _,_=>rfl
 | .box _,_=>rfl
 | .eptr _ _ _,_=>rfl
 | .own _ _ _,_=>rfl
 | .mp _ _ _,_=>rfl
 | .view _ _ _ _,_=>rfl
 | .cloR _ _,_=>rfl
 | .link _ _ _,_=>rfl
 | .res _,_=>rfl
 | .ptr2 _ _,_=>rfl
 | .gbox _ _,_=>rfl
 | .gown _ _ _ _,_=>rfl
theorem bareOp_sh {s s1:St} {op:Op} (hl:lightB op=true) (h:∀k,Sh (s k) (s1 k)) (hb:bareOp P s op):bareOp P s1 op:=by
 have hlook:∀x:Operand,look s1 x=look s x:=fun x=>look_sh (by cases x<;>first | exact ⟨h _,fun b _=>h b⟩ | trivial)
 have hall:∀l:List Operand,bareAll s1 l=bareAll s l:=by
  intro l
  induction l with
  | nil=>rfl
  | cons x r ih=>simp only [bareAll,hlook,bareV_sh h,ih]
 obtain ⟨h1,h2⟩:=hb
 refine ⟨?_,?_⟩
 ·cases e:bareArgs op with
  | none=>rw [e] at h1;exact h1
  | some l=>rw [e] at h1;simpa only [hall] using h1
 ·cases op<;>first | trivial | (simp [lightB] at hl)
theorem store_sh {s s1:St} {i:Nat} {o:Oper} (ho:ops[i]?=some o) (hu:storeU o=true) (hc:calmB ops o.op=false) (h:stepD P n false ops i s s1):∀k,Sh (s k) (s1 k):=by
 obtain ⟨o',ho',h⟩:=h
 rw [ho] at ho';injection ho' with ho';subst ho'
 rw [hc] at h
 simp only [hu] at h
 obtain ⟨W,dr,hw,hd,hn,rfl⟩:=h
 obtain ⟨t,addr,x,hop,_⟩:=storeU_spec hu
 have hdr:dr=none:=by
  unfold writes at hw
  rw [hop] at hw
  exact hw.2.2.1
 subst hdr
 exact fun k=>setW_sh (fun i v hv=>(writes_W hw).1 i v hv) k
theorem store_bare {s:St} {o:Oper} (hu:storeU o=true) (h:bareOp P s o.op):False:=by
 obtain ⟨t,addr,x,hop,_⟩:=storeU_spec hu
 rw [hop] at h
 exact h.1
theorem mixA_comm {i j:Nat} {oi oj:Oper} {s s1 s2:St} (lwi:∀d,oi.dst=some d→d<MARK) (lwj:∀d,oj.dst=some d→d<MARK) (hi:ops[i]?=some oi) (hj:ops[j]?=some oj) (hmix:mixA fl ops i j oi oj=true) (hap:oj.apart ops oi=true) (hw:Wf s)
  (h1:stepA P n fl ops j s s1) (h2:stepA P n fl ops i s1 s2):∃s1',stepA P n fl ops i s s1'∧stepA P n fl ops j s1' s2:=by
 obtain ⟨a1,a2,a3⟩:=Oper.apart_spec hap
 have b3:∀d,oi.dst=some d→oj.dst≠some d:=fun d h h'=>a2 d h' h
 obtain ⟨o1,ho1,h1⟩:=h1
 rw [hj] at ho1;injection ho1 with ho1;subst ho1
 obtain ⟨o2,ho2,h2⟩:=h2
 rw [hi] at ho2;injection ho2 with ho2;subst ho2
 unfold mixA at hmix
 rw [Bool.or_eq_true,Bool.or_eq_true] at hmix
 rcases hmix with (hmix | hmix) | hmix
 ·have hB:=hmix
  obtain ⟨ui,uj⟩:=mixB_app hB
  rw [uj] at h1
  rw [ui] at h2
  obtain ⟨h1,p1⟩:=h1
  obtain ⟨h2,p2⟩:=h2
  obtain ⟨s1',k1,k2⟩:=mix_comm lwi lwj hi hj hB hap hw h1 h2
  unfold mixB at hB
  rw [Bool.or_eq_true,Bool.or_eq_true] at hB
  rcases hB with (hB | hB) | hB
  ·simp only [Bool.and_eq_true,Bool.not_eq_true'] at hB
   obtain ⟨⟨ci,cj⟩,_⟩:=hB
   have ag:∀{t t':St} {o o':Oper},Wf t→calmStep P n ops o t t'→(∀d,o.dst=some d→d∉o'.looksAt ops)→∀x∈o'.op.operands,AgreeO t t' x:=by
    rintro t t' o o' hwt ⟨d,r,hd,hdn,hno,rfl,_⟩ ha x hx
    exact agree_put (r:=r) hwt hno (ops_apart o' d (ha d hd) x hx)
   refine ⟨s1',⟨oi,hi,?_⟩,⟨oj,hj,?_⟩⟩
   ·rw [ui]
    exact ⟨k1,fun hf=>(bareOp_congr (ag hw (stepD_calm hj cj h1) a1)).1 (p2 hf)⟩
   ·rw [uj]
    exact ⟨k2,fun hf=>(bareOp_congr (ag hw (stepD_calm hi ci k1) a3)).2 (p1 hf)⟩
  ·simp only [Bool.and_eq_true,Bool.not_eq_true',Bool.false_or] at hB
   obtain ⟨⟨⟨⟨su,sc⟩,lj⟩,cj⟩,_⟩:=hB
   refine ⟨s1',⟨oi,hi,?_⟩,⟨oj,hj,?_⟩⟩
   ·rw [ui];exact ⟨k1,fun hf=>(store_bare su (p2 hf)).elim⟩
   ·rw [uj];exact ⟨k2,fun hf=>bareOp_sh lj (store_sh hi su sc k1) (p1 hf)⟩
  ·simp only [Bool.and_eq_true,Bool.not_eq_true',Bool.false_or] at hB
   obtain ⟨⟨⟨⟨su,sc⟩,li⟩,ci⟩,_⟩:=hB
   refine ⟨s1',⟨oi,hi,?_⟩,⟨oj,hj,?_⟩⟩
   ·rw [ui];exact ⟨k1,fun hf=>bareOp_sh li (fun k=>(store_sh hj su sc h1 k).symm) (p2 hf)⟩
   ·rw [uj];exact ⟨k2,fun hf=>(store_bare su (p1 hf)).elim⟩
 ·simp only [Bool.and_eq_true] at hmix
  obtain ⟨⟨ui,cj⟩,hf⟩:=hmix
  have hfj:=flagAt_get hf
  have uj:=calmB_app cj
  rw [uj] at h1
  rw [ui] at h2
  obtain ⟨s1',k1,k2,k3⟩:=calm_app hw hj hfj a1 a3 a2 (stepD_calm hj cj h1.1) (h1.2 hfj) h2
  exact ⟨s1',⟨oi,hi,by rw [ui];exact k1⟩,⟨oj,hj,by rw [uj];exact ⟨calm_stepD hj cj k2,fun _=>k3⟩⟩⟩
 ·simp only [Bool.and_eq_true] at hmix
  obtain ⟨⟨uj,ci⟩,hf⟩:=hmix
  have hfi:=flagAt_get hf
  have ui:=calmB_app ci
  rw [uj] at h1
  rw [ui] at h2
  obtain ⟨s1',k1,k2,k3⟩:=app_calm hw hi hfi a3 a1 b3 h1 (stepD_calm hi ci h2.1) (h2.2 hfi)
  exact ⟨s1',⟨oi,hi,by rw [ui];exact ⟨calm_stepD hi ci k1,fun _=>k2⟩⟩,⟨oj,hj,by rw [uj];exact k3⟩⟩
theorem anyA_mono {step step':Nat→St→St→Prop} {fin:St→Prop} (hs:∀i s s',step i s s'→step' i s s'):∀(fuel:Nat) (listed:Array Bool) (s:St),anyA ops step fin fuel listed s→anyA ops step' fin fuel listed s
 | 0,_,_,h=>h
 | fuel+1,_,_,h=>⟨h.1,fun i hi=>by
   obtain ⟨s',h1,h2⟩:=h.2 i hi
   exact ⟨s',hs _ _ _ h1,anyA_mono hs fuel _ s' h2⟩⟩
theorem anyA_of_aopsA {s:St} {K:St→Prop} (hok:drawOkA fl ops=true) (hw:Wf s) (h:aopsA P n fl ops fl ops.toList s K):anyA ops (stepD P n false ops) K ops.size (Array.replicate ops.size false) s:=by
 obtain ⟨s',hch,hk⟩:=chain_of_aopsA ops.toList fl 0 s hw (fun j=>by simp) (fun j=>by simp) h
 refine anyA_mono (step:=stepA P n fl ops) (fun i s s' h=>stepA_D h) _ _ _ ?_
 have hlow:∀{i:Nat} {o:Oper},ops[i]?=some o→∀d,o.dst=some d→d<MARK:=by
  intro i o ho
  have h:=hok
  simp only [drawOkA,Bool.and_eq_true] at h
  exact lowDst_spec (List.all_eq_true.1 h.1 o (by have:=Array.mem_of_getElem? ho;simpa using this))
 have hok':=hok
 simp only [drawOkA,Bool.and_eq_true] at hok'
 replace hok':=hok'.2
 have hdr:∀i,i<ops.size→((match ops[i]? with
   | some o=>o.after.toList.all fun e=>!Region.binds .any e || decide (e.on<i)
   | none=>false)=true∧∀j,j<i→pairOkA fl ops (Region.before ops) i j=true):=by
  intro i hi
  have:=List.all_eq_true.1 hok' i (by simp [hi])
  simp only [Bool.and_eq_true,List.all_eq_true,List.mem_range] at this
  exact ⟨this.1,fun j hj=>this.2 j hj⟩
 refine chain_any (wf:=Wf) (indep:=fun j i=>∃oi oj,ops[i]?=some oi∧ops[j]?=some oj∧mixA fl ops i j oi oj=true∧oj.apart ops oi=true)
  (fun i s s' hw h=>stepA_wf hw h) ?_ ?_ ?_ hk ops.size (List.range' 0 ops.toList.length) _ s (by simp) (by simp) ?_ ?_ ?_ hw hch
 ·rintro j i s s1 s2 ⟨oi,oj,hoi,hoj,hm,hap⟩ hw h1 h2
  exact mixA_comm (hlow hoi) (hlow hoj) hoi hoj hm hap hw h1 h2
 ·intro i o ho e he hb
  have:=(hdr i (Array.getElem?_eq_some_iff.1 ho).1).1
  rw [ho] at this
  have:=List.all_eq_true.1 this e (by simpa using he)
  simpa [hb] using this
 ·intro j i hji hi
  have:=(hdr i hi).2 j hji
  unfold pairOkA at this
  rw [Bool.or_eq_true] at this
  rcases this with h | h
  ·exact .inl (before_waits ops i j h)
  ·split at h
   ·rename_i oi oj hoi hoj
    simp only [Bool.and_eq_true] at h
    exact .inr ⟨oi,oj,hoi,hoj,h.1,h.2⟩
   ·cases h
 ·intro i o ho hl
  have hlt:=(Array.getElem?_eq_some_iff.1 ho).1
  simp [hlt] at hl
 ·exact List.pairwise_lt_range'
 ·intro i
  simp only [List.mem_range'_1,Array.length_toList,Nat.zero_add,Nat.zero_le,true_and]
  constructor
  ·intro hi;exact ⟨hi,by simp [hi]⟩
  ·intro hi;exact hi.1
end
end Go.Ab
namespace Go.Ab
open Go Go.RowKit
variable [Amb]
section
variable {P:Program} {S0:Env} {w0 w:World} {n:Nat} {s:St} {a:Act}
theorem acalm_ok (hR:Rel S0 w0 n s a w) (o:Oper) {d:Nat} {r:AV} (hdst:o.dst=some d) (hd:S0.m≤d∧d<n) (h:acalm P s o.op r) {K':Act→World→Prop} {Q:Exit→Act→World→Prop}
  (hK:∀a' w',Rel S0 w0 n (Ab.put s d r) a' w'→K' a' w'):o.wp P a w K' Q:=by
 have plain:(aval2 P s o.op).1∧r=(aval2 P s o.op).2→o.wp P a w K' Q:=by
  rintro ⟨hp,rfl⟩
  exact value_step hR hd hdst (aval2_ok hR o hp) (fun j hj=>aval2_refs hR.wf _ hj) hK
 obtain ⟨dst,op,type,pos,after,guard⟩:=o
 dsimp only at h plain hdst
 subst hdst
 cases op<;>try (exact plain h)
 case alloc t =>
  simp only [acalm] at h
  cases hz:zeroOf P t with
  | none=>rw [hz] at h;exact h.elim
  | some cs =>
   rw [hz] at h
   simp only at h
   subst h
   exact astep_ok (P:=P) (K:=fun s'=>s'=Ab.put s d (.box cs)) hR _ (fun d' h'=>by injection h' with h';subst h';exact hd.1) (by simp only [astep,hz];exact ⟨hd.2,trivial⟩) (fun s' a' w' hR' hs'=>by subst hs';exact hK a' w' hR')
 case box t x =>
  simp only [acalm] at h
  split at h
  ·rename_i p xv e
   obtain ⟨hp,rfl⟩:=h
   obtain ⟨e1,e2⟩:=uv_of_sv e
   exact astep_ok (P:=P) (K:=fun s'=>s'=Ab.put s d (.box xv.cells)) hR _ (fun d' h'=>by injection h' with h';subst h';exact hd.1) (by simp only [astep,e,e1,e2,freezeL,boxLink];exact ⟨hp,hd.2,trivial⟩) (fun s' a' w' hR' hs'=>by subst hs';exact hK a' w' hR')
  ·exact h.elim
 case convert src dst x =>
  simp only [acalm] at h
  cases hsl:isSliceT P dst with
  | false=>rw [hsl] at h;exact plain h
  | true =>
   rw [hsl] at h
   obtain ⟨hp,rfl⟩:=h
   obtain ⟨r,w',hrun,hR'⟩:=abytes_ok (P:=P) hR hd (hR.sv x) hp
   unfold Oper.wp
   have hx:(execOp a.eval ({ dst:=some d,op:=.convert src dst x,type:=type,pos:=pos,after:=after,guard:=guard }:Oper)).run P w=.ok (.value r) w':=by
    simp only [execOp,Sem.run_bind,hrun,Result.andThen_ok,Sem.run_pure]
   rw [hx]
   exact hK _ _ hR'
 case buildSlice t len parts =>
  obtain ⟨hp,rfl⟩:=h
  obtain ⟨v,w',hrun,hR'⟩:=abuildSlice_ok (P:=P) (f:=Ab.sv s) hR (fun x _=>hR.sv x.2) hd hp
  unfold Oper.wp
  have hx:(execOp a.eval ({ dst:=some d,op:=.buildSlice t len parts,type:=type,pos:=pos,after:=after,guard:=guard }:Oper)).run P w=.ok (.value v) w':=by
   simp only [execOp,Sem.run_bind,hrun,Result.andThen_ok,Sem.run_pure]
  rw [hx]
  exact hK _ _ hR'
 case call c =>
  obtain ⟨callee,args,argTypes⟩:=c
  simp only [acalm] at h
  split at h
  ·rename_i f
   obtain ⟨rv,hc,hfl,rfl⟩:=h
   have hac:afterCall s args.toList rv=s:=by
    unfold afterCall
    rw [Bool.or_eq_true] at hfl
    cases hf:rv.flat with
    | true=>rfl
    | false =>
     rcases hfl with h | h
     ·rw [hf] at h;cases h
     ·have:lends s args.toList=[]:=by simpa using h
      simp only [this];rfl
   refine acall_ok (P:=P) hR hc ⟨argTypes,rfl⟩ hd rfl (fun a' w' hR'=>?_)
   rw [hac] at hR'
   exact hK _ _ hR'
  ·exact plain h
theorem acalmG_ok (hR:Rel S0 w0 n s a w) (o:Oper) {d:Nat} {r:AV} {e:Bool} (hdst:o.dst=some d) (hd:S0.m≤d∧d<n) (h:acalmG P s e o.op r) {K':Act→World→Prop} {Q:Exit→Act→World→Prop}
  (hK:∀a' w',Rel S0 w0 n (Ab.put s d r) a' w'→K' a' w'):if e then o.wp P a w K' Q else K' (a.put o.dst undef) w:=by
 refine aguard_ok (P:=P) (K:=fun s'=>s'=Ab.put s d r) hR o (fun d' h'=>by rw [hdst] at h';injection h' with h';subst h';exact hd.1) ?_ (fun s' a' w' hR' hs'=>by subst hs';exact hK a' w' hR')
 obtain ⟨dst,op,type,pos,after,guard⟩:=o
 dsimp only at h hdst ⊢
 subst hdst
 cases op<;>try (obtain ⟨h1,h2,rfl⟩:=h;exact ⟨h1,h2,hd.2,rfl⟩)
 case buildSlice t len parts =>
  cases e with
  | true=>obtain ⟨h1,rfl⟩:=h;exact ⟨h1,hd.2,rfl⟩
  | false=>obtain rfl:=h;exact ⟨hd.2,rfl⟩
 case call c =>
  obtain ⟨callee,args,ts⟩:=c
  cases callee with
  | value f =>
   obtain ⟨rv,h1,h2⟩:=callG_exact h
   exact h1 _ ⟨hd.2,by rw [h2]⟩
  | _ =>
   obtain ⟨h1,h2,rfl⟩:=h
   exact ⟨h1,h2,hd.2,rfl⟩
theorem stepD_ok {m:Bool} {ops:Array Oper} {i:Nat} {s':St} (hdm:∀o∈ops.toList,∀d,o.dst=some d→S0.m≤d) (hR:Rel S0 w0 n s a w) (h:stepD P n m ops i s s') {K':Act→World→Prop} {Q:Exit→Act→World→Prop}
  (hK:∀a' w',Rel S0 w0 n s' a' w'→K' a' w'):wpOp P ops Q i K' a w:=by
 obtain ⟨o,ho,h⟩:=h
 have hom:=hdm o (by have:=Array.mem_of_getElem? ho;simpa using this)
 unfold wpOp
 rw [ho]
 simp only
 have calm:calmStep P n ops o s s'→if Region.wanted o (yielded ops a.tmps) then o.wp P a w K' Q∨(o.asks P a w∧LetsOut Q) else K' (a.put o.dst undef) w:=by
  rintro ⟨d,r,hdst,hd,_,rfl,hv⟩
  cases hg:o.guard with
  | none =>
   rw [hg] at hv
   rw [if_pos (by simp [Region.wanted,hg])]
   exact .inl (acalm_ok (P:=P) hR o hdst ⟨hom d hdst,hd⟩ hv hK)
  | some g =>
   rw [hg] at hv
   obtain ⟨e,he,hv⟩:=hv
   have hw:Region.wanted o (yielded ops a.tmps)=e:=by
    simp only [Region.wanted,hg]
    exact gval_ok hR he
   have:=acalmG_ok (P:=P) (Q:=Q) hR o hdst ⟨hom d hdst,hd⟩ hv hK
   rw [hw]
   cases e with
   | true=>exact .inl this
   | false=>exact this
 have wr:wStep P n o s s'→if Region.wanted o (yielded ops a.tmps) then o.wp P a w K' Q∨(o.asks P a w∧LetsOut Q) else K' (a.put o.dst undef) w:=by
  intro hw
  have hg:o.guard=none:=by obtain ⟨_,_,h,_⟩:=hw;exact h.1
  rw [if_pos (by simp [Region.wanted,hg])]
  exact .inl (wStep_ok hR o hom hw hK)
 split at h
 ·split at h
  ·exact h.elim calm wr
  ·exact calm h.1
 ·split at h
  ·exact wr h
  ·unfold aop at h
   cases hg:o.guard with
   | none =>
    rw [hg] at h
    rw [if_pos (by simp [Region.wanted,hg])]
    exact .inl (astep_ok (P:=P) hR o hom h (fun s1 a' w' hR' hs=>by subst hs;exact hK a' w' hR'))
   | some g =>
    rw [hg] at h
    simp only at h
    cases he:gval ops s g with
    | none=>rw [he] at h;exact h.elim
    | some e =>
     rw [he] at h
     simp only at h
     have hw:Region.wanted o (yielded ops a.tmps)=e:=by
      simp only [Region.wanted,hg]
      exact gval_ok hR he
     have:=gstep_ok (P:=P) (Q:=Q) hR o hom h (fun s1 a' w' hR' hs=>by subst hs;exact hK a' w' hR')
     rw [hw]
     cases e with
     | true=>exact .inl this
     | false=>exact this
theorem any_ok {m:Bool} {ops:Array Oper} (hdm:∀o∈ops.toList,∀d,o.dst=some d→S0.m≤d) {fin:St→Prop} {Q:Exit→Act→World→Prop} (hQ:∀s' a' w',Rel S0 w0 n s' a' w'→fin s'→Q .normal a' w') :
  ∀(fuel:Nat) (listed:Array Bool) (s:St) (a:Act) (w:World),Rel S0 w0 n s a w→anyA ops (stepD P n m ops) fin fuel listed s→wpAny P .any ops Q fuel listed a w
 | 0,_,s,a,w,hR,h=>⟨h.1,hQ s a w hR h.2⟩
 | fuel+1,listed,s,a,w,hR,h=>⟨fun h0=>hQ s a w hR (h.1 h0),fun i hi=>by
   obtain ⟨s',h1,h2⟩:=h.2 i hi
   exact stepD_ok hdm hR h1 (fun a' w' hR'=>any_ok hdm hQ fuel _ s' a' w' hR' h2)⟩
theorem Rel.drawn (hR:Rel S0 w0 n s a w):Rel S0 w0 n s a { w with drawn:=w.drawn+1 }:=by
 have hb:∀b:Nat,({ w with drawn:=w.drawn+1 }:World).heap[b]?=w.heap[b]?:=fun _=>rfl
 exact ⟨hR.defers,hR.size,hR.below.drew _,hR.lt,fun i=>(hR.rep i).mono (fun b hb=>hb) (fun b _=>rfl) (fun b _=>rfl) (fun k _=>⟨rfl,fun h=>⟨h,rfl,rfl,rfl⟩,fun c hc=>hc⟩) (fun _ _ _ cs _ _ hs _=>⟨⟨cs,hs,rfl⟩,rfl⟩),hR.inj,hR.out,hR.wf,hR.pin⟩
theorem region_draw_ok {m:Bool} {ops:Array Oper} {id:Nat} {Q:Exit→Act→World→Prop} {K:St→Prop} (hm:P.follows .mixedOrders=true) (hok:drawOk m ops=true) (hdm:∀o∈ops.toList,∀d,o.dst=some d→S0.m≤d)
  (hR:Rel S0 w0 n s a w) (h:aopsD P n m ops ops.toList s K) (hQ:∀s' a' w',Rel S0 w0 n s' a' w'→K s'→Q .normal a' w'):(Code.region id ops true).wp P Q a w:=by
 obtain ⟨s',hch,hk⟩:=chain_of_aopsD ops.toList 0 s hR.wf (fun j=>by simp) h
 refine wp_region_any hm (any_ok (m:=m) hdm hQ _ _ s a _ hR.drawn ?_)
 have hlow:∀{i:Nat} {o:Oper},ops[i]?=some o→∀d,o.dst=some d→d<MARK:=by
  intro i o ho
  have h:=hok
  simp only [drawOk,Bool.and_eq_true] at h
  exact lowDst_spec (List.all_eq_true.1 h.1 o (by have:=Array.mem_of_getElem? ho;simpa using this))
 have hok':=hok
 simp only [drawOk,Bool.and_eq_true] at hok'
 replace hok':=hok'.2
 have hdr:∀i,i<ops.size→((match ops[i]? with
   | some o=>o.after.toList.all fun e=>!Region.binds .any e || decide (e.on<i)
   | none=>false)=true∧∀j,j<i→pairOk m ops (Region.before ops) i j=true):=by
  intro i hi
  have:=List.all_eq_true.1 hok' i (by simp [hi])
  simp only [Bool.and_eq_true,List.all_eq_true,List.mem_range] at this
  exact ⟨this.1,fun j hj=>this.2 j hj⟩
 refine chain_any (wf:=Wf) (indep:=fun j i=>∃oi oj,ops[i]?=some oi∧ops[j]?=some oj∧mixB m ops oi oj=true∧oj.apart ops oi=true)
  (fun i s s' hw h=>stepD_wf hw h) ?_ ?_ ?_ hk ops.size (List.range' 0 ops.toList.length) _ s (by simp) (by simp) ?_ ?_ ?_ hR.wf hch
 ·rintro j i s s1 s2 ⟨oi,oj,hoi,hoj,hm,hap⟩ hw h1 h2
  exact mix_comm (hlow hoi) (hlow hoj) hoi hoj hm hap hw h1 h2
 ·intro i o ho e he hb
  have:=(hdr i (Array.getElem?_eq_some_iff.1 ho).1).1
  rw [ho] at this
  have:=List.all_eq_true.1 this e (by simpa using he)
  simpa [hb] using this
 ·intro j i hji hi
  have:=(hdr i hi).2 j hji
  unfold pairOk at this
  rw [Bool.or_eq_true] at this
  rcases this with h | h
  ·exact .inl (before_waits ops i j h)
  ·split at h
   ·rename_i oi oj hoi hoj
    simp only [Bool.and_eq_true] at h
    exact .inr ⟨oi,oj,hoi,hoj,h.1,h.2⟩
   ·cases h
 ·intro i o ho hl
  have hlt:=(Array.getElem?_eq_some_iff.1 ho).1
  simp [hlt] at hl
 ·exact List.pairwise_lt_range'
 ·intro i
  simp only [List.mem_range'_1,Array.length_toList,Nat.zero_add,Nat.zero_le,true_and]
  constructor
  ·intro hi;exact ⟨hi,by simp [hi]⟩
  ·intro hi;exact hi.1
theorem region_drawA_ok {fl:List Bool} {ops:Array Oper} {id:Nat} {Q:Exit→Act→World→Prop} {K:St→Prop} (hm:P.follows .mixedOrders=true) (hok:drawOkA fl ops=true) (hdm:∀o∈ops.toList,∀d,o.dst=some d→S0.m≤d)
  (hR:Rel S0 w0 n s a w) (h:aopsA P n fl ops fl ops.toList s K) (hQ:∀s' a' w',Rel S0 w0 n s' a' w'→K s'→Q .normal a' w'):(Code.region id ops true).wp P Q a w:=
 wp_region_any hm (any_ok (m:=false) hdm hQ _ _ s a _ hR.drawn (anyA_of_aopsA hok hR.wf h))
end
end Go.Ab
namespace Go.Ab
open Go Go.RowKit
variable [Amb]
def AMakes (P:Program) (f g:FuncId):Prop:=
 Callable P f∧∀(w:World) (v:Value),v.oneCell'=true→Amb.holds w→Calls P f #[v] w fun e w'=>∃b t,e=.returned (.func (.func g) #[] #[.pointer (some ⟨b,0,none⟩)])∧w.heap.size≤b∧w'.heap[b]?=some (.cells #[v] t (0,0))∧Below w.heap.size w w'
def makesC (P:Program) (fv x:Prop×AV) (r:AV):Prop:=
 match fnOf fv.2,x with
 | some (g,[]),(q,.ptr i off)=>fv.1∧q∧∃g',AMakes P g g'∧r=.cloR g' [.inr (i,off+1000000)]
 | _,_=>False
def makesA (P:Program) (s:St) (op:Op) (r:AV):Prop:=
 match op with
 | .call c=>match c.callee with
  | .value f=>match c.args.toList with
   | [x]=>makesC P (sv s f) (sv s x) r
   | _=>False
  | _=>False
 | _=>False
def makesG (P:Program) (s:St) (e:Bool) (op:Op) (r:AV):Prop:=
 match e with
 | true=>∃r0,makesA P s op r0∧r=.cond true r0
 | false=>r=.cond false (.x (.one (.bool false)))
theorem makesA_congr {P:Program} {s s':St} (op:Op) (r:AV) (h:∀x∈op.operands,AgreeO s s' x):makesA P s' op r↔makesA P s op r:=by
 cases op with
 | call c =>
  obtain ⟨callee,⟨args⟩,ts⟩:=c
  cases callee with
  | value f =>
   have hf:AgreeO s s' f:=h f (by simp [Op.operands,Call.operands])
   have ha:∀x∈args,AgreeO s s' x:=fun x hx=>h x (by simp [Op.operands,Call.operands,hx])
   match args,ha with
   | [],_=>exact Iff.rfl
   | [x],ha=>simp only [makesA,sv_congr hf,sv_congr (ha x (by simp))]
   | _::_::_,_=>exact Iff.rfl
  | _=>exact Iff.rfl
 | _=>exact Iff.rfl
theorem makesG_congr {P:Program} {s s':St} {e:Bool} (op:Op) (r:AV) (h:∀x∈op.operands,AgreeO s s' x):makesG P s' e op r↔makesG P s e op r:=by
 cases e with
 | true=>simp only [makesG,makesA_congr _ _ h]
 | false=>exact Iff.rfl
def gStep (n:Nat) (ops:Array Oper) (o:Oper) (V:St→AV→Prop) (VG:St→Bool→AV→Prop) (s s':St):Prop:=
 ∃d r,o.dst=some d∧d<n∧(s d).isOwner=false∧s'=put s d r∧match o.guard with
  | none=>V s r
  | some g=>∃e,gval ops s g=some e∧VG s e r
def okV (P:Program) (o:Oper) (V:St→AV→Prop) (VG:St→Bool→AV→Prop):Prop:=
 ∀s s',(∀x∈o.op.operands,AgreeO s s' x)→LKok P s s' o.op→(∀r,V s' r↔V s r)∧∀e r,VG s' e r↔VG s e r
theorem calm_okV (P:Program) (o:Oper):okV P o (fun s r=>acalm P s o.op r) (fun s e r=>acalmG P s e o.op r):=fun _ _ h hl=>⟨fun r=>acalm_congr _ r h hl,fun e r=>acalmG_congr _ r h hl⟩
theorem makes_okV (P:Program) (o:Oper):okV P o (fun s r=>makesA P s o.op r) (fun s e r=>makesG P s e o.op r):=fun _ _ h _=>⟨fun r=>makesA_congr _ r h,fun e r=>makesG_congr _ r h⟩
theorem g_comm {P:Program} {n:Nat} {ops:Array Oper} {oi oj:Oper} {Vi Vj:St→AV→Prop} {VGi VGj:St→Bool→AV→Prop} {s s1 s2:St} (ki:okV P oi Vi VGi) (kj:okV P oj Vj VGj) (hmi:∀d,oi.dst=some d→d<MARK) (hmj:∀d,oj.dst=some d→d<MARK) (hap:oi.apart ops oj=true) (hw:Wf s)
  (hi:gStep n ops oi Vi VGi s s1) (hj:gStep n ops oj Vj VGj s1 s2):∃s1',gStep n ops oj Vj VGj s s1'∧gStep n ops oi Vi VGi s1' s2:=by
 obtain ⟨di,ri,hdi,hin,hoi,rfl,hvi⟩:=hi
 obtain ⟨dj,rj,hdj,hjn,hoj,rfl,hvj⟩:=hj
 obtain ⟨h1,h2,h3⟩:=Oper.apart_spec hap
 have hne:dj≠di:=fun e=>h2 di hdi (by rw [hdj,e])
 have hoj':(s dj).isOwner=false:=by rw [put_calm hoi,if_neg hne] at hoj;exact hoj
 have hoi':(put s dj rj di).isOwner=false:=by rw [put_calm hoj',if_neg (Ne.symm hne)];exact hoi
 have ag:∀(o:Oper) (d:Nat),d∉o.looksAt ops→∀x∈o.op.operands,x≠.tmp d:=by
  intro o d hd x hx e
  subst e
  exact hd (by simp only [Oper.looksAt,List.mem_append,List.mem_filterMap];exact .inl ⟨.tmp d,by simpa using hx,rfl⟩)
 have gd:∀(o:Oper) (d:Nat) (g:Nat×Bool),d∉o.looksAt ops→o.guard=some g→∀d',(ops[g.1]?).bind (·.dst)=some d'→d'≠d:=by
  intro o d g hd hg d' hd' e
  subst e
  refine hd ?_
  simp only [Oper.looksAt,List.mem_append,hg,hd']
  exact .inr (by simp)
 refine ⟨put s dj rj,⟨dj,rj,hdj,hjn,hoj',rfl,?_⟩,⟨di,ri,hdi,hin,hoi',?_,?_⟩⟩
 ·have hag:∀x∈oj.op.operands,AgreeO s (put s di ri) x:=fun x hx=>agree_put hw hoi (ag oj di (h1 di hdi) x hx)
  cases hg:oj.guard with
  | none=>rw [hg] at hvj;exact ((kj _ _ hag (LKok_of (put_LK hoi (hmi di hdi)) _)).1 _).1 hvj
  | some g =>
   rw [hg] at hvj
   obtain ⟨e,he,hv⟩:=hvj
   refine ⟨e,?_,((kj _ _ hag (LKok_of (put_LK hoi (hmi di hdi)) _)).2 _ _).1 hv⟩
   rw [←he]
   exact (gval_congr (fun d' hd'=>by rw [put_calm hoi,if_neg (gd oj di g (h1 di hdi) hg d' hd')])).symm
 ·funext k
  rw [put_calm hoj,put_calm hoi,put_calm hoi',put_calm hoj']
  by_cases hkj:k=dj
  ·subst hkj;simp [hne]
  ·by_cases hki:k=di
   ·subst hki;simp [hkj]
   ·simp [hkj,hki]
 ·have hag:∀x∈oi.op.operands,AgreeO s (put s dj rj) x:=fun x hx=>agree_put hw hoj' (ag oi dj (h3 dj hdj) x hx)
  cases hg:oi.guard with
  | none=>rw [hg] at hvi;exact ((ki _ _ hag (LKok_of (put_LK hoj' (hmj dj hdj)) _)).1 _).2 hvi
  | some g =>
   rw [hg] at hvi
   obtain ⟨e,he,hv⟩:=hvi
   refine ⟨e,?_,((ki _ _ hag (LKok_of (put_LK hoj' (hmj dj hdj)) _)).2 _ _).2 hv⟩
   rw [←he]
   exact gval_congr (fun d' hd'=>by rw [put_calm hoj',if_neg (gd oi dj g (h3 dj hdj) hg d' hd')])
theorem mark_ne {d:Nat} (h:d<MARK):¬(MARK=d):=by unfold MARK at *;omega
theorem LK_ne {d:Nat} (h:d<MARK) (i off:Nat):LK i off≠d:=by unfold LK;unfold MARK at h;omega
def moveU (o:Oper):Bool:=match o.op with
 | .move _=>o.guard.isNone
 | _=>false
theorem moveU_spec {o:Oper} (h:moveU o=true):∃x,o.op=.move x∧o.guard=none:=by
 unfold moveU at h
 split at h
 ·rename_i x e;exact ⟨x,e,by simpa using h⟩
 ·cases h
def lStep (P:Program) (o:Oper) (s s':St):Prop:=
 ∃t addr x p i off d,o.op=.store t addr x∧o.guard=none∧o.dst=none∧linkable s (sv s addr) (sv s x)=some (p,i,off,d)∧OneOk P t=true∧p∧(linkStore P s t i off d).1∧s'=(linkStore P s t i off d).2
def mvStep (P:Program) (n:Nat) (ops:Array Oper) (o:Oper) (s s':St):Prop:=calmStep P n ops o s s'∧bareOp P s o.op∧moveU o=true
theorem bareV_linkIn {s:St} {i off m:Nat}:∀{v:AV},bareV s v=true→v.linkIn i off m=false
 | .x _,_=>rfl
 | .elem _,_=>rfl
 | .ptr _ _,_=>rfl
 | .alias _,_=>rfl
 | .cond _ v,h=>bareV_linkIn (v:=v) h
theorem linkStore_at {P:Program} {s:St} {t:TypeId} {i off d:Nat} (h:(linkStore P s t i off d).1):∃(B:List CV→AV) (cs:List CV),(B=.box∨∃b,B=.gbox b)∧s i=B cs∧tk P t=.one∧(s d).tight=true∧(s (LK i off)).free=true∧off<cs.length ∧
  ∀k,(linkStore P s t i off d).2 k=if k=i then B (cs.set off .any) else if k=LK i off then .link i off d else unlink s i off 1 k:=by
 unfold linkStore at h ⊢
 split at h
 ·rename_i cs hk hs
  obtain ⟨h1,h2,h3⟩:=h
  simp only [hk,hs]
  exact ⟨.box,cs,.inl rfl,rfl,trivial,h2,h3,h1,fun k=>rfl⟩
 ·rename_i b cs hk hs
  obtain ⟨h1,h2,h3⟩:=h
  simp only [hk,hs]
  exact ⟨.gbox b,cs,.inr ⟨b,rfl⟩,rfl,trivial,h2,h3,h1,fun k=>rfl⟩
 ·exact h.elim
theorem linkStore_ok1 {P:Program} {s:St} {t:TypeId} {i off d:Nat} {cs:List CV} (h1:(s i).boxC=some cs) (h2:tk P t=.one) (h3:(s d).tight=true) (h4:(s (LK i off)).free=true) (h5:off<cs.length):(linkStore P s t i off d).1:=by
 unfold linkStore
 cases hs:s i<;>rw [hs] at h1<;>first | (cases h1;done) | skip
 ·rename_i c
  obtain rfl:c=cs:=by simpa [AV.boxC] using h1
  simp only [h2]
  exact ⟨h5,h3,h4⟩
 ·rename_i b c
  obtain rfl:c=cs:=by simpa [AV.boxC] using h1
  simp only [h2]
  exact ⟨h5,h3,h4⟩
theorem link_look {P:Program} {s:St} {t:TypeId} {i off d:Nat} (h:(linkStore P s t i off d).1) {x:Operand}:(bareV s (look s x)=true∨bareV (linkStore P s t i off d).2 (look (linkStore P s t i off d).2 x)=true) →
  look (linkStore P s t i off d).2 x=look s x∧bareV s (look s x)=true∧bareV (linkStore P s t i off d).2 (look (linkStore P s t i off d).2 x)=true:=by
 obtain ⟨B,cs,hB,hs,_,_,hfree,_,hat⟩:=linkStore_at h
 generalize (linkStore P s t i off d).2=S at hat
 have hLKi:LK i off≠i:=by intro e;rw [e,hs] at hfree;rcases hB with rfl | ⟨_,rfl⟩<;>cases hfree
 have hbox:∀k,(∃c,S k=.box c)↔∃c,s k=.box c:=by
  intro k
  rw [hat]
  by_cases hk:k=i
  ·subst hk;rw [if_pos rfl,hs];rcases hB with rfl | ⟨_,rfl⟩<;>simp
  ·rw [if_neg hk]
   by_cases hl:k=LK i off
   ·subst hl
    rw [if_pos rfl]
    constructor
    ·rintro ⟨c,h⟩;cases h
    ·rintro ⟨c,h⟩;rw [h] at hfree;cases hfree
   ·rw [if_neg hl]
    constructor
    ·rintro ⟨c,h⟩
     rcases unlink_or s i off 1 k with e | e<;>rw [e] at h
     ·exact ⟨c,h⟩
     ·cases h
    ·rintro ⟨c,h⟩
     exact ⟨c,by rw [unlink_owner (by rw [h];rfl)];exact h⟩
 have hmp:∀k,(∃c bs es,S k=.mp c bs es)↔∃c bs es,s k=.mp c bs es:=by
  intro k
  rw [hat]
  by_cases hk:k=i
  ·subst hk;rw [if_pos rfl,hs];rcases hB with rfl | ⟨_,rfl⟩<;>simp
  ·rw [if_neg hk]
   by_cases hl:k=LK i off
   ·subst hl
    rw [if_pos rfl]
    constructor
    ·rintro ⟨c,_,_,h⟩;cases h
    ·rintro ⟨c,_,_,h⟩;rw [h] at hfree;cases hfree
   ·rw [if_neg hl]
    constructor
    ·rintro ⟨c,bs,es,h⟩
     rcases unlink_or s i off 1 k with e | e<;>rw [e] at h
     ·exact ⟨c,bs,es,h⟩
     ·cases h
    ·rintro ⟨c,bs,es,h⟩
     exact ⟨c,bs,es,by rw [unlink_owner (by rw [h];rfl)];exact h⟩
 have hbv:∀v:AV,bareV S v=bareV s v:=by
  intro v
  induction v with
  | alias k =>
   have:=hmp k
   simp only [bareV]
   cases e1:S k<;>cases e2:s k<;>first | rfl | (rw [e1,e2] at this;simp at this)
  | ptr k o =>
   have:=hbox k
   simp only [bareV]
   cases e1:S k<;>cases e2:s k<;>first | rfl | (rw [e1,e2] at this;simp at this)
  | cond e v ih=>exact ih
  | _=>rfl
 cases x with
 | tmp k =>
  have hk:look S (.tmp k)=look s (.tmp k)∨(bareV s (look s (.tmp k))=false∧bareV s (look S (.tmp k))=false):=by
   simp only [look,hat]
   by_cases hki:k=i
   ·subst hki;left;rw [if_pos rfl,hs];rcases hB with rfl | ⟨_,rfl⟩<;>rfl
   ·rw [if_neg hki]
    by_cases hl:k=LK i off
    ·subst hl
     rw [if_pos rfl]
     right
     refine ⟨?_,rfl⟩
     cases e:s (LK i off)<;>rw [e] at hfree<;>first | rfl | cases hfree
    ·rw [if_neg hl]
     unfold unlink
     cases hli:(s k).linkIn i off 1 with
     | false=>exact .inl rfl
     | true =>
      right
      refine ⟨?_,rfl⟩
      cases hb:bareV s (s k) with
      | true=>rw [bareV_linkIn hb] at hli;cases hli
      | false =>
       have hno:=AV.linkIn_free hli
       cases e:s k<;>rw [e] at hb hno<;>first | exact hb | cases hno
  rintro (hb | hb)
  ·rcases hk with e | ⟨e,_⟩
   ·exact ⟨e,hb,by rw [e,hbv];exact hb⟩
   ·rw [e] at hb;cases hb
  ·rw [hbv] at hb
   rcases hk with e | ⟨_,e⟩
   ·rw [e] at hb;exact ⟨e,hb,by rw [e,hbv];exact hb⟩
   ·rw [e] at hb;cases hb
 | _ =>
  rintro (hb | hb)
  ·exact ⟨rfl,hb,by rw [hbv];exact hb⟩
  ·rw [hbv] at hb;exact ⟨rfl,hb,by rw [hbv];exact hb⟩
theorem link_put {P:Program} {s:St} {t:TypeId} {i off d dj:Nat} {r:AV} (h:(linkStore P s t i off d).1) (hj:(s dj).isOwner=false) (hd:d≠dj) (hm:dj<MARK) (hr:∀i off m,r.linkIn i off m=false) :
  (linkStore P (put s dj r) t i off d).1∧((linkStore P s t i off d).2 dj).isOwner=false∧(linkStore P (put s dj r) t i off d).2=put (linkStore P s t i off d).2 dj r:=by
 obtain ⟨B,cs,hB,hs,hk,hdt,hfree,hlt,hat⟩:=linkStore_at h
 have hsc:(s i).boxC=some cs:=by rw [hs];rcases hB with rfl | ⟨_,rfl⟩<;>rfl
 have hij:i≠dj:=by rintro rfl;rw [AV.boxC_owner hsc] at hj;cases hj
 have hLj:LK i off≠dj:=LK_ne hm i off
 have hp:∀k,put s dj r k=if k=dj then (match r.refs dj with | true=>.dead | false=>r) else s k:=put_calm hj
 have h':(linkStore P (put s dj r) t i off d).1:=linkStore_ok1 (cs:=cs) (by rw [hp,if_neg hij];exact hsc) hk (by rw [hp,if_neg hd];exact hdt) (by rw [hp,if_neg hLj];exact hfree) hlt
 obtain ⟨B',cs',hB',hs',_,_,_,_,hat'⟩:=linkStore_at h'
 rw [hp,if_neg hij,hs] at hs'
 obtain ⟨rfl,rfl⟩:B'=B∧cs'=cs:=by
  rcases hB with rfl | ⟨b,rfl⟩<;>rcases hB' with rfl | ⟨b',rfl⟩<;>first | (cases hs';done) | skip
  ·injection hs' with hs';exact ⟨rfl,hs'.symm⟩
  ·injection hs' with hs1 hs2;exact ⟨by rw [hs1],hs2.symm⟩
 have hno:((linkStore P s t i off d).2 dj).isOwner=false:=by
  rw [hat,if_neg (Ne.symm hij),if_neg (Ne.symm hLj)]
  rcases unlink_or s i off 1 dj with e | e<;>rw [e]
  ·exact hj
  ·rfl
 refine ⟨h',hno,?_⟩
 funext k
 rw [hat',put_calm hno,hat]
 by_cases hki:k=i
 ·subst hki;rw [if_pos rfl,if_neg hij,if_pos rfl]
 ·rw [if_neg hki,if_neg hki]
  by_cases hkl:k=LK i off
  ·subst hkl;rw [if_pos rfl,if_neg hLj,if_pos rfl]
  ·rw [if_neg hkl,if_neg hkl]
   unfold unlink
   rw [hp]
   by_cases hkj:k=dj
   ·subst hkj
    rw [if_pos rfl,if_pos rfl]
    cases r.refs k with
    | true=>rfl
    | false=>simp only [hr]
   ·rw [if_neg hkj,if_neg hkj]
theorem move_linkIn {P:Program} {s:St} {x:Operand} (hb:bareV s (look s x)=true) (i off m:Nat):(sv s x).2.linkIn i off m=false:=by
 unfold sv
 have:∀v:AV,bareV s v=true→(strip v).2.linkIn i off m=false:=by
  intro v hv
  cases v<;>first | (simp [bareV] at hv;done) | skip
  ·rename_i xv
   cases xv with
   | one c=>cases c<;>rfl
   | agg cs=>rfl
  ·rfl
  ·rfl
  ·rfl
  ·exact bareV_linkIn (s:=s) hv
 exact this _ hb
theorem mv_link {P:Program} {n:Nat} {ops:Array Oper} {oi oj:Oper} {s s1 s2:St} (hw:Wf s) (lwj:∀d,oj.dst=some d→d<MARK) (a1:∀d,oj.dst=some d→d∉oi.looksAt ops)
  (hj:mvStep P n ops oj s s1) (hi:lStep P oi s1 s2):∃s1',lStep P oi s s1'∧mvStep P n ops oj s1' s2:=by
 obtain ⟨⟨dj,r,hdj,hjn,hoj,rfl,hv⟩,hb,hmu⟩:=hj
 obtain ⟨x,hop,hg⟩:=moveU_spec hmu
 rw [hg,hop] at hv
 obtain ⟨hvp,hr⟩:(sv s x).1∧r=(sv s x).2:=hv
 rw [hop] at hb
 have hbv:bareV s (look s x)=true:=bareOp_at hb x (by simp [Op.operands])
 obtain ⟨t,addr,y,p,i,off,d,hop2,hg2,hdst2,hl,ho,hp,hls,rfl⟩:=hi
 have hag:∀z∈oi.op.operands,AgreeO s (put s dj r) z:=fun z hz=>agree_put hw hoj (ops_apart oi dj (a1 dj hdj) z hz)
 have ha:=hag addr (by rw [hop2];simp [Op.operands])
 have hy:=hag y (by rw [hop2];simp [Op.operands])
 have hmark:put s dj r MARK=s MARK:=by rw [put_calm hoj,if_neg (mark_ne (lwj dj hdj))]
 have hlq:linkable (put s dj r) (sv (put s dj r) addr) (sv (put s dj r) y)=linkable s (sv s addr) (sv s y):=by
  rw [sv_congr ha,sv_congr hy]
  unfold linkable
  rw [hmark]
 rw [hlq] at hl
 obtain ⟨p1,q,ea,ey,rfl⟩:=linkable_spec hl
 have hsi:put s dj r i=s i:=base_congr ha (by rw [ea];simp [AV.refs])
 have hsd:put s dj r d=s d:=base_congr hy (by rw [ey];simp [AV.refs])
 obtain ⟨B,cs,hB,hs,hk,hdt,hfree,hlt,_⟩:=linkStore_at hls
 have hlk:put s dj r (LK i off)=s (LK i off):=put_LK hoj (lwj dj hdj) i off
 have hls0:(linkStore P s t i off d).1:=linkStore_ok1 (cs:=cs) (by rw [←hsi,hs];rcases hB with rfl | ⟨_,rfl⟩<;>rfl) hk (by rw [←hsd];exact hdt) (by rw [←hlk];exact hfree) hlt
 have hd:d≠dj:=by
  rintro rfl
  have:=AV.tight_owner hdt
  rw [hsd,hoj] at this;cases this
 obtain ⟨_,h2,h3⟩:=link_put (r:=r) hls0 hoj hd (lwj dj hdj) (fun i off m=>by rw [hr];exact move_linkIn (P:=P) hbv i off m)
 obtain ⟨e1,_,e3⟩:=link_look hls0 (.inl hbv)
 refine ⟨_,⟨t,addr,y,_,i,off,d,hop2,hg2,hdst2,hl,ho,hp,hls0,rfl⟩,⟨dj,r,hdj,hjn,h2,h3,?_⟩,?_,hmu⟩
 ·rw [hg,hop]
  have e:sv (linkStore P s t i off d).2 x=sv s x:=by unfold sv;rw [e1]
  exact ⟨by show (sv _ x).1;rw [e];exact hvp,by show r=(sv _ x).2;rw [e];exact hr⟩
 ·rw [hop]
  refine ⟨?_,trivial⟩
  show (bareV _ (look _ x)&&true)=true
  rw [e3];rfl
theorem link_mv {P:Program} {n:Nat} {ops:Array Oper} {oi oj:Oper} {s s1 s2:St} (hw:Wf s) (lwj:∀d,oj.dst=some d→d<MARK) (a1:∀d,oj.dst=some d→d∉oi.looksAt ops)
  (hi:lStep P oi s s1) (hj:mvStep P n ops oj s1 s2):∃s1',mvStep P n ops oj s s1'∧lStep P oi s1' s2:=by
 obtain ⟨t,addr,y,p,i,off,d,hop2,hg2,hdst2,hl,ho,hp,hls,rfl⟩:=hi
 obtain ⟨⟨dj,r,hdj,hjn,hoj1,rfl,hv⟩,hb,hmu⟩:=hj
 obtain ⟨x,hop,hg⟩:=moveU_spec hmu
 rw [hg,hop] at hv
 obtain ⟨hvp,hr⟩:(sv (linkStore P s t i off d).2 x).1∧r=(sv (linkStore P s t i off d).2 x).2:=hv
 rw [hop] at hb
 have hbv:bareV (linkStore P s t i off d).2 (look (linkStore P s t i off d).2 x)=true:=bareOp_at hb x (by simp [Op.operands])
 obtain ⟨e1,e2,_⟩:=link_look hls (.inr hbv)
 have e:sv (linkStore P s t i off d).2 x=sv s x:=by unfold sv;rw [e1]
 rw [e] at hvp hr
 obtain ⟨B,cs,hB,hs,hk,hdt,hfree,hlt,hat⟩:=linkStore_at hls
 obtain ⟨p1,q,ea,ey,rfl⟩:=linkable_spec hl
 have hm:=lwj dj hdj
 have hij:i≠dj:=by
  rintro rfl
  rw [hat,if_pos rfl] at hoj1;rcases hB with rfl | ⟨_,rfl⟩<;>cases hoj1
 have hLj:LK i off≠dj:=LK_ne hm i off
 have hoj:(s dj).isOwner=false:=by
  rw [hat,if_neg (Ne.symm hij),if_neg (Ne.symm hLj)] at hoj1
  cases hx:(s dj).isOwner with
  | false=>rfl
  | true=>rw [unlink_owner hx,hx] at hoj1;cases hoj1
 have hd:d≠dj:=by
  rintro rfl
  have:=AV.tight_owner hdt
  rw [hoj] at this;cases this
 obtain ⟨h1,_,h3⟩:=link_put (r:=r) hls hoj hd hm (fun i off m=>by rw [hr];exact move_linkIn (P:=P) e2 i off m)
 have hag:∀z∈oi.op.operands,AgreeO s (put s dj r) z:=fun z hz=>agree_put hw hoj (ops_apart oi dj (a1 dj hdj) z hz)
 have ha:=hag addr (by rw [hop2];simp [Op.operands])
 have hy:=hag y (by rw [hop2];simp [Op.operands])
 have hmark:put s dj r MARK=s MARK:=by rw [put_calm hoj,if_neg (mark_ne hm)]
 refine ⟨put s dj r,⟨⟨dj,r,hdj,hjn,hoj,rfl,?_⟩,?_,hmu⟩,t,addr,y,_,i,off,d,hop2,hg2,hdst2,?_,ho,hp,h1,h3.symm⟩
 ·rw [hg,hop];exact ⟨hvp,hr⟩
 ·rw [hop]
  refine ⟨?_,trivial⟩
  show (bareV _ (look _ x)&&true)=true
  rw [e2];rfl
 ·rw [sv_congr ha,sv_congr hy]
  rw [←hl]
  unfold linkable
  rw [hmark]
def copies (fl:List Nat):List Bool:=fl.map fun k=>k==6 || k==7 || k==8
def copies7 (fl:List Nat):List Bool:=fl.map fun k=>k==6 || k==7
def kindW (P:Program) (n:Nat) (fl:List Nat) (ops:Array Oper) (o:Oper) (k:Nat) (s s':St):Prop:=
 match k with
 | 0=>aop P n ops o s (fun t=>t=s')
 | 1=>calmStep P n ops o s s'
 | 4=>appStep P n (copies fl) ops o s s'
 | 5=>lStep P o s s'
 | 6=>mvStep P n ops o s s'
 | 7=>calmStep P n ops o s s'∧bareOp P s o.op
 | 8=>calmStep P n ops o s s'∧mvOwn s o
 | 9=>appStep P n (copies7 fl) ops o s s'
 | _=>gStep n ops o (fun s r=>makesA P s o.op r) (fun s e r=>makesG P s e o.op r) s s'
def stepW (P:Program) (n:Nat) (fl:List Nat) (ops:Array Oper) (i:Nat) (s s':St):Prop:=
 ∃o,ops[i]?=some o∧kindW P n fl ops o (fl.getD i 0) s s'
def linkS (s:St) (o:Oper):Prop:=match o.op with
 | .store _ a x=>o.guard=none∧o.dst=none∧(linkable s (sv s a) (sv s x)).isSome=true
 | _=>False
theorem lStep_of {P:Program} {n:Nat} {ops:Array Oper} {o:Oper} {s:St} {K:St→Prop} (hl:linkS s o) (h:aop P n ops o s K):∃s',lStep P o s s'∧K s':=by
 unfold linkS at hl
 split at hl
 ·rename_i t a x hop
  obtain ⟨hg,hd,hk⟩:=hl
  obtain ⟨⟨p,i,off,d⟩,e⟩:=Option.isSome_iff_exists.1 hk
  unfold aop at h
  rw [hg,hd,hop] at h
  simp only [astep,e] at h
  exact ⟨_,⟨t,a,x,p,i,off,d,hop,hg,hd,e,h.1,h.2.1,h.2.2.1,rfl⟩,h.2.2.2⟩
 ·exact hl.elim
theorem lStep_aop {P:Program} {n:Nat} {ops:Array Oper} {o:Oper} {s s':St} (h:lStep P o s s'):aop P n ops o s (fun t=>t=s'):=by
 obtain ⟨t,a,x,p,i,off,d,hop,hg,hd,e,h1,h2,h3,rfl⟩:=h
 unfold aop
 rw [hg,hd,hop]
 simp only [astep,e]
 exact ⟨h1,h2,h3,trivial⟩
def aopMk (P:Program) (n:Nat) (ops:Array Oper) (o:Oper) (s:St) (K:St→Prop):Prop:=
 match o.dst with
 | none=>False
 | some d=>d<n∧(s d).isOwner=false∧match o.guard with
  | none=>∃r,makesA P s o.op r∧K (put s d r)
  | some g=>match gval ops s g with
   | some true=>∃r,makesA P s o.op r∧K (put s d (.cond true r))
   | some false=>K (put s d (.cond false (.x (.one (.bool false)))))
   | none=>False
theorem aopMk_step {P:Program} {n:Nat} {ops:Array Oper} {o:Oper} {s:St} {K:St→Prop} (h:aopMk P n ops o s K):∃s',gStep n ops o (fun s r=>makesA P s o.op r) (fun s e r=>makesG P s e o.op r) s s'∧K s':=by
 unfold aopMk at h
 split at h
 ·exact h.elim
 ·rename_i d hd
  obtain ⟨hn,ho,h⟩:=h
  cases hg:o.guard with
  | none =>
   rw [hg] at h
   obtain ⟨r,h1,h2⟩:=h
   exact ⟨_,⟨d,r,hd,hn,ho,rfl,by rw [hg];exact h1⟩,h2⟩
  | some g =>
   rw [hg] at h
   simp only at h
   split at h
   ·rename_i e
    obtain ⟨r,h1,h2⟩:=h
    exact ⟨_,⟨d,_,hd,hn,ho,rfl,by rw [hg];exact ⟨true,e,r,h1,rfl⟩⟩,h2⟩
   ·rename_i e
    exact ⟨_,⟨d,_,hd,hn,ho,rfl,by rw [hg];exact ⟨false,e,rfl⟩⟩,h⟩
   ·exact h.elim
def aopsW (P:Program) (n:Nat) (fl:List Nat) (ops:Array Oper):List Nat→List Oper→St→(St→Prop)→Prop
 | _,[],s,K=>K s
 | fr,o::r,s,K=>match fr.headD 0 with
  | 0=>aop P n ops o s (fun s'=>aopsW P n fl ops fr.tail r s' K)
  | 1=>aopD P n ops o s (fun s'=>aopsW P n fl ops fr.tail r s' K)
  | 4=>appU o=true∧appSide s (copies fl) ops o∧aop P n ops o s (fun s'=>aopsW P n fl ops fr.tail r s' K)
  | 5=>linkS s o∧aop P n ops o s (fun s'=>aopsW P n fl ops fr.tail r s' K)
  | 6=>moveU o=true∧bareOp P s o.op∧aopD P n ops o s (fun s'=>aopsW P n fl ops fr.tail r s' K)
  | 7=>bareOp P s o.op∧aopD P n ops o s (fun s'=>aopsW P n fl ops fr.tail r s' K)
  | 8=>mvOwn s o∧aopD P n ops o s (fun s'=>aopsW P n fl ops fr.tail r s' K)
  | 9=>appU o=true∧appSide s (copies7 fl) ops o∧aop P n ops o s (fun s'=>aopsW P n fl ops fr.tail r s' K)
  | _=>aopMk P n ops o s (fun s'=>aopsW P n fl ops fr.tail r s' K)
theorem makesA_refs {P:Program} {s:St} (hw:Wf s) {op:Op} {r:AV} (h:makesA P s op r):(∀j,r.refs j=true→(s j).isOwner=true)∧r.isOwner=false:=by
 unfold makesA at h
 split at h
 ·split at h
  ·split at h
   ·rename_i x _
    unfold makesC at h
    split at h
    ·rename_i e1 e2
     obtain ⟨_,_,g',_,rfl⟩:=h
     refine ⟨fun j hj=>sv_refs hw x ?_,rfl⟩
     rw [e2]
     simpa [AV.refs,capRef] using hj
    ·exact h.elim
   ·exact h.elim
  ·exact h.elim
 ·exact h.elim
theorem g_makes_wf {P:Program} {n:Nat} {ops:Array Oper} {o:Oper} {s s':St} (hw:Wf s) (h:gStep n ops o (fun s r=>makesA P s o.op r) (fun s e r=>makesG P s e o.op r) s s'):Wf s':=by
 obtain ⟨d,r,_,_,_,rfl,h⟩:=h
 refine put_wf hw (fun j hj=>?_)
 split at h
 ·exact (makesA_refs hw h).1 j hj
 ·obtain ⟨e,_,h⟩:=h
  unfold makesG at h
  split at h
  ·obtain ⟨r0,h1,rfl⟩:=h
   exact (makesA_refs hw h1).1 j hj
  ·subst h;cases hj
theorem kindW_wf {P:Program} {n:Nat} {fl:List Nat} {ops:Array Oper} {o:Oper} {k:Nat} {s s':St} (hw:Wf s) (h:kindW P n fl ops o k s s'):Wf s':=by
 have ha:aop P n ops o s (fun t=>t=s')→Wf s':=by
  intro h
  obtain ⟨s1,_,h2,h3⟩:=aop_exact hw h
  rw [←h2];exact h3
 unfold kindW at h
 split at h
 ·exact ha h
 ·exact calm_wf hw h
 ·exact ha (app_aop h)
 ·exact ha (lStep_aop h)
 ·exact calm_wf hw h.1
 ·exact calm_wf hw h.1
 ·exact calm_wf hw h.1
 ·exact ha (app_aop h)
 ·exact g_makes_wf hw h
section
variable {P:Program} {S0:Env} {w0 w:World} {n:Nat} {s:St} {a:Act} {ops:Array Oper} {fl:List Nat}
theorem chain_of_aopsW {K:St→Prop}:∀(l:List Oper) (fr:List Nat) (k:Nat) (s:St),Wf s→(∀j o,l[j]?=some o→ops[k+j]?=some o)→(∀j,fr[j]?=fl[k+j]?)→aopsW P n fl ops fr l s K →
  ∃s',chain (stepW P n fl ops) (List.range' k l.length) s s'∧K s'
 | [],_,_,s,_,_,_,h=>⟨s,rfl,by simpa [aopsW] using h⟩
 | o::l,fr,k,s,hw,hl,hf,h=>by
  have h0:ops[k]?=some o:=by simpa using hl 0 o rfl
  have hnext:∀j o,l[j]?=some o→ops[(k+1)+j]?=some o:=fun j o ho=>by have:=hl (j+1) o (by simpa using ho);simpa [Nat.add_assoc,Nat.add_comm 1 j] using this
  have fnext:∀j,fr.tail[j]?=fl[(k+1)+j]?:=fun j=>by have:=hf (j+1);simpa [Nat.add_assoc,Nat.add_comm 1 j] using this
  have fhead:fr.headD 0=fl.getD k 0:=by
   have:=hf 0
   rw [Nat.add_zero] at this
   rw [List.getD_eq_getElem?_getD,←this]
   cases fr<;>rfl
  simp only [aopsW,fhead] at h
  have:∃s1,kindW P n fl ops o (fl.getD k 0) s s1∧aopsW P n fl ops fr.tail l s1 K:=by
   generalize fl.getD k 0=m at h
   match m,h with
   | 0,h=>obtain ⟨s1,h1,h2,_⟩:=aop_exact hw h;exact ⟨s1,h1,h2⟩
   | 1,h=>obtain ⟨s1,h1,h2⟩:=aopD_step h;exact ⟨s1,h1,h2⟩
   | 2,h=>obtain ⟨s1,h1,h2⟩:=aopMk_step h;exact ⟨s1,h1,h2⟩
   | 3,h=>obtain ⟨s1,h1,h2⟩:=aopMk_step h;exact ⟨s1,h1,h2⟩
   | 4,h=>obtain ⟨s1,h1,h2⟩:=app_of_aop h.1 h.2.1 h.2.2;exact ⟨s1,h1,h2⟩
   | 5,h=>obtain ⟨s1,h1,h2⟩:=lStep_of h.1 h.2;exact ⟨s1,h1,h2⟩
   | 6,h=>obtain ⟨s1,h1,h2⟩:=aopD_step h.2.2;exact ⟨s1,⟨h1,h.2.1,h.1⟩,h2⟩
   | 7,h=>obtain ⟨s1,h1,h2⟩:=aopD_step h.2;exact ⟨s1,⟨h1,h.1⟩,h2⟩
   | 8,h=>obtain ⟨s1,h1,h2⟩:=aopD_step h.2;exact ⟨s1,⟨h1,h.1⟩,h2⟩
   | 9,h=>obtain ⟨s1,h1,h2⟩:=app_of_aop h.1 h.2.1 h.2.2;exact ⟨s1,h1,h2⟩
   | m+10,h=>obtain ⟨s1,h1,h2⟩:=aopMk_step h;exact ⟨s1,h1,h2⟩
  obtain ⟨s1,h1,h2⟩:=this
  obtain ⟨s',h3,h4⟩:=chain_of_aopsW l fr.tail (k+1) s1 (kindW_wf hw h1) hnext fnext h2
  exact ⟨s',⟨s1,⟨o,h0,h1⟩,h3⟩,h4⟩
def calmW (k:Nat):Bool:=k==1 || k==2 || k==6 || k==7 || k==8
def mixW (ki kj:Nat):Bool:=(calmW ki&&calmW kj) || ((ki==4 || ki==5)&&kj==6) || ((kj==4 || kj==5)&&ki==6) || (ki==4&&kj==7) || (kj==4&&ki==7) || (ki==4&&kj==8) || (kj==4&&ki==8) || (ki==9&&(kj==6 || kj==7)) || (kj==9&&(ki==6 || ki==7))
def pairOkW (fl:List Nat) (ops:Array Oper) (b:Array Nat) (i j:Nat):Bool:=
 (b.getD i 0).testBit j || (mixW (fl.getD i 0) (fl.getD j 0) &&
 match ops[i]?,ops[j]? with
 | some oi,some oj=>oj.apart ops oi
 | _,_=>false)
def drawOkW (fl:List Nat) (ops:Array Oper):Bool:=
 let b:=Region.before ops
 ops.toList.all lowDst&&(List.range ops.size).all fun i =>
  (match ops[i]? with
   | some o=>o.after.toList.all fun e=>!Region.binds .any e || decide (e.on<i)
   | none=>false) &&
  (List.range i).all fun j=>pairOkW fl ops b i j
theorem copies_get {i:Nat} (h:fl.getD i 0=6∨fl.getD i 0=7∨fl.getD i 0=8):(copies fl)[i]?=some true:=by
 rw [List.getD_eq_getElem?_getD] at h
 unfold copies
 rw [List.getElem?_map]
 cases e:fl[i]? with
 | none=>rw [e] at h;rcases h with h | h | h<;>cases h
 | some k=>rw [e] at h;simp at h;rcases h with h | h | h<;>simp [h]
theorem copies7_get {i:Nat} (h:fl.getD i 0=6∨fl.getD i 0=7):(copies7 fl)[i]?=some true:=by
 rw [List.getD_eq_getElem?_getD] at h
 unfold copies7
 rw [List.getElem?_map]
 cases e:fl[i]? with
 | none=>rw [e] at h;rcases h with h | h<;>cases h
 | some k=>rw [e] at h;simp at h;rcases h with h | h<;>simp [h]
theorem kindW_comm {i j:Nat} {oi oj:Oper} {s s1 s2:St} (hi:ops[i]?=some oi) (hj:ops[j]?=some oj) (hm:mixW (fl.getD i 0) (fl.getD j 0)=true) (lwi:∀d,oi.dst=some d→d<MARK) (lwj:∀d,oj.dst=some d→d<MARK) (hap:oj.apart ops oi=true) (hw:Wf s)
  (h1:kindW P n fl ops oj (fl.getD j 0) s s1) (h2:kindW P n fl ops oi (fl.getD i 0) s1 s2):∃s1',kindW P n fl ops oi (fl.getD i 0) s s1'∧kindW P n fl ops oj (fl.getD j 0) s1' s2:=by
 obtain ⟨a1,a2,a3⟩:=Oper.apart_spec hap
 have b3:∀d,oi.dst=some d→oj.dst≠some d:=fun d h h'=>a2 d h' h
 have key:∀{k:Nat},k=4∨k=5∨calmW k=true→True:=fun _=>trivial
 unfold mixW at hm
 rw [Bool.or_eq_true,Bool.or_eq_true,Bool.or_eq_true,Bool.or_eq_true,Bool.or_eq_true,Bool.or_eq_true,Bool.or_eq_true,Bool.or_eq_true] at hm
 rcases hm with (((((((hm | hm) | hm) | hm) | hm) | hm) | hm) | hm) | hm
 ·rw [Bool.and_eq_true] at hm
  obtain ⟨ci,cj⟩:=hm
  have look:∀{m:Nat} {o:Oper} {k:Nat},ops[m]?=some o→calmW k=true→∃V VG,okV P o V VG∧(∀t t',kindW P n fl ops o k t t'→gStep n ops o V VG t t'∧((k=6∨k=7→bareOp P t o.op)∧(k=6→moveU o=true)∧(k=8→mvOwn t o)))∧(∀t t',gStep n ops o V VG t t'→((k=6∨k=7→bareOp P t o.op)∧(k=6→moveU o=true)∧(k=8→mvOwn t o))→kindW P n fl ops o k t t'):=by
   intro m o k _ hk
   unfold calmW at hk
   simp only [Bool.or_eq_true,beq_iff_eq] at hk
   rcases hk with (((rfl | rfl) | rfl) | rfl) | rfl
   ·exact ⟨_,_,calm_okV P o,fun t t' h=>⟨h,(fun h=>by rcases h with h | h<;>cases h),(fun h=>by cases h),(fun h=>by cases h)⟩,fun t t' h _=>h⟩
   ·exact ⟨_,_,makes_okV P o,fun t t' h=>⟨h,(fun h=>by rcases h with h | h<;>cases h),(fun h=>by cases h),(fun h=>by cases h)⟩,fun t t' h _=>h⟩
   ·exact ⟨_,_,calm_okV P o,fun t t' h=>⟨h.1,fun _=>h.2.1,fun _=>h.2.2,(fun h=>by cases h)⟩,fun t t' h hb=>⟨h,hb.1 (.inl rfl),hb.2.1 rfl⟩⟩
   ·exact ⟨_,_,calm_okV P o,fun t t' h=>⟨h.1,(fun _=>h.2),(fun h=>by cases h),(fun h=>by cases h)⟩,fun t t' h hb=>⟨h,hb.1 (.inr rfl)⟩⟩
   ·exact ⟨_,_,calm_okV P o,fun t t' h=>⟨h.1,(fun h=>by rcases h with h | h<;>cases h),(fun h=>by cases h),fun _=>h.2⟩,fun t t' h hb=>⟨h,hb.2.2 rfl⟩⟩
  obtain ⟨Vi,VGi,oki,ei,ei'⟩:=look hi ci
  obtain ⟨Vj,VGj,okj,ej,ej'⟩:=look hj cj
  obtain ⟨g1,p1⟩:=ej _ _ h1
  obtain ⟨g2,p2⟩:=ei _ _ h2
  obtain ⟨s1',k1,k2⟩:=g_comm okj oki lwj lwi hap hw g1 g2
  have ag:∀{t t':St} {o o':Oper} {V:St→AV→Prop} {VG:St→Bool→AV→Prop},Wf t→gStep n ops o V VG t t'→(∀d,o.dst=some d→d∉o'.looksAt ops)→∀x∈o'.op.operands,AgreeO t t' x:=by
   rintro t t' o o' V VG hwt ⟨d,r,hd,hdn,hno,rfl,_⟩ ha x hx
   exact agree_put (r:=r) hwt hno (ops_apart o' d (ha d hd) x hx)
  have mv:∀{t t':St} {o:Oper},(∀x∈o.op.operands,AgreeO t t' x)→(mvOwn t o↔mvOwn t' o):=by
   intro t t' o h
   constructor
   ·rintro ⟨k,e,z,xs,h1,h2,h3⟩
    exact ⟨k,e,z,xs,h1,h2,by rw [(h (.tmp k) (by rw [h1];simp [Op.operands])).1];exact h3⟩
   ·rintro ⟨k,e,z,xs,h1,h2,h3⟩
    exact ⟨k,e,z,xs,h1,h2,by rw [←(h (.tmp k) (by rw [h1];simp [Op.operands])).1];exact h3⟩
  exact ⟨s1',ei' _ _ k1 ⟨fun h=>(bareOp_congr (ag hw g1 a1)).1 (p2.1 h),p2.2.1,fun h=>(mv (ag hw g1 a1)).2 (p2.2.2 h)⟩,ej' _ _ k2 ⟨fun h=>(bareOp_congr (ag hw k1 a3)).2 (p1.1 h),p1.2.1,fun h=>(mv (ag hw k1 a3)).1 (p1.2.2 h)⟩⟩
 ·simp only [Bool.and_eq_true,Bool.or_eq_true,beq_iff_eq] at hm
  obtain ⟨hi4,hj6⟩:=hm
  have hf:=copies_get (.inl hj6)
  rw [hj6] at h1 ⊢
  obtain ⟨c1,c2,c3⟩:=h1
  rcases hi4 with hi4 | hi4<;>rw [hi4] at h2 ⊢
  ·obtain ⟨s1',k1,k2,k3⟩:=calm_app hw hj hf a1 a3 a2 c1 c2 h2
   exact ⟨s1',k1,k2,k3,c3⟩
  ·obtain ⟨s1',k1,k2⟩:=mv_link hw lwj a1 ⟨c1,c2,c3⟩ h2
   exact ⟨s1',k1,k2⟩
 ·simp only [Bool.and_eq_true,Bool.or_eq_true,beq_iff_eq] at hm
  obtain ⟨hj4,hi6⟩:=hm
  have hf:=copies_get (.inl hi6)
  rw [hi6] at h2 ⊢
  obtain ⟨c1,c2,c3⟩:=h2
  rcases hj4 with hj4 | hj4<;>rw [hj4] at h1 ⊢
  ·obtain ⟨s1',k1,k2,k3⟩:=app_calm hw hi hf a3 a1 b3 h1 c1 c2
   exact ⟨s1',⟨k1,k2,c3⟩,k3⟩
  ·obtain ⟨s1',k1,k2⟩:=link_mv hw lwi a3 h1 ⟨c1,c2,c3⟩
   exact ⟨s1',k1,k2⟩
 ·simp only [Bool.and_eq_true,beq_iff_eq] at hm
  obtain ⟨hi4,hj7⟩:=hm
  have hf:=copies_get (.inr (.inl hj7))
  rw [hj7] at h1 ⊢
  rw [hi4] at h2 ⊢
  obtain ⟨c1,c2⟩:=h1
  obtain ⟨s1',k1,k2,k3⟩:=calm_app hw hj hf a1 a3 a2 c1 c2 h2
  exact ⟨s1',k1,k2,k3⟩
 ·simp only [Bool.and_eq_true,beq_iff_eq] at hm
  obtain ⟨hj4,hi7⟩:=hm
  have hf:=copies_get (.inr (.inl hi7))
  rw [hi7] at h2 ⊢
  rw [hj4] at h1 ⊢
  obtain ⟨c1,c2⟩:=h2
  obtain ⟨s1',k1,k2,k3⟩:=app_calm hw hi hf a3 a1 b3 h1 c1 c2
  exact ⟨s1',⟨k1,k2⟩,k3⟩
 ·simp only [Bool.and_eq_true,beq_iff_eq] at hm
  obtain ⟨hi4,hj8⟩:=hm
  have hf:=copies_get (.inr (.inr hj8))
  rw [hj8] at h1 ⊢
  rw [hi4] at h2 ⊢
  obtain ⟨c1,c2⟩:=h1
  obtain ⟨s1',k1,k2,k3⟩:=mva_app hw hj hf a1 a3 a2 c1 c2 h2
  exact ⟨s1',k1,k2,k3⟩
 ·simp only [Bool.and_eq_true,beq_iff_eq] at hm
  obtain ⟨hj4,hi8⟩:=hm
  have hf:=copies_get (.inr (.inr hi8))
  rw [hi8] at h2 ⊢
  rw [hj4] at h1 ⊢
  obtain ⟨c1,c2⟩:=h2
  obtain ⟨s1',k1,k2,k3⟩:=app_mva hw hi hf a3 a1 b3 h1 c1 c2
  exact ⟨s1',⟨k1,k2⟩,k3⟩
 ·simp only [Bool.and_eq_true,Bool.or_eq_true,beq_iff_eq] at hm
  obtain ⟨hi9,hj'⟩:=hm
  have hf:=copies7_get hj'
  rw [hi9] at h2 ⊢
  rcases hj' with hj' | hj'<;>rw [hj'] at h1 ⊢
  ·obtain ⟨c1,c2,c3⟩:=h1
   obtain ⟨s1',k1,k2,k3⟩:=calm_app hw hj hf a1 a3 a2 c1 c2 h2
   exact ⟨s1',k1,k2,k3,c3⟩
  ·obtain ⟨c1,c2⟩:=h1
   obtain ⟨s1',k1,k2,k3⟩:=calm_app hw hj hf a1 a3 a2 c1 c2 h2
   exact ⟨s1',k1,k2,k3⟩
 ·simp only [Bool.and_eq_true,Bool.or_eq_true,beq_iff_eq] at hm
  obtain ⟨hj9,hi'⟩:=hm
  have hf:=copies7_get hi'
  rw [hj9] at h1 ⊢
  rcases hi' with hi' | hi'<;>rw [hi'] at h2 ⊢
  ·obtain ⟨c1,c2,c3⟩:=h2
   obtain ⟨s1',k1,k2,k3⟩:=app_calm hw hi hf a3 a1 b3 h1 c1 c2
   exact ⟨s1',⟨k1,k2,c3⟩,k3⟩
  ·obtain ⟨c1,c2⟩:=h2
   obtain ⟨s1',k1,k2,k3⟩:=app_calm hw hi hf a3 a1 b3 h1 c1 c2
   exact ⟨s1',⟨k1,k2⟩,k3⟩
theorem anyA_of_aopsW {s:St} {K:St→Prop} (hok:drawOkW fl ops=true) (hw:Wf s) (h:aopsW P n fl ops fl ops.toList s K):anyA ops (stepW P n fl ops) K ops.size (Array.replicate ops.size false) s:=by
 obtain ⟨s',hch,hk⟩:=chain_of_aopsW (fl:=fl) ops.toList fl 0 s hw (fun j o ho=>by simpa using ho) (fun j=>by simp) h
 have hlow:∀{i:Nat} {o:Oper},ops[i]?=some o→∀d,o.dst=some d→d<MARK:=by
  intro i o ho
  have h:=hok
  simp only [drawOkW,Bool.and_eq_true] at h
  exact lowDst_spec (List.all_eq_true.1 h.1 o (by have:=Array.mem_of_getElem? ho;simpa using this))
 have hok':=hok
 simp only [drawOkW,Bool.and_eq_true] at hok'
 replace hok':=hok'.2
 have hdr:∀i,i<ops.size→((match ops[i]? with
   | some o=>o.after.toList.all fun e=>!Region.binds .any e || decide (e.on<i)
   | none=>false)=true∧∀j,j<i→pairOkW fl ops (Region.before ops) i j=true):=by
  intro i hi
  have:=List.all_eq_true.1 hok' i (by simp [hi])
  simp only [Bool.and_eq_true,List.all_eq_true,List.mem_range] at this
  exact ⟨this.1,fun j hj=>this.2 j hj⟩
 refine chain_any (wf:=Wf) (indep:=fun j i=>∃oi oj,ops[i]?=some oi∧ops[j]?=some oj∧mixW (fl.getD i 0) (fl.getD j 0)=true∧oj.apart ops oi=true)
  (fun i s s' hw h=>by obtain ⟨o,_,h⟩:=h;exact kindW_wf hw h) ?_ ?_ ?_ hk ops.size (List.range' 0 ops.toList.length) _ s (by simp) (by simp) ?_ ?_ ?_ hw hch
 ·rintro j i s s1 s2 ⟨oi,oj,hoi,hoj,fm,hap⟩ hw ⟨o1,ho1,h1⟩ ⟨o2,ho2,h2⟩
  rw [hoj] at ho1;injection ho1 with ho1;subst ho1
  rw [hoi] at ho2;injection ho2 with ho2;subst ho2
  obtain ⟨s1',k1,k2⟩:=kindW_comm hoi hoj fm (hlow hoi) (hlow hoj) hap hw h1 h2
  exact ⟨s1',⟨oi,hoi,k1⟩,⟨oj,hoj,k2⟩⟩
 ·intro i o ho e he hb
  have:=(hdr i (Array.getElem?_eq_some_iff.1 ho).1).1
  rw [ho] at this
  have:=List.all_eq_true.1 this e (by simpa using he)
  simpa [hb] using this
 ·intro j i hji hi
  have:=(hdr i hi).2 j hji
  unfold pairOkW at this
  rw [Bool.or_eq_true] at this
  rcases this with h | h
  ·exact .inl (before_waits ops i j h)
  ·rw [Bool.and_eq_true] at h
   obtain ⟨f1,h⟩:=h
   split at h
   ·rename_i oi oj hoi hoj
    exact .inr ⟨oi,oj,hoi,hoj,f1,h⟩
   ·cases h
 ·intro i o ho hl
  have hlt:=(Array.getElem?_eq_some_iff.1 ho).1
  simp [hlt] at hl
 ·exact List.pairwise_lt_range'
 ·intro i
  simp only [List.mem_range'_1,Array.length_toList,Nat.zero_add,Nat.zero_le,true_and]
  constructor
  ·intro hi;exact ⟨hi,by simp [hi]⟩
  ·intro hi;exact hi.1
theorem makesA_ok (hR:Rel S0 w0 n s a w) (o:Oper) {d:Nat} {r:AV} (hdst:o.dst=some d) (hd:S0.m≤d∧d<n) (h:makesA P s o.op r) {K':Act→World→Prop} {Q:Exit→Act→World→Prop}
  (hK:∀a' w',Rel S0 w0 n (Ab.put s d r) a' w'→K' a' w'):o.wp P a w K' Q:=by
 obtain ⟨dst,op,type,pos,after,guard⟩:=o
 dsimp only at h hdst
 subst hdst
 have hrf:=(makesA_refs hR.wf h).1
 unfold makesA at h
 split at h
 ·rename_i c
  obtain ⟨callee,⟨args⟩,ts⟩:=c
  dsimp only at h
  split at h
  ·rename_i f
   split at h
   ·rename_i x
    unfold makesC at h
    split at h
    ·rename_i g q i off e1 e2
     obtain ⟨hp,hq,g',⟨⟨fn,hfn,hname,hbody⟩,hm⟩,rfl⟩:=h
     have hf:=hR.sv f hp
     obtain ⟨us,hfv,hus⟩:=fnOf_ok hf e1
     obtain rfl:us=#[]:=Array.eq_empty_of_size_eq_zero (by simpa using hus.1)
     have hx:=hR.sv x (by rw [e2];exact hq)
     rw [e2] at hx
     obtain ⟨b,hv,hb⟩:=hx
     have hrun:(execOp a.eval ({ dst:=some d,op:=.call { callee:=.value f,args:=⟨[x]⟩,argTypes:=ts },type:=type,pos:=pos,after:=after,guard:=guard }:Oper)).run P w=.ok (.enter g #[a.eval x]) w:=by
      simp only [execOp,resolve,hfv,Deferred.ofValue,Sem.run_bind,Sem.run_pure,Result.andThen_ok,invoke,callFunc,run_program,hfn,hname,hbody,Bool.false_eq_true,if_false]
      simp
     unfold Oper.wp
     rw [hrun]
     simp only [Oper.upon]
     refine (hm w (a.eval x) (by rw [hv];rfl) (hR.lt.amb' hR.below)).mono ?_
     rintro e w' ⟨b',t,rfl,h1,h2,h3⟩
     refine hK _ _ (hR.put hd (grownBy_of_below h3) hrf ?_ (fun c hc=>by cases hc) (fun c hc=>by cases hc))
     refine ⟨_,rfl,rfl,fun j c hj=>?_⟩
     cases j with
     | succ j=>simp at hj
     | zero =>
      simp at hj
      subst hj
      refine ⟨_,rfl,?_⟩
      rw [capRep_inr,if_neg (by simp),Nat.add_sub_cancel]
      refine ⟨b',b,rfl,⟨.inr (.inl (Nat.le_trans hR.below.size h1)),(Array.getElem?_eq_some_iff.1 h2).1,fun k hk=>?_⟩,?_,hb⟩
      ·have:=((hR.rep k).blk_lt hk).2;omega
      ·rw [cell_of_row _ b' 0 _ t (0,0) h2,hv];rfl
    ·exact h.elim
   ·exact h.elim
  ·exact h.elim
 ·exact h.elim
theorem calm_ok (hR:Rel S0 w0 n s a w) (o:Oper) (hom:∀d,o.dst=some d→S0.m≤d) {s':St} (h:calmStep P n ops o s s') {K':Act→World→Prop} {Q:Exit→Act→World→Prop}
  (hK:∀a' w',Rel S0 w0 n s' a' w'→K' a' w'):if Region.wanted o (yielded ops a.tmps) then o.wp P a w K' Q∨(o.asks P a w∧LetsOut Q) else K' (a.put o.dst undef) w:=by
 obtain ⟨d,r,hdst,hd,_,rfl,hv⟩:=h
 cases hg:o.guard with
 | none =>
  rw [hg] at hv
  rw [if_pos (by simp [Region.wanted,hg])]
  exact .inl (acalm_ok (P:=P) hR o hdst ⟨hom d hdst,hd⟩ hv hK)
 | some g =>
  rw [hg] at hv
  obtain ⟨e,he,hv⟩:=hv
  have hw:Region.wanted o (yielded ops a.tmps)=e:=by
   simp only [Region.wanted,hg]
   exact gval_ok hR he
  have:=acalmG_ok (P:=P) (Q:=Q) hR o hdst ⟨hom d hdst,hd⟩ hv hK
  rw [hw]
  cases e with
  | true=>exact .inl this
  | false=>exact this
theorem stepW_ok {i:Nat} {s':St} (hdm:∀o∈ops.toList,∀d,o.dst=some d→S0.m≤d) (hR:Rel S0 w0 n s a w) (h:stepW P n fl ops i s s') {K':Act→World→Prop} {Q:Exit→Act→World→Prop}
  (hK:∀a' w',Rel S0 w0 n s' a' w'→K' a' w'):wpOp P ops Q i K' a w:=by
 obtain ⟨o,ho,h⟩:=h
 have hom:=hdm o (by have:=Array.mem_of_getElem? ho;simpa using this)
 unfold wpOp
 rw [ho]
 simp only
 have ha:aop P n ops o s (fun t=>t=s')→if Region.wanted o (yielded ops a.tmps) then o.wp P a w K' Q∨(o.asks P a w∧LetsOut Q) else K' (a.put o.dst undef) w:=by
  intro h
  unfold aop at h
  cases hg:o.guard with
  | none =>
   rw [hg] at h
   rw [if_pos (by simp [Region.wanted,hg])]
   exact .inl (astep_ok (P:=P) hR o hom h (fun s1 a' w' hR' hs=>by subst hs;exact hK a' w' hR'))
  | some g =>
   rw [hg] at h
   simp only at h
   cases he:gval ops s g with
   | none=>rw [he] at h;exact h.elim
   | some e =>
    rw [he] at h
    simp only at h
    have hw:Region.wanted o (yielded ops a.tmps)=e:=by
     simp only [Region.wanted,hg]
     exact gval_ok hR he
    have:=gstep_ok (P:=P) (Q:=Q) hR o hom h (fun s1 a' w' hR' hs=>by subst hs;exact hK a' w' hR')
    rw [hw]
    cases e with
    | true=>exact .inl this
    | false=>exact this
 unfold kindW at h
 split at h
 ·exact ha h
 ·exact calm_ok hR o hom h hK
 ·exact ha (app_aop h)
 ·exact ha (lStep_aop h)
 ·exact calm_ok hR o hom h.1 hK
 ·exact calm_ok hR o hom h.1 hK
 ·exact calm_ok hR o hom h.1 hK
 ·exact ha (app_aop h)
 ·obtain ⟨d,r,hdst,hd,hno,rfl,hv⟩:=h
  cases hg:o.guard with
  | none =>
   rw [hg] at hv
   rw [if_pos (by simp [Region.wanted,hg])]
   exact .inl (makesA_ok (P:=P) hR o hdst ⟨hom d hdst,hd⟩ hv hK)
  | some g =>
   rw [hg] at hv
   obtain ⟨e,he,hv⟩:=hv
   have hw:Region.wanted o (yielded ops a.tmps)=e:=by
    simp only [Region.wanted,hg]
    exact gval_ok hR he
   rw [hw]
   cases e with
   | false =>
    have hv':r=.cond false (.x (.one (.bool false))):=hv
    subst hv'
    simp only [Bool.false_eq_true,if_false]
    rw [hdst]
    exact hK _ _ (skip_step (r:=.x (.one (.bool false))) hR ⟨hom d hdst,hd⟩ rfl (fun j hj=>by cases hj))
   | true =>
    obtain ⟨r0,hv,rfl⟩:=hv
    refine .inl (makesA_ok (P:=P) hR o hdst ⟨hom d hdst,hd⟩ hv (fun a' w' hR'=>?_))
    obtain ⟨hrf,hr0⟩:=makesA_refs hR.wf hv
    have hno':∀j,r0.refs j=true→j≠d:=by
     rintro j hj rfl
     have:=hrf j hj
     rw [hno] at this;cases this
    have hrd:r0.refs d=false:=by
     cases h:r0.refs d with
     | false=>rfl
     | true=>exact absurd rfl (hno' d h)
    have e1:Ab.put s d (.cond true r0)=fun k=>if k=d then .cond true (Ab.put s d r0 d) else Ab.put s d r0 k:=by
     funext k
     by_cases hk:k=d
     ·subst hk
      rw [if_pos rfl,put_same hrd,put_same (show (AV.cond true r0).refs k=false from hrd)]
     ·rw [if_neg hk]
      unfold Ab.put
      cases (s d).isOwner<;>simp [hk]
    refine hK _ _ ?_
    rw [e1]
    exact (hR'.condIn hd (by rw [put_same hrd];exact hr0) (fun i=>rfl))
theorem anyW_ok (hdm:∀o∈ops.toList,∀d,o.dst=some d→S0.m≤d) {fin:St→Prop} {Q:Exit→Act→World→Prop} (hQ:∀s' a' w',Rel S0 w0 n s' a' w'→fin s'→Q .normal a' w') :
  ∀(fuel:Nat) (listed:Array Bool) (s:St) (a:Act) (w:World),Rel S0 w0 n s a w→anyA ops (stepW P n fl ops) fin fuel listed s→wpAny P .any ops Q fuel listed a w
 | 0,_,s,a,w,hR,h=>⟨h.1,hQ s a w hR h.2⟩
 | fuel+1,listed,s,a,w,hR,h=>⟨fun h0=>hQ s a w hR (h.1 h0),fun i hi=>by
   obtain ⟨s',h1,h2⟩:=h.2 i hi
   exact stepW_ok hdm hR h1 (fun a' w' hR'=>anyW_ok hdm hQ fuel _ s' a' w' hR' h2)⟩
theorem region_drawW_ok {id:Nat} {Q:Exit→Act→World→Prop} {K:St→Prop} (hm:P.follows .mixedOrders=true) (hok:drawOkW fl ops=true) (hdm:∀o∈ops.toList,∀d,o.dst=some d→S0.m≤d)
  (hR:Rel S0 w0 n s a w) (h:aopsW P n fl ops fl ops.toList s K) (hQ:∀s' a' w',Rel S0 w0 n s' a' w'→K s'→Q .normal a' w'):(Code.region id ops true).wp P Q a w:=
 wp_region_any hm (anyW_ok hdm hQ _ _ s a _ hR.drawn (anyA_of_aopsW hok hR.wf h))
end
end Go.Ab
namespace Go.Ab
open Go Go.RowKit
variable [Amb]
section
variable {P:Program} {S0:Env} {w0 w:World} {n:Nat} {s:St} {a:Act} {ops:Array Oper} {fl:List Nat}
theorem aops_app {l2:List Oper} {Q':Exit→Act→World→Prop} {K:St→Prop}:∀(l:List Oper) (s:St) (a:Act) (w:World),(∀o∈l,∀d,o.dst=some d→S0.m≤d)→Rel S0 w0 n s a w→aops P n ops l s K →
  (∀s' a' w',Rel S0 w0 n s' a' w'→K s'→wpList P ops Q' l2 a' w')→wpList P ops Q' (l++l2) a w:=by
 intro l
 induction l with
 | nil=>intro s a w _ hR h hQ;exact hQ s a w hR h
 | cons o l ih =>
  intro s a w hl hR h hQ
  have hl':∀o∈l,∀d,o.dst=some d→S0.m≤d:=fun o ho=>hl o (List.mem_cons_of_mem _ ho)
  have ho:=hl o List.mem_cons_self
  simp only [aops,aop] at h
  rw [List.cons_append]
  unfold wpList
  cases hg:o.guard with
  | none =>
   rw [hg] at h
   have hw:Region.wanted o (yielded ops a.tmps)=true:=by simp [Region.wanted,hg]
   rw [if_pos hw]
   exact .inl (astep_ok (P:=P) hR o ho h (fun s' a' w' hR' hk=>ih s' a' w' hl' hR' hk hQ))
  | some g =>
   rw [hg] at h
   simp only at h
   cases hv:gval ops s g with
   | none=>rw [hv] at h;exact h.elim
   | some e =>
    rw [hv] at h
    have hw:Region.wanted o (yielded ops a.tmps)=e:=by
     simp only [Region.wanted,hg]
     exact gval_ok hR hv
    have:=gstep_ok (P:=P) (Q:=Q') hR o ho h (fun s' a' w' hR' hk=>ih s' a' w' hl' hR' hk hQ)
    rw [hw]
    cases e with
    | true=>exact .inl this
    | false=>exact this
def nameO (P:Program) (n:Nat) (ops:Array Oper) (o:Oper) (s:St) (K:St→Prop):Prop:=
 o.guard=none∧∃j g e z xs,s j=.own e z xs∧n≤g∧(s g).free=true∧∀v,aop P n ops o (nameSt s j g v e z xs) K
def lastOk (P:Program) (n:Nat) (ops:Array Oper) (o:Oper) (s:St) (K:St→Prop):Prop:=match o.op with
 | .call _=>growO P n o s K
 | _=>nameO P n ops o s K
theorem lastOk_guard {o:Oper} {K:St→Prop} (h:lastOk P n ops o s K):o.guard=none:=by
 unfold lastOk at h
 split at h
 ·exact h.1
 ·exact h.1
theorem lastOk_ok (hR:Rel S0 w0 n s a w) (o:Oper) (hdm:∀d,o.dst=some d→S0.m≤d) {K:St→Prop} (h:lastOk P n ops o s K) {K':Act→World→Prop} {Q:Exit→Act→World→Prop}
  (hK:∀s' a' w',Rel S0 w0 n s' a' w'→K s'→K' a' w'):o.wp P a w K' Q:=by
 unfold lastOk at h
 split at h
 ·exact growO_ok hR o hdm h hK
 ·obtain ⟨hg,j,g,e,z,xs,hj,hn,hf,h⟩:=h
  have h:=h (tmOf a j)
  unfold aop at h
  rw [hg] at h
  exact astep_ok (P:=P) (hR.name hj hn hf) o hdm h hK
def lastO:List Oper→Option Oper
 | []=>none
 | [o]=>some o
 | _::r=>lastO r
def growL (P:Program) (n:Nat) (ops:Array Oper) (s:St) (K:St→Prop):Option Oper→Prop
 | some o=>lastOk P n ops o s K
 | none=>False
theorem lastO_spec:∀{l:List Oper} {o:Oper},lastO l=some o→l=l.dropLast++[o]
 | [],o,h=>by cases h
 | [x],o,h=>by simp only [lastO,Option.some.injEq] at h;subst h;rfl
 | x::y::r,o,h=>by
  have:=lastO_spec (l:=y::r) (o:=o) h
  rw [List.dropLast_cons_cons,List.cons_append,←this]
theorem growSeq_ok {Q':Exit→Act→World→Prop} {K:St→Prop} (hdm:∀o∈ops.toList,∀d,o.dst=some d→S0.m≤d) (hR:Rel S0 w0 n s a w)
  (h:aops P n ops ops.toList.dropLast s (fun s1=>growL P n ops s1 K (lastO ops.toList))) (hQ:∀s' a' w',Rel S0 w0 n s' a' w'→K s'→Q' .normal a' w'):wpList P ops Q' ops.toList a w:=by
 cases hl:lastO ops.toList with
 | none =>
  rw [hl] at h
  have hnil:ops.toList=[]:=by
   cases ht:ops.toList with
   | nil=>rfl
   | cons x r =>
    exfalso
    rw [ht] at hl
    clear h ht
    induction r generalizing x with
    | nil=>cases hl
    | cons y r ih=>exact ih y hl
  rw [hnil] at h
  exact h.elim
 | some o =>
  have hsp:=lastO_spec hl
  rw [hl] at h
  rw [hsp]
  refine aops_app _ s a w (fun o ho d hd=>hdm o (by rw [hsp];exact List.mem_append_left _ ho) d hd) hR h (fun s1 a1 w1 hR1 hg=>?_)
  unfold wpList
  have hw:Region.wanted o (yielded ops a1.tmps)=true:=by simp [Region.wanted,lastOk_guard hg]
  rw [if_pos hw]
  refine .inl (lastOk_ok hR1 o (hdm o (by rw [hsp];simp)) hg (fun s' a' w' hR' hk=>?_))
  exact hQ s' a' w' hR' hk
def stepG (P:Program) (n:Nat) (fl:List Nat) (ops:Array Oper) (K:St→Prop) (i:Nat) (x y:Bool×St):Prop:=
 x.1=false∧((i+1=ops.size∧y.1=true∧y.2=x.2∧∃o,ops[i]?=some o∧lastOk P n ops o x.2 K)∨(i+1<ops.size∧y.1=false∧stepW P n fl ops i x.2 y.2))
theorem chain_lift {K:St→Prop}:∀(l:List Nat) (s s':St),(∀i∈l,i+1<ops.size)→chain (stepW P n fl ops) l s s'→∀(r:List Nat) (y:Bool×St),chain (stepG P n fl ops K) r (false,s') y→chain (stepG P n fl ops K) (l++r) (false,s) y
 | [],s,s',_,h,r,y,hr=>by
  have:s=s':=h
  subst this;exact hr
 | i::l,s,s',hi,⟨s1,h1,h2⟩,r,y,hr=>⟨(false,s1),⟨rfl,.inr ⟨hi i (by simp),rfl,h1⟩⟩,chain_lift l s1 s' (fun j hj=>hi j (by simp [hj])) h2 r y hr⟩
theorem anyA_grow {K:St→Prop} (hok:drawOkW fl ops=true) (hlast:fl.getD (ops.size-1) 0=0) (hw:Wf s) (h:aopsW P n fl ops fl ops.toList.dropLast s (fun s1=>growL P n ops s1 K (lastO ops.toList))) :
  anyA ops (stepG P n fl ops K) (fun x=>x.1=true) ops.size (Array.replicate ops.size false) (false,s):=by
 obtain ⟨s',hch,hk⟩:=chain_of_aopsW (fl:=fl) ops.toList.dropLast fl 0 s hw (fun j o ho=>by
  rw [List.getElem?_dropLast] at ho
  split at ho
  ·simpa using ho
  ·cases ho) (fun j=>by simp) h
 cases hl:lastO ops.toList with
 | none=>rw [hl] at hk;exact hk.elim
 | some o =>
 rw [hl] at hk
 have hsp:=lastO_spec hl
 have hsize:ops.size=ops.toList.dropLast.length+1:=by
  have:=congrArg List.length hsp
  simpa using this
 have holast:ops[ops.size-1]?=some o:=by
  have:ops.toList[ops.size-1]?=some o:=by
   rw [hsp,List.getElem?_append_right (by omega),show ops.size-1-ops.toList.dropLast.length=0 by omega]
   rfl
  simpa using this
 have hlow:∀{i:Nat} {o:Oper},ops[i]?=some o→∀d,o.dst=some d→d<MARK:=by
  intro i o ho
  have h:=hok
  simp only [drawOkW,Bool.and_eq_true] at h
  exact lowDst_spec (List.all_eq_true.1 h.1 o (by have:=Array.mem_of_getElem? ho;simpa using this))
 have hok':=hok
 simp only [drawOkW,Bool.and_eq_true] at hok'
 replace hok':=hok'.2
 have hdr:∀i,i<ops.size→((match ops[i]? with
   | some o=>o.after.toList.all fun e=>!Region.binds .any e || decide (e.on<i)
   | none=>false)=true∧∀j,j<i→pairOkW fl ops (Region.before ops) i j=true):=by
  intro i hi
  have:=List.all_eq_true.1 hok' i (by simp [hi])
  simp only [Bool.and_eq_true,List.all_eq_true,List.mem_range] at this
  exact ⟨this.1,fun j hj=>this.2 j hj⟩
 have hchain:chain (stepG P n fl ops K) (List.range' 0 ops.toList.length) (false,s) (true,s'):=by
  have e:List.range' 0 ops.toList.length=List.range' 0 ops.toList.dropLast.length++[ops.size-1]:=by
   rw [Array.length_toList,hsize,Nat.add_sub_cancel,List.range'_1_concat]
   simp
  rw [e]
  refine chain_lift _ s s' (fun i hi=>?_) hch _ _ ⟨(true,s'),⟨rfl,.inl ⟨by omega,rfl,rfl,o,holast,hk⟩⟩,rfl⟩
  rw [List.mem_range'_1] at hi
  omega
 refine chain_any (wf:=fun x:Bool×St=>Wf x.2) (indep:=fun j i=>∃oi oj,ops[i]?=some oi∧ops[j]?=some oj∧mixW (fl.getD i 0) (fl.getD j 0)=true∧oj.apart ops oi=true) ?_ ?_ ?_ ?_ (fin:=fun x=>x.1=true) (s':=(true,s')) rfl ops.size (List.range' 0 ops.toList.length) _ (false,s) (by simp) (by simp) ?_ ?_ ?_ hw hchain
 ·rintro i ⟨b,s⟩ ⟨b',s'⟩ hw ⟨_,(⟨_,_,h,_⟩ | ⟨_,_,h⟩)⟩
  ·dsimp only at h hw ⊢;rw [h];exact hw
  ·obtain ⟨o,_,h⟩:=h;exact kindW_wf hw h
 ·rintro j i ⟨b,s⟩ ⟨b1,s1⟩ ⟨b2,s2⟩ ⟨oi,oj,hoi,hoj,fm,hap⟩ hw ⟨e1,h1⟩ ⟨e2,h2⟩
  have hm0:∀k,mixW k 0=false∧mixW 0 k=false:=by
   intro k
   match k with
   | 0=>exact ⟨rfl,rfl⟩
   | 1=>exact ⟨rfl,rfl⟩
   | 2=>exact ⟨rfl,rfl⟩
   | 3=>exact ⟨rfl,rfl⟩
   | 4=>exact ⟨rfl,rfl⟩
   | 5=>exact ⟨rfl,rfl⟩
   | 6=>exact ⟨rfl,rfl⟩
   | 7=>exact ⟨rfl,rfl⟩
   | 8=>exact ⟨rfl,rfl⟩
   | 9=>exact ⟨rfl,rfl⟩
   | k+10=>exact ⟨by simp [mixW,calmW],by simp [mixW,calmW]⟩
  rcases h1 with ⟨hj,_⟩ | ⟨hj,f1,o1,ho1,h1⟩
  ·rw [show j=ops.size-1 by omega,hlast,(hm0 _).1] at fm;cases fm
  rcases h2 with ⟨hi,_⟩ | ⟨hi,f2,o2,ho2,h2⟩
  ·rw [show i=ops.size-1 by omega,hlast,(hm0 _).2] at fm;cases fm
  rw [hoj] at ho1;injection ho1 with ho1;subst ho1
  rw [hoi] at ho2;injection ho2 with ho2;subst ho2
  obtain ⟨s1',k1,k2⟩:=kindW_comm hoi hoj fm (hlow hoi) (hlow hoj) hap hw h1 h2
  exact ⟨(false,s1'),⟨e1,.inr ⟨hi,rfl,oi,hoi,k1⟩⟩,⟨rfl,.inr ⟨hj,f2,oj,hoj,k2⟩⟩⟩
 ·intro i o ho e he hb
  have:=(hdr i (Array.getElem?_eq_some_iff.1 ho).1).1
  rw [ho] at this
  have:=List.all_eq_true.1 this e (by simpa using he)
  simpa [hb] using this
 ·intro j i hji hi
  have:=(hdr i hi).2 j hji
  unfold pairOkW at this
  rw [Bool.or_eq_true] at this
  rcases this with h | h
  ·exact .inl (before_waits ops i j h)
  ·rw [Bool.and_eq_true] at h
   obtain ⟨f1,h⟩:=h
   split at h
   ·rename_i oi oj hoi hoj
    exact .inr ⟨oi,oj,hoi,hoj,f1,h⟩
   ·cases h
 ·intro i o ho hl
  have hlt:=(Array.getElem?_eq_some_iff.1 ho).1
  simp [hlt] at hl
 ·exact List.pairwise_lt_range'
 ·intro i
  simp only [List.mem_range'_1,Array.length_toList,Nat.zero_add,Nat.zero_le,true_and]
  constructor
  ·intro hi;exact ⟨hi,by simp [hi]⟩
  ·intro hi;exact hi.1
theorem anyG_ok (hdm:∀o∈ops.toList,∀d,o.dst=some d→S0.m≤d) {K:St→Prop} {Q:Exit→Act→World→Prop} (hQ:∀s' a' w',Rel S0 w0 n s' a' w'→K s'→Q .normal a' w') :
  ∀(fuel:Nat) (listed:Array Bool) (s:St) (a:Act) (w:World),Rel S0 w0 n s a w→anyA ops (stepG P n fl ops K) (fun x=>x.1=true) fuel listed (false,s)→wpAny P .any ops Q fuel listed a w
 | 0,_,s,a,w,_,h=>by cases h.2
 | fuel+1,listed,s,a,w,hR,h=>⟨fun h0=>(by cases h.1 h0),fun i hi=>by
   obtain ⟨⟨b',s'⟩,⟨_,(⟨_,hb,hs,o,ho,hg⟩ | ⟨_,hb,h1⟩)⟩,h2⟩:=h.2 i hi
   ·dsimp only at hb hs hg
    subst hb;subst hs
    unfold wpOp
    rw [ho]
    simp only
    rw [if_pos (by simp [Region.wanted,lastOk_guard hg])]
    refine .inl (lastOk_ok hR o (hdm o (by have:=Array.mem_of_getElem? ho;simpa using this)) hg (fun s1 a1 w1 hR1 hk=>?_))
    have hq:=hQ s1 a1 w1 hR1 hk
    have hr:Region.ready .any ops (listed.setIfInBounds i true)=[]:=by
     cases fuel with
     | zero=>exact h2.1
     | succ fuel =>
      cases hr:Region.ready .any ops (listed.setIfInBounds i true) with
      | nil=>rfl
      | cons j r =>
       obtain ⟨_,⟨e,_⟩,_⟩:=h2.2 j (by rw [hr];simp)
       cases e
    cases fuel with
    | zero=>exact ⟨hr,hq⟩
    | succ fuel=>exact ⟨fun _=>hq,fun j hj=>by rw [hr] at hj;cases hj⟩
   ·dsimp only at hb h1
    subst hb
    exact stepW_ok hdm hR h1 (fun a' w' hR'=>anyG_ok hdm hQ fuel _ s' a' w' hR' h2)⟩
theorem region_grow_ok {id:Nat} {Q:Exit→Act→World→Prop} {K:St→Prop} (hm:P.follows .mixedOrders=true) (hok:drawOkW fl ops=true) (hlast:fl.getD (ops.size-1) 0=0) (hdm:∀o∈ops.toList,∀d,o.dst=some d→S0.m≤d)
  (hR:Rel S0 w0 n s a w) (h:aopsW P n fl ops fl ops.toList.dropLast s (fun s1=>growL P n ops s1 K (lastO ops.toList))) (hQ:∀s' a' w',Rel S0 w0 n s' a' w'→K s'→Q .normal a' w'):(Code.region id ops true).wp P Q a w:=
 wp_region_any hm (anyG_ok hdm hQ _ _ s a _ hR.drawn (anyA_grow hok hlast hR.wf h))
end
end Go.Ab
namespace Go.Ab
open Go Go.RowKit
variable [Amb]
def thenA (next:St→Prop) (Q:Exit→St→Prop):Exit→St→Prop
 | .normal,s=>next s
 | e,s=>Q e s
def inBlockA (id:Nat) (Q:Exit→St→Prop):Exit→St→Prop
 | .exit id',s=>if id'=id then Q .normal s else Q (.exit id') s
 | e,s=>Q e s
def foldD (s:St) (i off d:Nat) (b o:AV):St:=
 match o,b with
 | .own _ z xs,.box cs=>fun j=>if j=i then .box (cs.set off (.list z xs)) else unlink (freeze s d) i off 1 j
 | _,_=>s
def foldA (s:St) (i off:Nat) (l:AV):St:=
 match l with
 | .link i' o d=>match i'==i&&o==off with
  | true=>foldD s i off d (s i) (s d)
  | false=>s
 | _=>s
def foldS (s:St) (i off:Nat):St:=foldA s i off (s (LK i off))
def foldL (s:St):List (Nat×Nat)→St
 | []=>s
 | (i,off)::r=>foldL (foldS s i off) r
def Weak0 (s s':St):Prop:=
 (∀i,s' i=s i∨s' i=.dead∨(s i=.x (.one .nil)∧∃e size,s' i=.own e size []))∧∀i j,(s' i).refs j=true→s' j=s j
def Thaw (s t:St):Prop:=t=s∨∃i c bs es es',s i=.mp c bs es∧thawE s es es'∧t=thawG s i c bs es'
def Weak (s s':St):Prop:=∃t,Thaw s t∧∃l,Weak0 (foldL t l) s'
def acond (c:Prop×AV) (A B:Prop):Prop:=
 match c with
 | (p,.x (.one (.bool b)))=>p∧(b=true→A)∧(b=false→B)
 | _=>False
def ALoop (body:(Exit→St→Prop)→St→Prop) (Q:Exit→St→Prop) (s:St):Prop:=
 ∃(ι:Type) (I:ι→St) (ok:ι→Prop) (μ:ι→Nat),(∃x,ok x∧Weak s (I x))∧∀x,ok x→body (thenA (fun s'=>∃y,ok y∧μ y<μ x∧Weak s' (I y)) Q) (I x)
class Hint where
 hint:Nat→List Bool
 wild:Nat→List Nat
 grow:Nat→Bool
 conv:Nat→Bool
instance (priority:=low) noHint:Hint:=⟨fun _=>[],fun _=>[],fun _=>false,fun _=>false⟩
def findH {α:Type}:List (Nat×List α)→Nat→List α
 | [],_=>[]
 | (k,fl)::r,i=>if k=i then fl else findH r i
@[reducible] def hints (l:List (Nat×List Bool)):Hint:=⟨findH l,fun _=>[],fun _=>false,fun _=>false⟩
@[reducible] def wilds (l:List (Nat×List Nat)):Hint:=⟨fun _=>[],findH l,fun _=>false,fun _=>false⟩
@[reducible] def grows (g:List Nat) (l:List (Nat×List Nat)):Hint:=⟨fun _=>[],findH l,fun i=>g.contains i,fun _=>false⟩
@[reducible] def convs (c g:List Nat) (l:List (Nat×List Nat)):Hint:=⟨fun _=>[],findH l,fun i=>g.contains i,fun i=>c.contains i⟩
def AConv (n:Nat) (s:St) (X:St→Prop):Prop:=∀(S0:Env) (w0:World) (a:Act) (w:World),Rel S0 w0 n s a w→∃s',Rel S0 w0 n s' a w∧X s'
def aregion [Hint] (P:Program) (n:Nat) (id:Nat) (ops:Array Oper) (draw:Bool) (Q:Exit→St→Prop) (s:St):Prop:=
 match Hint.grow id with
  | true=>match draw with
   | false=>aops P n ops ops.toList.dropLast s (fun s1=>growL P n ops s1 (Q .normal) (lastO ops.toList))
   | true=>aopsW P n (Hint.wild id) ops (Hint.wild id) ops.toList.dropLast s (fun s1=>growL P n ops s1 (Q .normal) (lastO ops.toList))
  | false=>match draw with
   | false=>aops P n ops ops.toList s (Q .normal)
   | true=>match Hint.wild id with
    | k::fl=>aopsW P n (k::fl) ops (k::fl) ops.toList s (Q .normal)
    | []=>match Hint.hint id with
     | b::fl=>aopsA P n (b::fl) ops (b::fl) ops.toList s (Q .normal)
     | []=>match wildB ops with
      | true=>(drawOk false ops=true∧aopsD P n false ops ops.toList s (Q .normal))∨(∃l:List Nat,drawOk true ops=true∧aopsD P n true ops ops.toList (freezeL s l) (Q .normal))
      | false=>aopsD P n false ops ops.toList s (Q .normal)
def awp [Hint] (P:Program) (n:Nat):Code→(Exit→St→Prop)→St→Prop
 | .skip,Q,s=>Q .normal s
 | .label _,Q,s=>Q .normal s
 | .region id ops draw,Q,s=>match Hint.conv id with
  | true=>AConv n s (aregion P n id ops draw Q)
  | false=>aregion P n id ops draw Q s
 | .seq a b,Q,s=>awp P n a (thenA (awp P n b Q) Q) s
 | .cond c a b,Q,s=>acond (sv s c) (awp P n a Q s) (awp P n b Q s)
 | .block id c,Q,s=>awp P n c (inBlockA id Q) s
 | .loop c,Q,s=>ALoop (awp P n c) Q s
 | .exit id,Q,s=>Q (.exit id) s
 | .ret,Q,s=>Q .ret s
 | _,_,_=>False
def codeOk [Hint]:Code→Bool
 | .region id ops draw=>match Hint.grow id with
  | true=>!draw || (drawOkW (Hint.wild id) ops&&(Hint.wild id).getD (ops.size-1) 0==0)
  | false=>match draw with
   | true=>match Hint.wild id with
    | k::fl=>drawOkW (k::fl) ops
    | []=>match Hint.hint id with
     | []=>drawOk false ops || wildB ops
     | b::fl=>drawOkA (b::fl) ops
   | false=>true
 | .seq a b=>codeOk a&&codeOk b
 | .cond _ a b=>codeOk a&&codeOk b
 | .block _ c=>codeOk c
 | .loop c=>codeOk c
 | _=>true
def dstOk (m:Nat) (o:Oper):Bool:=match o.dst with
 | some d=>decide (m≤d)
 | none=>true
def codeDst (m:Nat):Code→Bool
 | .region _ ops _=>ops.toList.all (dstOk m)
 | .seq a b=>codeDst m a&&codeDst m b
 | .cond _ a b=>codeDst m a&&codeDst m b
 | .block _ c=>codeDst m c
 | .loop c=>codeDst m c
 | _=>true
theorem dstOk_all {m:Nat} {l:List Oper} (h:l.all (dstOk m)=true):∀o∈l,∀d,o.dst=some d→m≤d:=by
 intro o ho d hd
 have:=List.all_eq_true.1 h o ho
 unfold dstOk at this
 rw [hd] at this
 exact of_decide_eq_true this
theorem codeDst_zero:∀c:Code,codeDst 0 c=true:=by
 intro c
 induction c with
 | region id ops draw =>
  refine List.all_eq_true.2 (fun o _=>?_)
  unfold dstOk
  cases o.dst<;>simp
 | seq a b iha ihb=>simp [codeDst,iha,ihb]
 | cond c a b iha ihb=>simp [codeDst,iha,ihb]
 | block id c ih=>simpa [codeDst] using ih
 | loop c ih=>simpa [codeDst] using ih
 | _=>rfl
section
variable {P:Program} {S0:Env} {w0 w:World} {n:Nat} {s:St} {a:Act}
theorem Rel.foldS (hR:Rel S0 w0 n s a w) (i off:Nat):Rel S0 w0 n (foldS s i off) a w:=by
 unfold Ab.foldS foldA
 split
 ·rename_i i' o d hlk
  split
  ·rename_i hio
   simp only [Bool.and_eq_true,beq_iff_eq] at hio
   obtain ⟨rfl,rfl⟩:=hio
   unfold foldD
   split
   ·rename_i e z xs cs hd hi
    have hid:i'≠d:=by rintro rfl;rw [hi] at hd;cases hd
    have hl:=hR.rep (LK i' o)
    rw [hlk] at hl
    obtain ⟨_,cs2,b2,k1,k2,k3,k4⟩:=hl
    rw [hi] at k1
    injection k1 with k1
    subst k1
    have hlt:o<cs.length:=(List.getElem?_eq_some_iff.1 k2).1
    have h1:=hR.freeze (i:=d) (.inl ⟨e,z,xs,hd⟩)
    have e1:Ab.freeze s d i'=.box cs:=by
     unfold Ab.freeze
     have:(AV.box cs).refs d=false:=rfl
     simp [hid,hi,this]
    have e2:Ab.freeze s d d=.x (.one (.list z xs)):=by simp [Ab.freeze,hd,frozenAV]
    have h2:Rel S0 w0 n (unlink (Ab.freeze s d) i' o 1) a w:=by
     refine h1.forget (fun j=>unlink_or _ i' o 1 j) (fun j k hjk=>?_)
     rcases unlink_or (Ab.freeze s d) i' o 1 j with e | e<;>rw [e] at hjk
     ·exact unlink_owner (h1.wf j k hjk)
     ·cases hjk
    have e3:unlink (Ab.freeze s d) i' o 1 i'=.box cs:=by rw [unlink_owner (by rw [e1];rfl),e1]
    have e4:unlink (Ab.freeze s d) i' o 1 d=.x (.one (.list z xs)):=by
     unfold unlink
     rw [e2]
     rfl
    have hb:=h2.rep i'
    rw [e3] at hb
    obtain ⟨b,arr,t,hv,hh,hrl,hB⟩:=hb
    have hbb:b2=b:=by
     rw [hi,hv] at k3
     have:some b=some b2:=k3
     injection this with this;exact this.symm
    subst hbb
    rw [cell_of_row w b2 o arr t (0,0) hh,hd] at k4
    have k4:_=some (tmOf a d):=k4
    have hlist:=h2.rep d
    rw [e4] at hlist
    refine h2.write (r:=.box (cs.set o (.list z xs))) (b:=b2) (by rw [e3,hv];rfl) (World.grownBy.refl w _) rfl (by rw [hv];rfl) rfl (by rw [e3];rfl) (by rw [e3];rfl) (by rw [e3];rfl) (fun s'=>?_) (fun j o' d' cs2 hl hs2=>?_)
    ·refine ⟨b2,arr,t,hv,hh,⟨by simpa using hrl.1,fun j c hj=>?_⟩,hB⟩
     rw [List.getElem?_set] at hj
     split at hj
     ·rename_i he
      subst he
      simp only [Option.some.injEq] at hj
      subst hj
      exact ⟨_,by simpa using k4,hlist⟩
     ·exact hrl.2 j c hj
    ·rw [e3] at hs2
     obtain rfl:=(by simpa [AV.boxC] using hs2:_=cs2)
     refine ⟨⟨_,rfl,?_⟩,rfl⟩
     rw [List.getElem?_set]
     split
     ·rename_i he
      exfalso
      subst he
      have:unlink (Ab.freeze s d) i' o 1 j=.dead:=by
       unfold unlink
       have:(Ab.freeze s d j).linkIn i' o 1=true:=by
        rcases unlink_or (Ab.freeze s d) i' o 1 j with e | e
        ·rw [e] at hl;exact AV.linkIn_has hl (by omega) (by omega)
        ·rw [e] at hl;exact hl.elim
       rw [this]
      rw [this] at hl;exact hl.elim
     ·rfl
   ·exact hR
  ·exact hR
 ·exact hR
theorem Rel.foldL:∀(l:List (Nat×Nat)) {s:St},Rel S0 w0 n s a w→Rel S0 w0 n (foldL s l) a w
 | [],_,h=>h
 | (i,off)::r,_,h=>Rel.foldL r (h.foldS i off)
theorem Rel.cellAs {i off:Nat} {cs:List CV} {c:CV} {v:Value} {b:Nat} (hR:Rel S0 w0 n s a w) (hi:s i=.box cs) (hb:blkOf (s i) (tmOf a i)=some b) (hv:w.cell? ⟨b,off,none⟩=some v) (hlt:off<cs.length)
  (hc:RepC w (Shared S0 w0.heap.size w s (tmOf a)) c v) (hno:∀j o d,(s j).hasLink i o d→o≠off):Rel S0 w0 n (fun k=>if k=i then .box (cs.set off c) else s k) a w:=by
 have hrep:=hR.rep i
 rw [hi] at hrep hb
 obtain ⟨b',arr,t,hvv,hh,hrl,hB⟩:=hrep
 have hbb:b'=b:=by rw [hvv] at hb;simpa [blkOf] using hb
 subst hbb
 rw [cell_of_row w b' off arr t (0,0) hh] at hv
 refine hR.write (r:=.box (cs.set off c)) (b:=b') (by rw [hi,hvv];rfl) (World.grownBy.refl w _) rfl (by rw [hvv];rfl) rfl (by rw [hi];rfl) (by rw [hi];rfl) (by rw [hi];rfl) (fun s'=>?_) (fun j o' d' cs2 hl hs2=>?_)
 ·refine ⟨b',arr,t,hvv,hh,⟨by simpa using hrl.1,fun j x hj=>?_⟩,hB⟩
  rw [List.getElem?_set] at hj
  split at hj
  ·rename_i he
   subst he
   simp only [Option.some.injEq] at hj
   subst hj
   exact ⟨_,by simpa using hv,hc⟩
  ·exact hrl.2 j x hj
 ·rw [hi] at hs2
  obtain rfl:=(by simpa [AV.boxC] using hs2:_=cs2)
  refine ⟨⟨_,rfl,?_⟩,rfl⟩
  rw [List.getElem?_set,if_neg (fun e=>hno j o' d' hl e.symm)]
theorem Rel.unlinks (hR:Rel S0 w0 n s a w) (i off:Nat):Rel S0 w0 n (unlink s i off 1) a w:=by
 refine hR.forget (fun j=>unlink_or _ i off 1 j) (fun j k hjk=>?_)
 rcases unlink_or s i off 1 j with e | e<;>rw [e] at hjk
 ·exact unlink_owner (hR.wf j k hjk)
 ·cases hjk
theorem unlink_no {i off:Nat} (s:St):∀j o d,(unlink s i off 1 j).hasLink i o d→o≠off:=by
 intro j o d h ho
 subst ho
 unfold unlink at h
 cases hl:(s j).linkIn i o 1 with
 | true=>rw [hl] at h;exact h.elim
 | false =>
  rw [hl] at h
  rw [AV.linkIn_has (off:=o) (m:=1) h (Nat.le_refl _) (by omega)] at hl
  cases hl
def linkNmSt (s:St) (i off j g:Nat) (v:Value) (cs:List CV) (e z:Nat) (xs:List (List CV)):St:=fun k=>if k=i then .box (cs.set off (.atom v)) else unlink (nameSt s j g v e z xs) i off 1 k
theorem Rel.linkNm {i off j g e z:Nat} {cs:List CV} {xs:List (List CV)} (hR:Rel S0 w0 n s a w) (hi:s i=.box cs) (hl:s (LK i off)=.link i off j) (hj:s j=.own e z xs) (hn:n≤g) (hg:(s g).free=true):Rel S0 w0 n (linkNmSt s i off j g (tmOf a j) cs e z xs) a w:=by
 have hlk:=hR.rep (LK i off)
 rw [hl] at hlk
 obtain ⟨_,cs2,b,k1,k2,k3,k4⟩:=hlk
 rw [hi] at k1
 injection k1 with k1
 subst k1
 rw [hj] at k4
 have k4:w.cell? ⟨b,off,none⟩=some (tmOf a j):=k4
 have h1:=(hR.name hj hn hg).unlinks i off
 have hij:i≠j:=by rintro rfl;rw [hi] at hj;cases hj
 have hig:i≠g:=by rintro rfl;rw [hi] at hg;cases hg
 have e0:nameSt s j g (tmOf a j) e z xs i=.box cs:=by
  unfold nameSt
  rw [if_neg hij,if_neg hig,hi];simp [AV.refs]
 have e1:unlink (nameSt s j g (tmOf a j) e z xs) i off 1 i=.box cs:=by rw [unlink_owner (by rw [e0];rfl),e0]
 have hone:(tmOf a j).oneCell'=true:=by
  have:=hR.rep j
  rw [hj] at this
  obtain ⟨us,ho,_⟩:=this
  rcases ho.2 with ⟨h,_⟩ | ⟨_,_,_,h,_⟩<;>rw [h]<;>rfl
 exact h1.cellAs e1 (b:=b) (v:=tmOf a j) (by rw [e1,←hi];exact k3) k4 (List.getElem?_eq_some_iff.1 k2).1 (RepC.atom _ hone) (unlink_no _)
def nmLinkSt (s:St) (i off j g e z:Nat) (cs:List CV) (xs:List (List CV)):St:=fun k=>if k=LK i off then .link i off j else if k=i then .box (cs.set off .any) else unlink (unnameSt s j g e z xs) i off 1 k
theorem Rel.nmLink {i off j g e z:Nat} {v:Value} {cs:List CV} {xs:List (List CV)} (hR:Rel S0 w0 n s a w) (hi:s i=.box cs) (hc:cs[off]?=some (.atom v)) (hj:s j=.x (.one (.atom v))) (hg:s g=.gown v e z xs) (hf:(s (LK i off)).free=true):Rel S0 w0 n (nmLinkSt s i off j g e z cs xs) a w:=by
 have hv:tmOf a j=v:=by
  have h:=hR.rep j
  rw [hj] at h
  have h:RepC w _ (.atom v) (tmOf a j):=h
  generalize tmOf a j=u at h
  cases h;rfl
 have hij:i≠j:=by rintro rfl;rw [hi] at hj;cases hj
 have hig:i≠g:=by rintro rfl;rw [hi] at hg;cases hg
 have hlj:LK i off≠j:=by intro h;rw [h,hj] at hf;cases hf
 have hlg:LK i off≠g:=by intro h;rw [h,hg] at hf;cases hf
 have hli:LK i off≠i:=by intro h;rw [h,hi] at hf;cases hf
 have h1:=(hR.unname hj hg).unlinks i off
 have e0:unnameSt s j g e z xs i=.box cs:=by
  unfold unnameSt
  rw [if_neg hij,if_neg hig,hi];simp [AV.refs]
 have e1:unlink (unnameSt s j g e z xs) i off 1 i=.box cs:=by rw [unlink_owner (by rw [e0];rfl),e0]
 have ej0:unnameSt s j g e z xs j=.own e z xs:=by unfold unnameSt;rw [if_pos rfl]
 have ej:unlink (unnameSt s j g e z xs) i off 1 j=.own e z xs:=by rw [unlink_owner (by rw [ej0];rfl),ej0]
 have hrep:=hR.rep i
 rw [hi] at hrep
 obtain ⟨b,arr,t,hvv,hh,hrl,hB⟩:=hrep
 obtain ⟨u,hu,hru⟩:=hrl.2 off _ hc
 have huv:u=v:=by cases hru;rfl
 subst huv
 have hcell:w.cell? ⟨b,off,none⟩=some u:=by rw [cell_of_row w b off arr t (0,0) hh];simpa using hu
 have hlt:off<cs.length:=(List.getElem?_eq_some_iff.1 hc).1
 have hone:u.oneCell'=true:=RepC.oneCell hru
 have h2:=h1.cellAs e1 (b:=b) (v:=u) (by rw [e1,hvv];rfl) hcell hlt (RepC.any _ hone) (unlink_no _)
 have h3:=h2.addLink (k:=LK i off) (i:=i) (off:=off) (d:=j) (b:=b) (cs:=cs.set off .any) ?_ ?_ ?_ ?_ ?_ ?_
 ·exact h3
 ·rw [if_neg hli]
  rcases unlink_or (unnameSt s j g e z xs) i off 1 (LK i off) with h | h<;>rw [h]
  ·unfold unnameSt
   rw [if_neg hlj,if_neg hlg]
   split
   ·rfl
   ·exact hf
  ·rfl
 ·rw [if_neg (Ne.symm hij),ej];rfl
 ·rw [if_pos rfl];rfl
 ·rw [List.getElem?_set,if_pos rfl,if_pos hlt]
 ·rw [if_pos rfl,hvv];rfl
 ·rw [if_neg (Ne.symm hij),ej,hcell]
  show some u=some (tmOf a j)
  rw [hv]
theorem Rel.weak0 {s':St} (hR:Rel S0 w0 n s a w) (h:Weak0 s s'):Rel S0 w0 n s' a w:=by
 obtain ⟨h1,h2⟩:=h
 have hblk:∀j c,blkOf (s' j) (tmOf a j)=some c→blkOf (s j) (tmOf a j)=some c:=by
  intro j c hc
  rcases h1 j with e | e | ⟨e,e',size,e2⟩
  ·rw [e] at hc;exact hc
  ·rw [e] at hc;cases hc
  ·rw [e2] at hc
   have hn:=hR.rep j
   rw [e] at hn
   have:=rep_nil hn
   rw [this] at hc
   simp [blkOf,Value.ownBlock] at hc
 have hsub:∀c,Shared S0 w0.heap.size w s (tmOf a) c→Shared S0 w0.heap.size w s' (tmOf a) c:=fun c hc=>⟨hc.1,hc.2.1,fun j hj=>hc.2.2 j (hblk j c hj)⟩
 refine ⟨hR.defers,hR.size,hR.below,hR.lt,fun i=>?_,fun i j b hi hj=>hR.inj i j b (hblk i b hi) (hblk j b hj),fun i hi=>?_,fun i j hij=>?_,hR.pin⟩
 ·rcases h1 i with e | e | ⟨e,e',size,e2⟩
  ·rw [e]
   refine (hR.rep i).mono hsub (fun _ _=>rfl) (fun _ _=>rfl) (fun k hk=>?_) (fun i' off d' cs b hl hs' _=>⟨⟨cs,by rw [h2 i i' (by rw [e];exact (AV.hasLink_refs hl).1)];exact hs',rfl⟩,rfl⟩)
   have:=h2 i k (by rw [e];exact AV.refs_of_refsL hk)
   exact ⟨rfl,fun h=>by rw [this];exact ⟨h,rfl,rfl,rfl⟩,fun c hc=>by rw [this];exact hc⟩
  ·rw [e];trivial
  ·rw [e2]
   have hn:=hR.rep i
   rw [e] at hn
   rw [rep_nil hn]
   exact ⟨[],World.ownsT_nil w _ _ _,⟨rfl,fun j c hj=>by simp at hj⟩,fun x hx=>(by cases hx),by simp,fun b hb=>by cases hb⟩
 ·rcases h1 i with e | e | ⟨e,e',size,e2⟩
  ·rw [e];exact hR.out i hi
  ·rw [e];rfl
  ·have:=hR.out i hi
   rw [e] at this;cases this
 ·rw [h2 i j hij]
  rcases h1 i with e | e | ⟨e,e',size,e2⟩
  ·rw [e] at hij;exact hR.wf i j hij
  ·rw [e] at hij;cases hij
  ·rw [e2] at hij;cases hij
theorem Rel.weak {s':St} (hR:Rel S0 w0 n s a w) (h:Weak s s'):Rel S0 w0 n s' a w:=by
 obtain ⟨t,ht,l,hl⟩:=h
 have hRt:Rel S0 w0 n t a w:=by
  rcases ht with rfl | ⟨i,c,bs,es,es',h1,h2,rfl⟩
  ·exact hR
  ·exact hR.thawG h1 h2
 exact (hRt.foldL l).weak0 hl
def resv (s:St):List (Nat×Nat)→St
 | []=>s
 | l=>fun j=>if j=MARK then .res l else s j
theorem Rel.resv (hR:Rel S0 w0 n s a w) (h:(s MARK).free=true) (l:List (Nat×Nat)):Rel S0 w0 n (resv s l) a w:=by
 unfold Ab.resv
 split
 ·exact hR
 ·have hko:∀j,(s j).isOwner=true→j≠MARK:=by rintro j h' rfl;rw [free_owner h] at h';cases h'
  have hblk:∀j c,blkOf (if j=MARK then AV.res l else s j) (tmOf a j)=some c→blkOf (s j) (tmOf a j)=some c:=by
   intro j c hj
   by_cases hjk:j=MARK
   ·rw [if_pos hjk] at hj;cases hj
   ·rw [if_neg hjk] at hj;exact hj
  have hsub:∀c,Shared S0 w0.heap.size w s (tmOf a) c→Shared S0 w0.heap.size w (fun j=>if j=MARK then .res l else s j) (tmOf a) c:=fun c hc=>⟨hc.1,hc.2.1,fun j hj=>hc.2.2 j (hblk j c hj)⟩
  refine ⟨hR.defers,hR.size,hR.below,hR.lt,fun j=>?_,fun j m c hj hm=>hR.inj j m c (hblk j c hj) (hblk m c hm),fun j hj=>?_,fun j m hjm=>?_,hR.pin⟩
  ·by_cases hjk:j=MARK
   ·simp only [if_pos hjk];trivial
   ·simp only [if_neg hjk]
    refine (hR.rep j).mono hsub (fun _ _=>rfl) (fun _ _=>rfl) (fun m hm=>?_) (fun i' off' d' cs' b' hl hs' _=>⟨⟨cs',by simp only [if_neg (hko i' (AV.boxC_owner hs'))];exact hs',rfl⟩,rfl⟩)
    have hmk:=hko m ((hR.rep j).leads hm)
    simp only [if_neg hmk]
    exact ⟨trivial,fun h=>⟨h,trivial,trivial,trivial⟩,fun c hc=>hc⟩
  ·by_cases hjk:j=MARK
   ·simp only [if_pos hjk];rfl
   ·simp only [if_neg hjk];exact hR.out j hj
  ·by_cases hjk:j=MARK
   ·simp only [if_pos hjk] at hjm;cases hjm
   ·simp only [if_neg hjk] at hjm
    have:=hR.wf j m hjm
    simp only [if_neg (hko m this)]
    exact this
theorem awp_ok [Hint] (hm:P.follows .mixedOrders=true):∀(c:Code) (Q:Exit→St→Prop) (Q':Exit→Act→World→Prop) (s:St) (a:Act) (w:World),codeOk c=true→codeDst S0.m c=true→Rel S0 w0 n s a w→awp P n c Q s →
  (∀e s' a' w',Rel S0 w0 n s' a' w'→Q e s'→Q' e a' w')→c.wp P Q' a w:=by
 intro c
 induction c with
 | skip=>intro Q Q' s a w _ _ hR h hQ;exact wp_skip (hQ _ s a w hR h)
 | label l=>intro Q Q' s a w _ _ hR h hQ;exact wp_label (hQ _ s a w hR h)
 | exit id=>intro Q Q' s a w _ _ hR h hQ;exact wp_exit (hQ _ s a w hR h)
 | ret=>intro Q Q' s a w _ _ hR h hQ;exact wp_ret (hQ _ s a w hR h)
 | region id ops draw =>
  intro Q Q' s a w hok hod hR h hQ
  obtain ⟨s,hR,h⟩:∃s,Rel S0 w0 n s a w∧aregion P n id ops draw Q s:=by
   cases hcv:(Hint.conv id:Bool) with
   | true=>simp only [awp,hcv] at h;exact h _ _ _ _ hR
   | false=>simp only [awp,hcv] at h;exact ⟨s,hR,h⟩
  cases hgr:(Hint.grow id:Bool) with
  | true =>
   simp only [aregion,hgr] at h
   simp only [codeOk,hgr] at hok
   cases draw with
   | false=>exact wp_region_list (growSeq_ok (P:=P) (dstOk_all hod) hR h (fun s' a' w' hR' hk=>hQ _ s' a' w' hR' hk))
   | true =>
    simp only [Bool.not_true,Bool.false_or,Bool.and_eq_true,beq_iff_eq] at hok
    exact region_grow_ok (P:=P) (id:=id) (Q:=Q') hm hok.1 hok.2 (dstOk_all hod) hR (K:=Q .normal) h (fun s' a' w' hR' hk=>hQ _ s' a' w' hR' hk)
  | false =>
  simp only [aregion,hgr] at h
  simp only [codeOk,hgr] at hok
  cases draw with
  | false=>exact wp_region_list (aops_ok ops.toList s a w (dstOk_all hod) hR h (fun s' a' w' hR' hk=>hQ _ s' a' w' hR' hk))
  | true =>
   have plain:=fun hok h=>region_draw_ok (P:=P) (m:=false) (id:=id) (Q:=Q') hm hok (dstOk_all hod) hR (K:=Q .normal) h (fun s' a' w' hR' hk=>hQ _ s' a' w' hR' hk)
   cases hw:(Hint.wild id:List Nat) with
   | cons k fl =>
    rw [hw] at h hok
    exact region_drawW_ok (P:=P) (id:=id) (Q:=Q') hm hok (dstOk_all hod) hR (K:=Q .normal) h (fun s' a' w' hR' hk=>hQ _ s' a' w' hR' hk)
   | nil =>
   rw [hw] at h hok
   dsimp only at h hok
   cases hh:(Hint.hint id:List Bool) with
   | cons b fl =>
    rw [hh] at h hok
    exact region_drawA_ok (P:=P) (id:=id) (Q:=Q') hm hok (dstOk_all hod) hR (K:=Q .normal) h (fun s' a' w' hR' hk=>hQ _ s' a' w' hR' hk)
   | nil =>
    rw [hh] at h hok
    dsimp only at h hok
    split at h
    ·rcases h with h | ⟨l,h1,h2⟩
     ·exact plain h.1 h.2
     ·exact region_draw_ok (m:=true) hm h1 (dstOk_all hod) (freezeL_ok l s hR) h2 (fun s' a' w' hR' hk=>hQ _ s' a' w' hR' hk)
    ·rename_i hwb
     simp only [hwb,Bool.or_false] at hok
     exact plain hok h
 | seq x y ihx ihy =>
  intro Q Q' s a w hok hod hR h hQ
  simp only [codeOk,Bool.and_eq_true] at hok
  simp only [codeDst,Bool.and_eq_true] at hod
  refine wp_seq (ihx _ _ s a w hok.1 hod.1 hR h (fun e s' a' w' hR' hq=>?_))
  cases e with
  | normal=>exact ihy Q Q' s' a' w' hok.2 hod.2 hR' hq hQ
  | _=>exact hQ _ s' a' w' hR' hq
 | cond c x y ihx ihy =>
  intro Q Q' s a w hok hod hR h hQ
  simp only [codeOk,Bool.and_eq_true] at hok
  simp only [codeDst,Bool.and_eq_true] at hod
  simp only [awp] at h
  unfold acond at h
  split at h
  ·rename_i p b e
   obtain ⟨hp,ht,hf⟩:=h
   have hv:=hR.sv c (sv_cond e hp)
   rw [e] at hv
   have hv':=rep_bool hv
   exact wp_cond_split hv' (fun hb=>ihx Q Q' s a w hok.1 hod.1 hR (ht hb) hQ) (fun hb=>ihy Q Q' s a w hok.2 hod.2 hR (hf hb) hQ)
  ·exact h.elim
 | block id c ih =>
  intro Q Q' s a w hok hod hR h hQ
  refine wp_block (ih _ _ s a w hok hod hR h (fun e s' a' w' hR' hq=>?_))
  cases e with
  | exit id' =>
   simp only [inBlockA] at hq
   simp only [Exit.inBlock]
   split
   ·rename_i hid;rw [if_pos hid] at hq;exact hQ _ s' a' w' hR' hq
   ·rename_i hid;rw [if_neg hid] at hq;exact hQ _ s' a' w' hR' hq
  | _=>exact hQ _ s' a' w' hR' hq
 | loop c ih =>
  intro Q Q' s a w hok hod hR h hQ
  obtain ⟨ι,I,ok,μ,⟨x0,hx0,hw0⟩,hround⟩:=h
  refine wp_loop_ghost (fun m a w=>∃x,ok x∧μ x=m∧Rel S0 w0 n (I x) a w) (μ x0) ⟨x0,hx0,rfl,hR.weak hw0⟩ ?_
  rintro m a1 w1 ⟨x,hx,rfl,hR1⟩
  refine ih _ _ (I x) a1 w1 hok hod hR1 (hround x hx) (fun e s' a' w' hR' hq=>?_)
  cases e with
  | normal =>
   obtain ⟨y,hy,hlt,hwk⟩:=hq
   exact ⟨μ y,hlt,y,hy,rfl,hR'.weak hwk⟩
  | _=>exact hQ _ s' a' w' hR' hq
 | _=>intro Q Q' s a w _ _ _ h _;exact h.elim
def resX (P:Program) (s:St):ResultVar→Prop×Option XV
 | .tmp t=>argX s (.tmp t)
 | .cell t ty=>match aload (tk P ty) (zeroX P ty) (sv s (.tmp t)).1 (mem s (sv s (.tmp t)).2) with
  | (p,.x xv)=>(p,some xv)
  | _=>(False,none)
def resXs (P:Program) (s:St):List ResultVar→Prop×Option (List XV)
 | []=>(True,some [])
 | x::r=>match resX P s x,resXs P s r with
  | (p,some v),(q,some vs)=>(p∧q,some (v::vs))
  | _,_=>(False,none)
def Gives (P:Program) (s:St) (rs:List ResultVar) (r:RV):Prop:=
 match resXs P s rs with
 | (p,some [x])=>p∧r=.x x
 | (p,some xs)=>p∧r=.tup xs
 | _=>False
def resM (tmps:Array Value):ResultVar→Sem Value
 | .tmp t=>pure (tmps.getD t undef)
 | .cell t ty=>do loadVar ty (←asAddr (tmps.getD t undef))
theorem results_eq (fn:Func) (tmps:Array Value):results fn tmps=(do
  let vs ←fn.results.mapM (resM tmps)
  pure (if h:vs.size=1 then vs[0] else .tuple vs)):=rfl
def initSt:List XV→Nat→St
 | [],_=>fun _=>.dead
 | x::r,k=>fun i=>if i=k then .x x else initSt r (k+1) i
mutual
def CV.ok:CV→Prop
 | .str l=>l.length≤maxLen
 | .list size xs=>xs.length≤maxLen∧CV.okAll size xs
 | _=>True
def CV.okAll (size:Nat):List (List CV)→Prop
 | []=>True
 | x::r=>x.length=size∧CV.okL x∧CV.okAll size r
def CV.okL:List CV→Prop
 | []=>True
 | c::r=>c.ok∧CV.okL r
end
def XV.ok:XV→Prop
 | .one c=>c.ok
 | .agg cs=>CV.okL cs
theorem okL_mem:∀{cs:List CV},(∀c∈cs,c.ok)→CV.okL cs
 | [],_=>by simp [CV.okL]
 | c::r,h=>by
  simp only [CV.okL]
  exact ⟨h c (by simp),okL_mem (fun c' hc=>h c' (by simp [hc]))⟩
theorem okAll_mem {size:Nat}:∀{xs:List (List CV)},(∀x∈xs,x.length=size)→(∀x∈xs,∀c∈x,CV.ok c)→CV.okAll size xs
 | [],_,_=>by simp [CV.okAll]
 | x::r,h,k=>by
  simp only [CV.okAll]
  exact ⟨h x (by simp),okL_mem (k x (by simp)),okAll_mem (fun y hy=>h y (by simp [hy])) (fun y hy=>k y (by simp [hy]))⟩
theorem RepC.ok {S:Nat→Prop} {c:CV} {v:Value} (h:RepC w S c v):c.ok:=by
 induction h with
 | str l h=>simpa only [CV.ok] using h
 | empty a cap size h=>simp only [CV.ok]
 | clo f caps U h ih=>simp only [CV.ok]
 | list0 a cap size h hn=>simp only [CV.ok,CV.okAll,List.length_nil];exact ⟨Nat.zero_le _,trivial⟩
 | list ad cap size xs U hs hsp hc hm hx hU hr ih =>
  simp only [CV.ok]
  refine ⟨by omega,okAll_mem hx (fun x hx' c hc'=>?_)⟩
  obtain ⟨j,hj⟩:=List.getElem?_of_mem (List.mem_flatten.2 ⟨x,hx',hc'⟩:c∈xs.flatten)
  exact ih j c hj
 | _=>simp only [CV.ok]
theorem RepX.ok {S:Nat→Prop} {x:XV} {v:Value} (h:RepX w S x v):x.ok:=by
 cases x with
 | one c=>exact RepC.ok h
 | agg cs =>
  obtain ⟨us,_,hl⟩:=h
  refine okL_mem (fun c hc=>?_)
  obtain ⟨j,hj⟩:=List.getElem?_of_mem hc
  obtain ⟨u,_,hr⟩:=hl.2 j c hj
  exact hr.ok
def givesW (r:RV) (q:Prop×Option (List XV)):Prop:=match q with
 | (p,some [x])=>p∧okR r (.x x)
 | (p,some xs)=>p∧okR r (.tup xs)
 | _=>False
theorem givesW_ex {s:St} {rs:List ResultVar} {r:RV} (h:givesW r (resXs P s rs)):∃r',Gives P s rs r'∧okR r r':=by
 unfold givesW at h
 unfold Gives
 split at h
 ·exact ⟨_,⟨h.1,rfl⟩,h.2⟩
 ·rename_i p xs hne e
  refine ⟨.tup xs,?_,h.2⟩
  cases xs with
  | nil=>exact ⟨h.1,rfl⟩
  | cons x r=>cases r with
   | nil=>exact absurd rfl (hne x)
   | cons y r=>exact ⟨h.1,rfl⟩
 ·exact h.elim
def resOp:ResultVar→Operand
 | .tmp t=>.tmp t
 | .cell _ _=>.const (.bool true)
def outDead:List AV→Nat→Prop
 | [],_=>True
 | o::_,0=>o=.dead
 | _::r,i+1=>outDead r i
def ownAt (outs:List AV) (e z:Nat) (xs:List (List CV)) (i:Nat) (len:Option Nat):AV→Prop
 | .own e' z' xs'=>e'=e∧z'=z∧xs=(match len with | some k=>xs'.take k | none=>xs')∧outDead outs i
 | _=>False
def ownV (s:St) (outs:List AV) (e z:Nat) (xs:List (List CV)) (t:Nat):AV→Prop
 | .own e' z' xs'=>ownAt outs e z xs t none (.own e' z' xs')
 | .alias i=>ownAt outs e z xs i none (s i)
 | .view i _ len true=>ownAt outs e z xs i (some len) (s i)
 | .x (.one .nil)=>xs=[]
 | _=>False
def giveR (P:Program) (s:St) (rs:List ResultVar) (outs:List AV) (r:RV):Prop:=
 match r with
 | .own e z xs=>match rs with
  | [.tmp t]=>ownV s outs e z xs t (s t)
  | _=>False
 | r=>givesW r (resXs P s rs)
def endSt (s:St) (rs:List ResultVar) (r:RV):St:=
 match r with
 | .own _ _ _=>s
 | _=>freezeL s (lends s (rs.map resOp))
def outsIn (s:St):Nat→List AV→Prop
 | _,[]=>True
 | k,o::r=>(match o with | .dead=>True | o=>s k=o)∧outsIn s (k+1) r
theorem outsIn_at {s:St}:∀{k:Nat} {l:List AV},outsIn s k l→∀(j:Nat) (o:AV),l[j]?=some o→o≠.dead→s (k+j)=o
 | k,[],_,j,o,h,_=>by simp at h
 | k,o::r,h,j,o',hj,hne=>by
  obtain ⟨h1,h2⟩:=h
  cases j with
  | zero =>
   simp at hj;subst hj
   cases o<;>first | exact h1 | exact absurd rfl hne
  | succ j =>
   simp at hj
   have:=outsIn_at h2 j o' hj hne
   rw [←this];congr 1;omega
theorem outDead_at:∀{l:List AV} {i:Nat} {o:AV},outDead l i→l[i]?=some o→o=.dead
 | [],i,o,_,h=>by simp at h
 | a::r,0,o,h,h'=>by simp at h';subst h';exact h
 | a::r,i+1,o,h,h'=>by simp at h';exact outDead_at (l:=r) h h'
def initM:List AV→Nat→St
 | [],_=>fun _=>.dead
 | x::r,k=>fun i=>if i=k then x else initM r (k+1) i
theorem initM_at:∀(args:List AV) (k i:Nat),initM args k i=((if k≤i then args[i-k]? else none).getD .dead)
 | [],k,i=>by simp [initM]
 | x::r,k,i=>by
  simp only [initM]
  by_cases h:i=k
  ·subst h;simp
  ·rw [if_neg h,initM_at r (k+1) i]
   by_cases hk:k≤i
   ·have h1:k+1≤i:=by omega
    have h2:i-k=(i-(k+1))+1:=by omega
    rw [if_pos h1,if_pos hk,h2]
    simp
   ·rw [if_neg (by omega),if_neg hk]
theorem initSt_M:∀(args:List XV) (k:Nat),initSt args k=initM (args.map .x) k
 | [],k=>rfl
 | x::r,k=>by
  funext i
  simp only [initSt,initM,List.map_cons,initSt_M r (k+1)]
def AV.ok:AV→Prop
 | .x v=>v.ok
 | .box cs=>CV.okL cs
 | .own _ size xs=>xs.length≤maxLen∧CV.okAll size xs
 | _=>True
theorem RepL.okL {S:Nat→Prop} {cs:List CV} {us:List Value} (h:RepL w S cs us):CV.okL cs:=by
 refine okL_mem (fun c hc=>?_)
 obtain ⟨j,hj⟩:=List.getElem?_of_mem hc
 obtain ⟨u,_,hr⟩:=h.2 j c hj
 exact hr.ok
theorem RepAV.ok {S:Nat→Prop} {B:Nat→Prop} {s:St} {tm:Nat→Value} {x:AV} {v:Value} (h:RepAV w S B s tm x v):x.ok:=by
 cases x with
 | x v=>exact RepX.ok h
 | box cs=>obtain ⟨b,arr,t,_,_,hl,_⟩:=h;exact hl.okL
 | own e z xs =>
  obtain ⟨us,_,hl,hx,hm,_⟩:=h
  refine ⟨hm,okAll_mem hx (fun y hy c hc=>?_)⟩
  obtain ⟨j,hj⟩:=List.getElem?_of_mem (List.mem_flatten.2 ⟨y,hy,hc⟩:c∈xs.flatten)
  obtain ⟨u,_,hr⟩:=hl.2 j c hj
  exact hr.ok
 | _=>trivial
theorem resX_frozen (hR:Rel S0 w0 n s a w) {x:ResultVar} {p:Prop} {xv:XV} (h:resX P s x=(p,some xv)) (hp:p) (l:List Nat) (hl:∀i∈lends s [resOp x],i∈l) :
  ∃v,(resM a.tmps x).run P w=.ok v w∧RepX w (Shared S0 w0.heap.size w (freezeL s l) (tmOf a)) xv v:=by
 cases x with
 | tmp t=>exact ⟨_,rfl,argX_frozen hR h hp l (fun i hi=>hl i (lends_mem (x:=.tmp t) (by simp [resOp]) hi))⟩
 | cell t ty =>
  have hsub:∀b,Shared S0 w0.heap.size w s (tmOf a) b→Shared S0 w0.heap.size w (freezeL s l) (tmOf a) b:=fun b hb=>⟨hb.1,hb.2.1,fun k hk=>by
   have ho:(freezeL s l k).isOwner=true:=by
    cases ho:(freezeL s l k).isOwner with
    | true=>rfl
    | false=>rw [blkOf_notOwner ho] at hk;cases hk
   rw [freezeL_owner l s k ho] at hk
   exact hb.2.2 k hk⟩
  simp only [resX] at h
  split at h
  ·rename_i q xv' e
   simp only [Prod.mk.injEq,Option.some.injEq] at h
   obtain ⟨rfl,rfl⟩:=h
   obtain ⟨v,hrun,hrep,_⟩:=aload_ok (P:=P) (t:=ty) (v:=a.eval (.tmp t)) (fun hp cs hm=>hR.mem (hR.sv (.tmp t) hp) hm) (by rw [e];exact hp)
   rw [e] at hrep
   refine ⟨v,?_,RepX.mono hrep hsub (fun _ _=>rfl)⟩
   have he:a.eval (.tmp t)=a.tmps.getD t undef:=rfl
   rw [he] at hrun
   show (do loadVar ty (←asAddr (a.tmps.getD t undef)):Sem Value).run P w=.ok v w
   generalize a.tmps.getD t undef=u at hrun ⊢
   unfold Instr.loadAt Instr.sureAddr at hrun
   unfold asAddr
   cases u with
   | pointer o=>cases o with
    | some ad=>exact hrun
    | none=>simp at hrun
   | _=>simp at hrun
  ·simp at h
theorem resXs_frozen (hR:Rel S0 w0 n s a w) (l:List Nat):∀{rs:List ResultVar} {p:Prop} {xs:List XV},resXs P s rs=(p,some xs)→p→(∀i∈lends s (rs.map resOp),i∈l) →
  ∃vs:List Value,(rs.mapM (resM a.tmps)).run P w=.ok vs w∧vs.length=xs.length∧∀(j:Nat) (x:XV),xs[j]?=some x→∃u,vs[j]?=some u∧RepX w (Shared S0 w0.heap.size w (freezeL s l) (tmOf a)) x u:=by
 intro rs
 induction rs with
 | nil =>
  intro p xs h _ _
  simp only [resXs,Prod.mk.injEq,Option.some.injEq] at h
  obtain ⟨_,rfl⟩:=h
  exact ⟨[],rfl,rfl,fun j x hj=>by simp at hj⟩
 | cons x r ih =>
  intro p xs h hp hl
  simp only [resXs] at h
  split at h
  ·rename_i q v q' vs e1 e2
   simp only [Prod.mk.injEq,Option.some.injEq] at h
   obtain ⟨rfl,rfl⟩:=h
   have hl1:∀i∈lends s [resOp x],i∈l:=by
    intro i hi
    refine hl i ?_
    simp only [List.map_cons,lends,List.append_nil,List.mem_append] at hi ⊢
    exact .inl hi
   have hl2:∀i∈lends s (r.map resOp),i∈l:=by
    intro i hi
    refine hl i ?_
    simp only [List.map_cons,lends,List.mem_append]
    exact .inr hi
   obtain ⟨u,h1,h2⟩:=resX_frozen hR e1 hp.1 l hl1
   obtain ⟨us,h3,h4,h5⟩:=ih e2 hp.2 hl2
   refine ⟨u::us,?_,by simp [h4],fun j x' hj=>?_⟩
   ·simp only [List.mapM_cons,Sem.run_bind,h1,h3,Result.andThen_ok,Sem.run_pure]
   ·cases j with
    | zero=>simp at hj;subst hj;exact ⟨u,rfl,h2⟩
    | succ j=>simp only [List.getElem?_cons_succ] at hj;exact h5 j x' hj
  ·simp at h
theorem givesW_frozen (hR:Rel S0 w0 n s a w) {fn:Func} {r:RV} (h:givesW r (resXs P s fn.results.toList)):∃v,(results fn a.tmps).run P w=.ok v w∧RepR w (Shared S0 w0.heap.size w (freezeL s (lends s (fn.results.toList.map resOp))) (tmOf a)) r v:=by
 have key:∀{p:Prop} {xs:List XV},resXs P s fn.results.toList=(p,some xs)→p→∃vs:List Value,(results fn a.tmps).run P w=.ok (if h:vs.length=1 then vs[0] else .tuple vs.toArray) w ∧
   vs.length=xs.length∧∀(j:Nat) (x:XV),xs[j]?=some x→∃u,vs[j]?=some u∧RepX w (Shared S0 w0.heap.size w (freezeL s (lends s (fn.results.toList.map resOp))) (tmOf a)) x u:=by
  intro p xs e hp
  obtain ⟨vs,h1,h2,h3⟩:=resXs_frozen hR (lends s (fn.results.toList.map resOp)) e hp (fun i hi=>hi)
  refine ⟨vs,?_,h2,h3⟩
  rw [results_eq,←Array.toArray_toList (xs:=fn.results),List.mapM_toArray]
  simp only [Sem.run_bind,Sem.run_map,h1,Result.andThen_ok,Sem.run_pure]
  congr 1
 obtain ⟨r',hg,hok⟩:=givesW_ex h
 refine (fun ⟨v,h1,h2⟩=>⟨v,h1,okR_rep hok h2⟩:(∃v,(results fn a.tmps).run P w=.ok v w∧RepR w (Shared S0 w0.heap.size w (freezeL s (lends s (fn.results.toList.map resOp))) (tmOf a)) r' v)→_) ?_
 unfold Gives at hg
 split at hg
 ·rename_i p x e
  obtain ⟨hp,rfl⟩:=hg
  obtain ⟨vs,h1,h2,h3⟩:=key e hp
  have hl:vs.length=1:=by simpa using h2
  rw [dif_pos hl] at h1
  obtain ⟨u,hu,hr⟩:=h3 0 x rfl
  refine ⟨_,h1,?_⟩
  have:vs[0]=u:=by rw [List.getElem?_eq_getElem (by omega)] at hu;injection hu
  rw [this];exact hr
 ·rename_i p xs hne e
  obtain ⟨hp,rfl⟩:=hg
  obtain ⟨vs,h1,h2,h3⟩:=key e hp
  have hl:¬vs.length=1:=by
   intro hl
   rw [hl] at h2
   obtain ⟨y,hy⟩:=List.length_eq_one_iff.1 h2.symm
   exact hne y hy
  rw [dif_neg hl] at h1
  exact ⟨_,h1,vs.toArray,rfl,by simpa using h2,fun j x hj=>by simpa using h3 j x hj⟩
 ·exact hg.elim
theorem givesW_blk {r:RV} {q:Prop×Option (List XV)} (h:givesW r q) (v:Value):r.blk v=none:=by
 cases r with
 | own e z xs =>
  unfold givesW at h
  split at h
  ·exact h.2.elim
  ·exact h.2.elim
  ·exact h.elim
 | _=>rfl
theorem giveR_ok {w1:World} (hR:Rel S0 w1 n s a w) {fn:Func} {r:RV} {outs:List AV} (h:giveR P s fn.results.toList outs r) :
  ∃v,(results fn a.tmps).run P w=.ok v w∧Rel S0 w1 n (endSt s fn.results.toList r) a w∧RepR w (fun b=>(Shared S0 w1.heap.size w (endSt s fn.results.toList r) (tmOf a) b∨r.blk v=some b)) r v ∧
   ∀b,r.blk v=some b→∃i,blkOf (endSt s fn.results.toList r i) (tmOf a i)=some b∧outDead outs i:=by
 unfold giveR at h
 split at h
 ·rename_i e z xs
  split at h
  ·rename_i t hrs
   have hres:(results fn a.tmps).run P w=.ok (tmOf a t) w:=by
    rw [results_eq,←Array.toArray_toList (xs:=fn.results),List.mapM_toArray,hrs]
    simp [resM]
   have fin:∀{v:Value} {us:List Value} (i:Nat) ,v=tmOf a t→w.ownsT 0 e z v xs.length us→RepL w (Shared S0 w1.heap.size w s (tmOf a)) xs.flatten us→(∀x∈xs,x.length=z)→xs.length≤maxLen →
     (∀b,v.ownBlock=some b→blkOf (s i) (tmOf a i)=some b∧outDead outs i) →
     ∃v,(results fn a.tmps).run P w=.ok v w∧Rel S0 w1 n (endSt s [.tmp t] (.own e z xs)) a w∧RepR w (fun b=>(Shared S0 w1.heap.size w (endSt s [.tmp t] (.own e z xs)) (tmOf a) b∨(RV.own e z xs).blk v=some b)) (.own e z xs) v ∧
      ∀b,(RV.own e z xs).blk v=some b→∃i,blkOf (endSt s [.tmp t] (.own e z xs) i) (tmOf a i)=some b∧outDead outs i:=by
    intro v us i hv hown hl hx hm hb
    refine ⟨v,by rw [hv];exact hres,hR,⟨us,hown,hl.mono (fun b hbb=>⟨.inl hbb,fun h=>hbb.2.2 i (hb b h).1⟩) (fun _ _=>rfl),hx,hm,fun b h=>.inr h⟩,fun b h=>⟨i,hb b h⟩⟩
   rw [hrs]
   have ht:=hR.rep t
   revert h ht
   generalize hst:s t=q
   intro h ht
   unfold ownV at h
   split at h
   ·rename_i e' z' xs'
    obtain ⟨rfl,rfl,rfl,hod⟩:=h
    obtain ⟨us,hown,hl,hx,hm,_⟩:=ht
    exact fin t rfl hown hl hx hm (fun b hb=>⟨by rw [hst];exact hb,hod⟩)
   ·rename_i i
    obtain ⟨hv,_⟩:=ht
    have hi:=hR.rep i
    revert h hi
    generalize hsi:s i=q
    intro h hi
    unfold ownAt at h
    split at h
    ·obtain ⟨rfl,rfl,rfl,hod⟩:=h
     obtain ⟨us,hown,hl,hx,hm,_⟩:=hi
     have hv2:tmOf a t=tmOf a i:=by rw [hv,hsi];rfl
     exact fin i hv2.symm hown hl hx hm (fun b hb=>⟨by rw [hsi];exact hb,hod⟩)
    ·exact h.elim
   ·rename_i i lo len
    have hi:=hR.rep i
    revert h hi
    generalize hsi:s i=q
    intro h hi
    unfold ownAt at h
    split at h
    ·obtain ⟨rfl,rfl,rfl,hod⟩:=h
     obtain ⟨us,hown,hl,hx,hm,_⟩:=hi
     obtain ⟨h1,h2,h3,h4⟩:=view_trunc hsi ht hown hl hx
     exact fin i rfl h1 h3 (fun x hx'=>hx x (List.mem_of_mem_take hx')) (by rw [List.length_take];omega) (fun b hb=>⟨by rw [hsi];exact h2 b hb,hod⟩)
    ·exact h.elim
   ·subst h
    have hv:=rep_nil ht
    exact fin t (us:=[]) rfl (by rw [hv];exact World.ownsT_nil w 0 e z) ⟨rfl,fun j c hj=>by simp at hj⟩ (fun x hx=>by cases hx) (by simp) (fun b hb=>by rw [hv] at hb;cases hb)
   ·exact h.elim
  ·exact h.elim
 ·rename_i hne
  have he:endSt s fn.results.toList r=freezeL s (lends s (fn.results.toList.map resOp)):=by
   unfold endSt
   split
   ·exact absurd rfl (hne _ _ _)
   ·rfl
  obtain ⟨v,h1,h2⟩:=givesW_frozen hR h
  rw [he]
  refine ⟨v,h1,freezeL_ok _ _ hR,h2.mono (fun b hb=>.inl hb) (fun _ _=>rfl),fun b hb=>?_⟩
  rw [givesW_blk h] at hb;cases hb
def liveLen:List AV→Nat
 | []=>0
 | o::r=>match o with
  | .dead=>match liveLen r with
   | 0=>0
   | n+1=>n+2
  | _=>liveLen r+1
theorem liveLen_at:∀{l:List AV} {j:Nat} {o:AV},l[j]?=some o→o≠.dead→j<liveLen l
 | [],j,o,h,_=>by simp at h
 | a::r,0,o,h,hne=>by
  simp at h;subst h
  unfold liveLen
  cases a<;>first | exact absurd rfl hne | simp
 | a::r,j+1,o,h,hne=>by
  have:=liveLen_at (l:=r) (j:=j) (by simpa using h) hne
  unfold liveLen
  split
  ·split
   ·rename_i e;rw [e] at this;omega
   ·rename_i e;rw [e] at this;omega
  ·omega
theorem liveLen_dead {α:Type}:∀(l:List α),liveLen (l.map fun _=>AV.dead)=0
 | []=>rfl
 | a::r=>by simp only [List.map_cons,liveLen,liveLen_dead r]
theorem ACallsM.mkL [Hint] {f : FuncId} {fn : Func} {c : Code} {args : List AV} {r : RV} {outs : List AV} (hm : P.follows .mixedOrders = true) (hf : P.funcs[f]? = some fn) (hname : (fn.name == "runtime.NumGoroutine") = false)
  (hb:fn.body=some c) (hok:codeOk c=true) (hod:codeDst (liveLen outs) c=true) (hl:args.length≤fn.ntmps) (hfit:outsFit args outs=true) {Qa:Exit→St→Prop} (lk lf:List (Nat×Nat)) (hlk:lk=[]∨args.length≤999999)
  (hQa:∀e s,Qa e s→(e=.normal∨e=.ret)∧giveR P (foldL s lf) fn.results.toList outs r∧outsIn (endSt (foldL s lf) fn.results.toList r) 0 outs)
  (h:(∀x∈args,x.ok)→awp P fn.ntmps c Qa (resv (initM args 0) lk)):ACallsM P f args r outs:=by
 refine ⟨⟨fn,hf,hname,by rw [hb];rfl⟩,hfit,fun w E0 vs hE0 hargs=>?_⟩
 have hargok:∀x∈args,x.ok:=by
  intro x hx
  obtain ⟨j,hj⟩:=List.getElem?_of_mem hx
  exact (hargs.rep j x hj).2.ok
 refine calls_of_wp hf hb ?_
 have hsz:vs.size≤fn.ntmps:=Nat.le_trans hargs.size hl
 have htm:∀i,tmOf { tmps:=vs++Array.replicate (fn.ntmps-vs.size) undef,defers:=[] } i=tmV vs i:=by
  intro i
  simp only [tmOf,tmV,Array.getD_eq_getD_getElem?,Array.getElem?_append]
  split
  ·rfl
  ·rename_i hi
   rw [Array.getElem?_eq_none (by omega:vs.size≤i),Array.getElem?_replicate]
   split<;>rfl
 have htmf:tmOf { tmps:=vs++Array.replicate (fn.ntmps-vs.size) undef,defers:=[] }=tmV vs:=funext htm
 let E:Env:=⟨E0.rd,E0.lent,liveLen outs,tmV vs⟩
 have hE:Base E w:=⟨hE0.rd,hE0.lent,hE0.apart,hE0.amb,hE0.far⟩
 have hinit:∀i,initM args 0 i=argSt args i:=fun i=>by rw [initM_at];simp [argSt]
 have hinitf:initM args 0=argSt args:=funext hinit
 have hcase:∀i,argSt args i=.dead∨∃x,args[i]?=some x∧argSt args i=x∧argOk args x=true∧RepAV w E0.rd E0.lent (argSt args) (tmV vs) x (tmV vs i):=by
  intro i
  cases hx:args[i]? with
  | none=>left;unfold argSt;rw [hx];rfl
  | some x =>
   obtain ⟨hbr,hr⟩:=hargs.rep i x hx
   exact .inr ⟨x,rfl,by unfold argSt;rw [hx];rfl,hbr,hr⟩
 have hblk:∀i b,blkOf (argSt args i) (tmV vs i)=some b→E0.lent b:=by
  intro i b hbb
  rcases hcase i with h | ⟨x,h1,h3,h4,h5⟩
  ·rw [h] at hbb;cases hbb
  ·rw [h3] at hbb;exact (h5.blk_lt hbb).1
 have hR:Rel E w fn.ntmps (initM args 0) { tmps:=vs++Array.replicate (fn.ntmps-vs.size) undef,defers:=[] } w:=by
  rw [hinitf]
  refine ⟨rfl,by simp;omega,Kept.refl _ _,hE,fun i=>?_,fun i j b hi hj=>?_,fun i hi=>?_,fun i j hij=>?_,fun j hj=>htm j⟩
  ·rw [htmf]
   rcases hcase i with h | ⟨x,h1,h3,h4,h5⟩
   ·rw [h];trivial
   ·rw [h3]
    refine h5.argOk h4 (fun b hb=>⟨.inl hb,hE0.rd b hb,fun k hk=>?_⟩) (fun b _ hb=>.inr hb)
    exact hE0.apart b hb (hblk k b hk)
  ·rw [htm] at hi hj
   rcases hcase i with h | ⟨x,h1,h3,h4,h5⟩
   ·rw [h] at hi;cases hi
   rcases hcase j with h | ⟨y,k1,k3,k4,k5⟩
   ·rw [h] at hj;cases hj
   rw [h3] at hi
   rw [k3] at hj
   exact hargs.inj i j x y b h1 hi k1 hj
  ·unfold argSt;rw [List.getElem?_eq_none (by omega)];rfl
  ·rcases hcase i with h | ⟨x,h1,h3,h4,h5⟩
   ·rw [h] at hij;cases hij
   ·rw [h3] at hij;exact argOk_refs h4 hij
 have hRv:Rel E w fn.ntmps (Ab.resv (initM args 0) lk) { tmps:=vs++Array.replicate (fn.ntmps-vs.size) undef,defers:=[] } w:=by
  rcases hlk with rfl | hlk
  ·exact hR
  ·exact hR.resv (by rw [hinit];unfold argSt;rw [List.getElem?_eq_none (show args.length≤MARK from hlk)];rfl) lk
 refine awp_ok hm c _ _ _ _ _ hok hod hRv (h hargok) (fun e s0' a' w' hR0' hq=>?_)
 obtain ⟨he,hg,hout⟩:=hQa _ _ hq
 have hR':=hR0'.foldL lf
 generalize Ab.foldL s0' lf=s' at hR' hg hout
 obtain ⟨v,hrun,hR2,hrep,hrb⟩:=giveR_ok hR' hg
 obtain ⟨hfl,hfa⟩:=outsFit_at hfit
 generalize endSt s' fn.results.toList r=s2 at hR2 hrep hrb hout
 have hpin:∀j,j<liveLen outs→tmOf a' j=tmV vs j:=fun j hj=>hR2.pin j hj
 have houts:∀(j:Nat) (o:AV),outs[j]?=some o→o≠.dead→s2 j=o∧tmOf a' j=tmV vs j:=by
  intro j o h1 h3
  have:=outsIn_at hout j o h1 h3
  rw [Nat.zero_add] at this
  exact ⟨this,hpin j (liveLen_at h1 h3)⟩
 have hno:∀(b:Nat),Owned outs vs b→∃(j:Nat) (o:AV),outs[j]?=some o∧o≠.dead∧blkOf (s2 j) (tmOf a' j)=some b:=by
  rintro b ⟨j,o,h1,h3⟩
  have hne:o≠.dead:=by rintro rfl;cases h3
  obtain ⟨h4,h5⟩:=houts j o h1 hne
  exact ⟨j,o,h1,hne,by rw [h4,h5];exact h3⟩
 have hafter:∀b,Shared E w.heap.size w' s2 (tmOf a') b→After w w' E0 outs vs b:=by
  intro b hb
  refine ⟨?_,fun ho=>?_⟩
  ·rcases hb.1 with h | h | h
   ·exact .inl h
   ·exact .inr (.inr ⟨h,hb.2.1⟩)
   ·exact .inr (.inl h)
  ·obtain ⟨j,o,_,_,h⟩:=hno b ho
   exact hb.2.2 j h
 have hblkA:∀b,r.blk v=some b→After w w' E0 outs vs b∧¬E0.rd b:=by
  intro b hb
  obtain ⟨i,hi,hod'⟩:=hrb b hb
  obtain ⟨h1,h2⟩:=(hR2.rep i).blk_lt hi
  refine ⟨⟨?_,fun ho=>?_⟩,fun hrd=>?_⟩
  ·rcases h1 with h | h
   ·exact .inr (.inr ⟨h,h2⟩)
   ·exact .inr (.inl h)
  ·obtain ⟨j,o,h3,h4,h5⟩:=hno b ho
   have:=hR2.inj i j b hi h5
   subst this
   exact h4 (outDead_at hod' h3)
  ·rcases h1 with h | h
   ·have:=hE0.rd b hrd;omega
   ·exact hE0.apart b hrd h
 have hnb:∀b,Shared E w.heap.size w' s2 (tmOf a') b→r.blk v≠some b:=by
  intro b hb h
  obtain ⟨i,hi,_⟩:=hrb b h
  exact hb.2.2 i hi
 have hfin:a'.defers=[]∧∃v,(results fn a'.tmps).run P w'=.ok v w'∧∃v',Ending.returned v=.returned v'∧Kept E0.lent w w'∧RepR w' (After w w' E0 outs vs) r v'∧(∀b,r.blk v'=some b→After w w' E0 outs vs b∧¬E0.rd b) ∧
   ∀(j:Nat) (o:AV),outs[j]?=some o→RepAV w' (fun b=>After w w' E0 outs vs b∧r.blk v'≠some b) E0.lent deadSt noTm o (tmV vs j):=by
  refine ⟨hR'.defers,v,hrun,v,rfl,hR'.below,hrep.mono (fun b hb=>hb.elim (hafter b) (fun h=>(hblkA b h).1)) (fun _ _=>rfl),hblkA,fun j o h1=>?_⟩
  by_cases hne:o=.dead
  ·subst hne;trivial
  obtain ⟨h3,h4⟩:=houts j o h1 hne
  have hlt:j<args.length:=by rw [hfl];exact (List.getElem?_eq_some_iff.1 h1).1
  obtain ⟨x,hx⟩:∃x,args[j]?=some x:=⟨_,List.getElem?_eq_getElem hlt⟩
  have hff:=hfa j x o hx h1
  obtain ⟨hbx,hrx⟩:=hargs.rep j x hx
  have hr:=hR2.rep j
  rw [h3,h4] at hr
  have hbo:o.bare=true:=by cases x<;>cases o<;>first | rfl | (simp [outFits] at hff)
  exact hr.bare hbo (fun b hb=>⟨hafter b hb,hnb b hb⟩) (fun b hb _=>(hrx.blk_lt (blk_out hff hrx hb)).1)
 rcases he with rfl | rfl
 ·exact hfin
 ·exact hfin
theorem ACalls.ofM {f:FuncId} {args:List XV} {r:RV} (h:ACallsM P f (args.map .x) r (args.map fun _=>.dead)):ACalls P f args r:=by
 refine ⟨h.1,fun w S vs hS hargs=>?_⟩
 have hnob:∀(j:Nat) (x:AV) (u:Value) (b:Nat),(args.map AV.x)[j]?=some x→blkOf x u=some b→False:=by
  intro j x u b hj hb
  rw [List.getElem?_map] at hj
  cases hx:args[j]? with
  | none=>rw [hx] at hj;cases hj
  | some y=>rw [hx] at hj;injection hj with hj;subst hj;cases hb
 have hnow:∀b,¬Owned (args.map fun _=>AV.dead) vs b:=by
  rintro b ⟨j,o,h1,h3⟩
  rw [List.getElem?_map] at h1
  cases hx:args[j]? with
  | none=>rw [hx] at h1;cases h1
  | some y=>rw [hx] at h1;injection h1 with h1;subst h1;cases h3
 refine (h.2.2 w ⟨S,fun _=>False,0,fun _=>undef⟩ vs hS ⟨by simp [hargs.1],fun j x hj=>?_,fun i j x y b h1 h3=>(hnob i x _ b h1 h3).elim,fun b hb=>hb.elim⟩).mono ?_
 ·rw [List.getElem?_map] at hj
  cases hx:args[j]? with
  | none=>rw [hx] at hj;cases hj
  | some y =>
   rw [hx] at hj
   injection hj with hj
   subst hj
   obtain ⟨u,hu,hr⟩:=hargs.2 j y hx
   exact ⟨rfl,by rw [tmV_some hu];exact hr⟩
 ·rintro e w' ⟨v,rfl,hk,hr,hb,_⟩
  refine ⟨v,rfl,hk.below (fun _ h=>h),hr.mono (fun b hb=>?_) (fun _ _=>rfl),fun b hbb=>?_⟩
  ·rcases hb.1 with h | h | h
   ·exact .inl h
   ·exact h.elim
   ·exact .inr h
  ·obtain ⟨⟨h1,_⟩,h2⟩:=hb b hbb
   rcases h1 with h | h | h
   ·exact absurd h h2
   ·exact h.elim
   ·exact h.1
theorem outsIn_dead {s:St} {α:Type}:∀(l:List α) (k:Nat),outsIn s k (l.map fun _=>AV.dead)
 | [],_=>trivial
 | _::r,k=>⟨trivial,outsIn_dead r (k+1)⟩
theorem outDead_dead {α:Type}:∀(l:List α) (i:Nat),outDead (l.map fun _=>AV.dead) i
 | [],_=>by unfold outDead;trivial
 | _::r,0=>rfl
 | _::r,i+1=>outDead_dead r i
theorem outsFit_dead:∀l:List XV,outsFit (l.map .x) (l.map fun _=>AV.dead)=true
 | []=>rfl
 | _::r=>by simp [outsFit,outFits,outsFit_dead r]
theorem ACallsM.mk [Hint] {f : FuncId} {fn : Func} {c : Code} {args : List AV} {r : RV} {outs : List AV} (hm : P.follows .mixedOrders = true) (hf : P.funcs[f]? = some fn) (hname : (fn.name == "runtime.NumGoroutine") = false)
  (hb:fn.body=some c) (hok:codeOk c=true) (hod:codeDst (liveLen outs) c=true) (hl:args.length≤fn.ntmps) (hfit:outsFit args outs=true) {Qa:Exit→St→Prop}
  (hQa:∀e s,Qa e s→(e=.normal∨e=.ret)∧giveR P s fn.results.toList outs r∧outsIn (endSt s fn.results.toList r) 0 outs)
  (h:(∀x∈args,x.ok)→awp P fn.ntmps c Qa (initM args 0)):ACallsM P f args r outs:=ACallsM.mkL hm hf hname hb hok hod hl hfit [] [] (.inl rfl) hQa h
theorem ACalls.mk [Hint] {f : FuncId} {fn : Func} {c : Code} {args : List XV} {r : RV} (hm : P.follows .mixedOrders = true) (hf : P.funcs[f]? = some fn) (hname : (fn.name == "runtime.NumGoroutine") = false)
  (hb:fn.body=some c) (hok:codeOk c=true) (hl:args.length≤fn.ntmps)
  (h:(∀x∈args,x.ok)→awp P fn.ntmps c (fun e s=>(e=.normal∨e=.ret)∧giveR P s fn.results.toList [] r) (initSt args 0)):ACalls P f args r:=by
 refine ACalls.ofM (ACallsM.mk hm hf hname hb hok (by rw [liveLen_dead];exact codeDst_zero c) (by simpa using hl) (outsFit_dead args) (Qa:=fun e s=>(e=.normal∨e=.ret)∧giveR P s fn.results.toList [] r) (fun e s hq=>⟨hq.1,?_,outsIn_dead args 0⟩) (fun hx=>by rw [←initSt_M];exact h (fun x hx'=>hx (.x x) (List.mem_map.2 ⟨x,hx',rfl⟩))))
 have hgive:=hq.2
 unfold giveR at hgive ⊢
 split at hgive
 ·split at hgive
  ·unfold ownV at hgive ⊢
   split at hgive
   ·exact ⟨hgive.1,hgive.2.1,hgive.2.2.1,outDead_dead args _⟩
   ·unfold ownAt at hgive ⊢
    split at hgive
    ·exact ⟨hgive.1,hgive.2.1,hgive.2.2.1,outDead_dead args _⟩
    ·exact hgive.elim
   ·unfold ownAt at hgive ⊢
    split at hgive
    ·exact ⟨hgive.1,hgive.2.1,hgive.2.2.1,outDead_dead args _⟩
    ·exact hgive.elim
   ·exact hgive
   ·exact hgive.elim
  ·exact hgive.elim
 ·exact hgive
end
end Go.Ab
