/- A part of the proof: lemmas and contracts of functions. -/
import Derived.Test.YtlcmnclbljedfaaGreatDoorIxGRb
import Derived.Test.YtlcmnclbljedfaaGreatDoorIxGRa
import Derived.WalkKit
import Derived.LoopN
import Derived.Sort.Grow
import Derived.StillTailTactics
import Derived.Deep.RegionLaw
import Derived.Lib.SliceRun
import Derived.Shelf.SlLaysF0
import Derived.Test.YtlcmnclbljedfaaGreatDoorProg
import Derived.KernelRfl
import Derived.Shelf.GgSortFunc.RowK
import Derived.Shelf.SlSortCmp.InsertionK
import Derived.Sort.AssemblyPlain
import Derived.Shelf.SlSortCmp.NoneTotal
import Derived.Shelf.Lays
import Derived.Shelf.Strings.IndexAnyAll
import Derived.Test.YtlcmnclbljedfaaGreatDoorAbJ5
set_option linter.all false
namespace Go.Proofs.YtlcmnclbljedfaaGreatDoor
open Go Go.Ab
variable [Amb][zaY 0][zal Tryz.prog]
set_option maxRecDepth 100000
set_option maxHeartbeats 4000000
def zgA:List UInt8:=[112,105,101,99,101,115]
def zl3:List UInt8:=[110,117,109,98,101,114]
def zln(x:Rec):Nat:=zBr (((zqR x.heads zl3).bind fun j=>x.heads[j]?).getD ⟨[],[]⟩).value
def zc3(r:Rec)(id:List UInt8)(x:Rec):Bool:=x.kind==5&&(x.of==id&&((zqR x.heads zl3).isSome&&(x.time==r.time&&x.key==r.key)))
def znb(l:List Rec)(r:Rec)(id:List UInt8)(n:Nat):List Rec:=l.filter fun x=>zc3 r id x&&zln x==n
def zyk(r:Rec)(hs:List Head)(pc:Nat→List Rec):Nat→Nat→List UInt8→Rec×Int
 |0,_,b=>if zlx { r with heads:=hs,block:=b }≠0 then (zm9,zlx { r with heads:=hs,block:=b }) else ({ r with heads:=hs,block:=b },0)
 |k+1,n,b=>if (pc n).length≠1 then (zm9,9) else zyk r hs pc k (n+1) (b++((pc n).headD zm9).block)
def zmV(l:List Rec)(id:List UInt8):Rec×Int:=
 if (zf0 l id).isSome=false∨(findD l id).kind=5 then (zm9,9)
 else match zqR (findD l id).heads zgA with
  |none=>(findD l id,0)
  |some k =>
   if zBr (((findD l id).heads[k]?).getD ⟨[],[]⟩).value<2 then (zm9,3)
   else zyk (findD l id) ((findD l id).heads.take k++(findD l id).heads.drop (k+1)) (znb l (findD l id) id) (zBr (((findD l id).heads[k]?).getD ⟨[],[]⟩).value-1) 2 (findD l id).block
structure PE where
 key:Nat
 v:Value
 recs:List Rec
def zt6(D:List PE):List (XV×XV):=D.map fun d=>(.one (.int .i64 d.key),.one (.atom d.v))
def zF9(D:List PE):List (XV×XV):=D.map fun d=>(.one (.int .i64 d.key),.one (.list 7 (d.recs.map Rec.row)))
def zrE(D:List PE):List (Value×List (List CV)):=D.map fun d=>(d.v,d.recs.map Rec.row)
theorem zrh(n:Nat)(D:List PE)(f:PE→XV):∀i,zbz (.i .i64) (.one (.int .i64 n)) (D.map fun d=>(.one (.int .i64 d.key),f d)) i=some ((D.findIdx? fun d=>d.key==n).map (·+i)):=by
 induction D with
 |nil=>intro i;rfl
 |cons d r ih =>
  intro i
  simp only[List.map_cons,zbz,zl6,List.findIdx?_cons]
  by_cases h:d.key=n
  ·subst h;simp
  ·have h1:((n:Int)==(d.key:Int))=false:=by rw[beq_eq_false_iff_ne];omega
   have h2:(d.key==n)=false:=by rw[beq_eq_false_iff_ne];exact h
   rw[h1,h2,ih (i+1)]
   cases r.findIdx? fun d=>d.key==n with
   |none=>rfl
   |some j=>simp;omega
structure PEs(r:Rec)(id:List UInt8)(ls:List Rec)(D:List PE):Prop where
 nd:(D.map PE.key).Nodup
 recs:∀d∈D,d.recs=znb ls r id d.key
 all:∀x∈ls,zc3 r id x=true→zln x∈D.map PE.key
theorem PEs.nil(r:Rec)(id:List UInt8):PEs r id [] []:=⟨by simp,by simp,by simp⟩
theorem zjI(ls:List Rec)(r:Rec)(id:List UInt8)(x:Rec)(n:Nat):znb (ls++[x]) r id n=znb ls r id n++(if (zc3 r id x&&zln x==n)=true then [x] else []):=by
 unfold znb
 rw[List.filter_append]
 congr 1
 simp only[List.filter_cons,List.filter_nil]
theorem PEs.skip{r:Rec}{id:List UInt8}{ls:List Rec}{D:List PE}{x:Rec}(h:PEs r id ls D)(hx:zc3 r id x=false):PEs r id (ls++[x]) D:=by
 refine⟨h.nd,fun d hd=>?_,fun y hy hp=>?_⟩
 ·rw[zjI,hx];simpa using h.recs d hd
 ·rcases List.mem_append.1 hy with h1 | h1
  ·exact h.all y h1 hp
  ·obtain rfl:y=x:=by simpa using h1
   rw[hx] at hp;cases hp
theorem PEs.add{r:Rec}{id:List UInt8}{ls:List Rec}{D:List PE}{x:Rec}(h:PEs r id ls D)(hx:zc3 r id x=true)(hn:zln x∉D.map PE.key)(v:Value):PEs r id (ls++[x]) (D++[⟨zln x,v,[x]⟩]):=by
 have hno:znb ls r id (zln x)=[]:=by
  unfold znb
  rw[List.filter_eq_nil_iff]
  intro y hy hb
  simp only[Bool.and_eq_true,beq_iff_eq] at hb
  exact hn (by rw[←hb.2];exact h.all y hy hb.1)
 refine⟨?_,fun d hd=>?_,fun y hy hp=>?_⟩
 ·rw[List.map_append,List.nodup_append]
  refine⟨h.nd,by simp,fun a ha b hb=>?_⟩
  obtain rfl:b=zln x:=by simpa using hb
  rintro rfl
  exact hn ha
 ·rw[zjI]
  rcases List.mem_append.1 hd with h1 | h1
  ·have hne:(zln x==d.key)=false:=by rw[beq_eq_false_iff_ne];intro e;exact hn (by rw[e];exact List.mem_map.2 ⟨d,h1,rfl⟩)
   rw[hx,hne];simpa using h.recs d h1
  ·obtain rfl:d=⟨zln x,v,[x]⟩:=by simpa using h1
   simp only[hno]
   rw[hx];simp
 ·rw[List.map_append,List.mem_append]
  rcases List.mem_append.1 hy with h1 | h1
  ·exact .inl (h.all y h1 hp)
  ·obtain rfl:y=x:=by simpa using h1
   exact .inr (by simp)
theorem PEs.grow{r:Rec}{id:List UInt8}{ls:List Rec}{D:List PE}{x:Rec}{j:Nat}(h:PEs r id ls D)(hx:zc3 r id x=true)(hj:j<D.length)(hk:D[j].key=zln x)(v:Value):PEs r id (ls++[x]) (D.set j ⟨zln x,v,D[j].recs++[x]⟩):=by
 have hkeys:(D.set j ⟨zln x,v,D[j].recs++[x]⟩).map PE.key=D.map PE.key:=by
  rw[List.map_set]
  apply List.ext_getElem?
  intro i
  rw[List.getElem?_set]
  split
  ·rename_i e
   subst e
   simp[hj,hk]
  ·rfl
 refine⟨by rw[hkeys];exact h.nd,fun d hd=>?_,fun y hy hp=>?_⟩
 ·obtain⟨i,hi,rfl⟩:=List.getElem_of_mem hd
  rw[zjI]
  have hi':i<D.length:=by simpa using hi
  rw[List.getElem_set]
  by_cases e:j=i
  ·subst e
   rw[if_pos rfl]
   simp only
   rw[hx]
   have:=h.recs D[j] (List.getElem_mem hj)
   rw[hk] at this
   rw[this];simp
  ·rw[if_neg e]
   have hne:(zln x==D[i].key)=false:=by
    rw[beq_eq_false_iff_ne]
    intro e2
    have h1:(D.map PE.key)[j]'(by simpa using hj)=(D.map PE.key)[i]'(by simpa using hi'):=by simp[hk,e2]
    have hp:=List.pairwise_iff_getElem.1 h.nd
    rcases Nat.lt_or_ge j i with h2 | h2
    ·exact hp j i (by simpa using hj) (by simpa using hi') h2 h1
    ·exact hp i j (by simpa using hi') (by simpa using hj) (by omega) h1.symm
   rw[hx,hne]
   simpa using h.recs D[i] (List.getElem_mem hi')
 ·rw[hkeys]
  rcases List.mem_append.1 hy with h1 | h1
  ·exact h.all y h1 hp
  ·obtain rfl:y=x:=by simpa using h1
   rw[←hk];exact List.mem_map.2 ⟨_,List.getElem_mem hj,rfl⟩
set_option maxHeartbeats 8000000
theorem zdn{j a:Nat}(h:a<2000000):(2000000+j=a)=False:=eq_false (by omega)
theorem zep{j a:Nat}(h:a<2000000):(a=2000000+j)=False:=eq_false (by omega)
@[simp]theorem zzR(s:St)(v:Value):zaE s (.x (.one (.atom v)))=none:=rfl
@[simp]theorem zQJ:zsE none=none:=rfl
theorem zqM{l:List Rec}{id:List UInt8}(h:(zf0 l id).isSome=true):findD l id∈l:=by
 unfold findD zf0 at *
 cases hf:l.findIdx? fun r=>r.id==id with
 |none=>rw[hf] at h;cases h
 |some i =>
  have hlt:=(List.findIdx?_eq_some_iff_getElem.1 hf).1
  simp[hlt]
theorem zAJ{s:List UInt8}:zBr s≤9999:=by
 unfold zBr
 split
 ·rename_i h
  obtain⟨_,h1,h2⟩:=zfu h
  have:=zgh s h2
  have hp:(10:Nat) ^ s.length≤10 ^ 4:=Nat.pow_le_pow_right (by decide) h1
  omega
 ·omega
def zdI(l:List Rec)(id:List UInt8)(r:Rec)(hs:List Head)(M:Nat)(D:List PE)(x:Nat×List UInt8):List (Nat×AV):=
 [(0,.x (.one (.list 7 (l.map Rec.row)))),(1,.x (.one (.str id))),(4,.box [.int .i64 0,.str [],.str [],.int .i64 0,.str [],.nil,.nil]),(6,.box [.int .i64 r.kind,.str r.id,.str r.of,.int .i64 r.time,.str r.key,.any,.any]),
   (9,.x (.one (.int .i64 M))),(10,.mp D.length (List.range D.length) (zF9 D)),(14,.x (.one (.int .i64 x.1))),(58,.own 84 2 (hs.map Head.row)),
   (999999,.res [(6,5),(6,6)]),(1006005,.link 6 5 58)]++(if x.1=2 then [(35,.own 5 1 (zad x.2)),(1006006,.link 6 6 35)] else [(136,.own 5 1 (zad x.2)),(1006006,.link 6 6 136)])
theorem ziB(l:List Rec)(id:List UInt8)(hl:l.length≤1000)(hr:∀r∈l,zlx r=0):zab Tryz.prog 86 [zey l,.one (.str id)] (.tup [.agg (zmV l id).1.row,.one (.int .i64 (zmV l id).2)]):=by
 obtain⟨R,eR⟩:∃R,R=zmV l id:=⟨_,rfl⟩
 rw[←eR]
 unfold zmV at eR
 have k1:=zmn l id (by omega)
 have hmem:=zqM (l:=l) (id:=id)
 generalize hr0:findD l id=r at *
 generalize (zf0 l id).isSome=B at *
 unfold zey at *
 have hz:zm9.row=[.int .i64 0,.str [],.str [],.int .i64 0,.str [],.list 2 [],.list 1 []]:=rfl
 have hrow:∀x:Rec,x.row=[.int .i64 x.kind,.str x.id,.str x.of,.int .i64 x.time,.str x.key,.list 2 (x.heads.map Head.row),za7 x.block]:=fun _=>rfl
 rw[hrow r] at k1
 refine @zab.ofL _ (zwm [5,6,7,26] [18] [(4,[1,1,1,1,1,1,1,0,1,0]),(18,[7,1,1,1,1,1,1,1,1,1,1,1,1,1,1,1,1,1,1,9,0]),(25,[1,1,1,1,1,1,1,1,4,1,0])]) [(6,5),(6,6)] [] _ _ _ _ _ (by simp) mixed (fn:=Tryz.f86) (by kernel_rfl) (by kernel_rfl) rfl (by kernel_rfl) (by simp[Tryz.f86]) (fun hok=>?_)
 simp -implicitDefEqProofs[MARK]
 refine zac.of k1 ?_
 cases B
 ·rw[if_pos (.inl rfl)] at eR
  subst eR
  simp -implicitDefEqProofs[MARK,hz]
 have hrm:=zee (hr r (hmem rfl))
 by_cases hk5:r.kind=5
 ·rw[if_pos (.inr hk5)] at eR
  subst eR
  have hk5':(r.kind=5)=True:=eq_true hk5
  simp -implicitDefEqProofs[MARK,hz,hk5']
 rw[if_neg (by simp[hk5])] at eR
 have hk5':(r.kind=5)=False:=eq_false hk5
 have hh:=hrm.heads30
 have hb:=hrm.block
 have k2:=zmZ r.heads (by omega)
 have k3:=zmW r.block (by omega)
 simp -implicitDefEqProofs[MARK,hk5']
 refine zac.of k2 ?_
 simp -implicitDefEqProofs[MARK]
 refine zac.of k3 ?_
 simp -implicitDefEqProofs[MARK]
 refine zaG.named 6 5 32 1900000 rfl rfl rfl (by decide) rfl (fun v1=>?_)
 refine zaG.named 6 6 35 1900001 rfl rfl rfl (by decide) rfl (fun v2=>?_)
 refine zaG.done ?_
 have k4:=zlq r zgA (by omega)
 have hsp:=zk4 (fun h:Head=>zbd h.name==zgA) r.heads
 have hdI:zBY r.heads zgA=ixI (fun h:Head=>zbd h.name==zgA) r.heads:=rfl
 have hdX:zqR r.heads zgA=r.heads.findIdx? fun h=>zbd h.name==zgA:=rfl
 rw[hdI] at k4
 rw[hdX] at eR
 unfold zgA at k4 hsp eR
 rw[hrow r] at k4
 simp -implicitDefEqProofs[MARK]
 refine zac.named k4 ⟨⟨.inl rfl,.inl rfl,.inl rfl,.inl rfl,.inl rfl,.inr ⟨v1,1900000,_,_,_,rfl,by decide,rfl,rfl⟩,.inr ⟨v2,1900001,_,_,_,rfl,by decide,rfl,rfl⟩,trivial⟩,.inl rfl,trivial⟩ rfl ?_
 simp -implicitDefEqProofs[MARK]
 refine zaG.linked 6 5 32 1900000 rfl rfl rfl rfl rfl ?_
 refine zaG.linked 6 6 35 1900001 rfl rfl rfl rfl rfl ?_
 refine zaG.done ?_
 rcases hsp with⟨e1,e2⟩ | ⟨k,e1,e2,hk⟩
 ·rw[e1]
  rw[e2] at eR
  subst eR
  simp -implicitDefEqProofs[MARK]
  refine zaG.fold 6 5 (zaG.fold 6 6 (zaG.done ?_))
  simp -implicitDefEqProofs[MARK,hrow]
 rw[e1]
 rw[e2] at eR
 have hk0:((k:Int)<0)=False:=eq_false (by omega)
 have hkl:((k:Int)<(r.heads.length:Int))=True:=eq_true (by omega)
 have k5:=ziD r.heads[k].value
 have hgk:r.heads[k]?=some r.heads[k]:=List.getElem?_eq_getElem hk
 have hrowH:∀h:Head,h.row=[.str h.name,.str h.value]:=fun _=>rfl
 dsimp only at eR
 rw[hgk,Option.getD_some] at eR
 have hmany:=zAJ (s:=r.heads[k].value)
 simp -implicitDefEqProofs[MARK,hk0,hkl,hk,hgk,hrowH]
 refine zac.of k5 ?_
 generalize zBr r.heads[k].value=M at *
 by_cases hM:M<2
 ·rw[if_pos hM] at eR
  subst eR
  have hM':((M:Int)<2)=True:=eq_true (by omega)
  simp -implicitDefEqProofs[MARK,hM',hz]
 rw[if_neg hM] at eR
 have hM':((M:Int)<2)=False:=eq_false (by omega)
 have hwk:IntKind.i64.wrap ((k:Int)+1)=(k:Int)+1:=zaq _ (by omega)
 have k6:=zlz r.heads k hk (by omega)
 simp -implicitDefEqProofs[MARK,hM',hwk]
 refine zac.zV9 ?_
 simp -implicitDefEqProofs[MARK]
 refine zb0.of k6 ?_
 simp -implicitDefEqProofs[MARK]
 obtain⟨hs,ehs⟩:∃hs,hs=r.heads.take k++r.heads.drop (k+1):=⟨_,rfl⟩
 rw[←ehs] at eR
 have ehs':List.map Head.row (r.heads.take k)++List.map Head.row (r.heads.drop (k+1))=hs.map Head.row:=by rw[ehs,List.map_append]
 refine zaK.of (Nat×List PE) (fun x=>[(0,.x (.one (.list 7 (l.map Rec.row)))),(1,.x (.one (.str id))),(4,.box [.int .i64 0,.str [],.str [],.int .i64 0,.str [],.nil,.nil]),(6,.box [.int .i64 r.kind,.str r.id,.str r.of,.int .i64 r.time,.str r.key,.any,.any]),
   (9,.x (.one (.int .i64 M))),(10,.mp x.2.length (List.range x.2.length) (zt6 x.2)),(35,.own 5 1 (zad r.block)),(58,.own 84 2 (hs.map Head.row)),(61,.x (.one (.list 7 (l.map Rec.row)))),(62,.x (.one (.int .i64 l.length))),(63,.x (.one (.int .i64 x.1))),
   (999999,.res [(6,5),(6,6)]),(1006005,.link 6 5 58),(1006006,.link 6 6 35)]++zyc 2000000 55 7 (zrE x.2) 0)
  (fun x=>x.1≤l.length∧PEs r id (l.take x.1) x.2∧x.2.length≤x.1) (fun x=>l.length-x.1) (0,[]) ⟨Nat.zero_le _,PEs.nil r id,Nat.le_refl _⟩ ?_ ?_
 ·simp[zt6,zrE,zyc,ehs]
 rintro⟨i,D⟩ ⟨hi,hD,hDl⟩
 dsimp only at hi hD hDl ⊢
 by_cases hlt:i<l.length
 ·have hlt':((i:Int)<(l.length:Int))=True:=eq_true (by omega)
  have hwr:IntKind.i64.wrap ((i:Int)+1)=(i:Int)+1:=zaq _ (by omega)
  have hxr:=zee (hr l[i] (List.getElem_mem hlt))
  have htake:l.take (i+1)=l.take i++[l[i]]:=List.take_succ_eq_append_getElem hlt
  have hgl:l[i]?=some l[i]:=List.getElem?_eq_getElem hlt
  have hrow':=hrow l[i]
  have k7:=zlq l[i] zl3 (by have:=hxr.heads30;omega)
  rw[hrow'] at k7
  unfold zl3 at k7
  simp -implicitDefEqProofs[MARK,hlt,hlt',hrow']
  refine zac.of k7 ?_
  have hsp:=zk4 (fun h:Head=>zbd h.name==[110,117,109,98,101,114]) l[i].heads
  have hdX7:zqR l[i].heads zl3=l[i].heads.findIdx? fun h=>zbd h.name==[110,117,109,98,101,114]:=rfl
  have hdI7:zBY l[i].heads [110,117,109,98,101,114]=ixI (fun h=>zbd h.name==[110,117,109,98,101,114]) l[i].heads:=rfl
  rw[hdI7]
  by_cases c1:l[i].kind=5
  rotate_left
  ·have c1':(l[i].kind=5)=False:=eq_false c1
   have hp:zc3 r id l[i]=false:=by unfold zc3;rw[beq_eq_false_iff_ne.2 c1,Bool.false_and]
   simp -implicitDefEqProofs[MARK,c1']
   refine zaz.of (i+1,D) ⟨hlt,by rw[htake];exact hD.skip hp,Nat.le_succ_of_le hDl⟩ (by simp only;omega) ?_
   simp[hwr]
   exact zcM fun j y hj=>by have h:=zb2 (G:=2000000) (e:=55) (z:=7) (k:=0) hj;rw[Nat.zero_add] at h;simp[h,zdn]
  have c1':(l[i].kind=5)=True:=eq_true c1
  by_cases c2:l[i].of=id
  rotate_left
  ·have c2':(l[i].of=id)=False:=eq_false c2
   have hp:zc3 r id l[i]=false:=by unfold zc3;rw[beq_eq_false_iff_ne.2 c2,Bool.false_and,Bool.and_false]
   simp -implicitDefEqProofs[MARK,c1',c2']
   refine zaz.of (i+1,D) ⟨hlt,by rw[htake];exact hD.skip hp,Nat.le_succ_of_le hDl⟩ (by simp only;omega) ?_
   simp[hwr]
   exact zcM fun j y hj=>by have h:=zb2 (G:=2000000) (e:=55) (z:=7) (k:=0) hj;rw[Nat.zero_add] at h;simp[h,zdn]
  have c2':(l[i].of=id)=True:=eq_true c2
  rcases hsp with⟨f1,f2⟩ | ⟨m,f1,f2,hm⟩
  ·rw[f1]
   have hp:zc3 r id l[i]=false:=by unfold zc3;rw[hdX7,f2];simp
   simp -implicitDefEqProofs[MARK,c1',c2']
   refine zaz.of (i+1,D) ⟨hlt,by rw[htake];exact hD.skip hp,Nat.le_succ_of_le hDl⟩ (by simp only;omega) ?_
   simp[hwr]
   exact zcM fun j y hj=>by have h:=zb2 (G:=2000000) (e:=55) (z:=7) (k:=0) hj;rw[Nat.zero_add] at h;simp[h,zdn]
  rw[f1]
  have hm0:(0≤(m:Int))=True:=eq_true (by omega)
  by_cases c3:l[i].time=r.time
  rotate_left
  ·have c3':(l[i].time=r.time)=False:=eq_false c3
   have hp:zc3 r id l[i]=false:=by unfold zc3;rw[beq_eq_false_iff_ne.2 c3];simp
   simp -implicitDefEqProofs[MARK,c1',c2',hm0,c3']
   refine zaz.of (i+1,D) ⟨hlt,by rw[htake];exact hD.skip hp,Nat.le_succ_of_le hDl⟩ (by simp only;omega) ?_
   simp[hwr]
   exact zcM fun j y hj=>by have h:=zb2 (G:=2000000) (e:=55) (z:=7) (k:=0) hj;rw[Nat.zero_add] at h;simp[h,zdn]
  have c3':(l[i].time=r.time)=True:=eq_true c3
  by_cases c4:l[i].key=r.key
  rotate_left
  ·have c4':(l[i].key=r.key)=False:=eq_false c4
   have hp:zc3 r id l[i]=false:=by unfold zc3;rw[beq_eq_false_iff_ne.2 c4];simp
   simp -implicitDefEqProofs[MARK,c1',c2',hm0,c3',c4']
   refine zaz.of (i+1,D) ⟨hlt,by rw[htake];exact hD.skip hp,Nat.le_succ_of_le hDl⟩ (by simp only;omega) ?_
   simp[hwr]
   exact zcM fun j y hj=>by have h:=zb2 (G:=2000000) (e:=55) (z:=7) (k:=0) hj;rw[Nat.zero_add] at h;simp[h,zdn]
  have c4':(l[i].key=r.key)=True:=eq_true c4
  have hp:zc3 r id l[i]=true:=by unfold zc3;rw[hdX7,f2];simp[c1,c2,c3,c4]
  have hml:((m:Int)<(l[i].heads.length:Int))=True:=eq_true (by omega)
  have hgm:l[i].heads[m]?=some l[i].heads[m]:=List.getElem?_eq_getElem hm
  have hpn:zln l[i]=zBr l[i].heads[m].value:=by unfold zln;rw[hdX7,f2];simp[hgm]
  have k8:=ziD l[i].heads[m].value
  rw[←hpn] at k8
  simp -implicitDefEqProofs[MARK,c1',c2',hm0,c3',c4',hml,hm,hgm,hrowH]
  refine zac.of k8 ?_
  simp -implicitDefEqProofs[MARK,hml,hm,hgm,hrowH]
  refine zac.of k8 ?_
  have hfk:=zrh (zln l[i]) D (fun d=>.one (.atom d.v)) 0
  have hfk0:zt6 D=D.map fun d=>(.one (.int .i64 d.key),.one (.atom d.v)):=rfl
  rw[←hfk0] at hfk
  cases hfi:D.findIdx? fun d=>d.key==zln l[i] with
  |none =>
   rw[hfi] at hfk
   have hnin:zln l[i]∉D.map PE.key:=by
    rw[List.findIdx?_eq_none_iff] at hfi
    intro h
    obtain⟨d,hd,e⟩:=List.mem_map.1 h
    have:=hfi d hd
    rw[e] at this;simp at this
   have hgl2:(zrE D).length=D.length:=by simp[zrE]
   simp -implicitDefEqProofs[MARK,hfk,hrow']
   refine zrO.of 115 (2000000+D.length) rfl (by have:Tryz.f86.ntmps=145:=rfl;omega) (by simp[zdn,ztS,hgl2]) (fun v=>?_)
   simp -implicitDefEqProofs[MARK,hfk,zdn,zep]
   refine zaz.of (i+1,D++[⟨zln l[i],v,[l[i]]⟩]) ⟨hlt,by rw[htake];exact hD.add hp hnin v,by simp;omega⟩ (by simp only;omega) ?_
   simp[hwr,zdn,zep,zt6,List.range_succ]
   refine zcM fun j y hj=>?_
   rw[Nat.zero_add]
   by_cases hjl:j<D.length
   ·have hj':(zrE D)[j]?=some y:=by
     unfold zrE at hj ⊢
     rw[List.map_append,List.getElem?_append_left (by simpa using hjl)] at hj
     exact hj
    have h:=zb2 (G:=2000000) (e:=55) (z:=7) (k:=0) hj'
    rw[Nat.zero_add] at h
    have hne:(j=D.length)=False:=eq_false (by omega)
    simp[h,zdn,zep,hne]
   ·have hj2:j=D.length:=by
     have:=(List.getElem?_eq_some_iff.1 hj).1
     simp[zrE] at this
     omega
    subst hj2
    have hy:y=(v,[l[i].row]):=by unfold zrE at hj;simp at hj;exact hj.symm
    subst hy
    simp[zdn,zep,hrow']
  |some j =>
   rw[hfi] at hfk
   obtain⟨hj,hkey,_⟩:=List.findIdx?_eq_some_iff_getElem.1 hfi
   have hkey':D[j].key=zln l[i]:=by simpa using hkey
   have hfe:(zt6 D)[j]?=some (.one (.int .i64 D[j].key),.one (.atom D[j].v)):=by unfold zt6;rw[List.getElem?_map,List.getElem?_eq_getElem hj];rfl
   have hge:(zrE D)[j]?=some (D[j].v,D[j].recs.map Rec.row):=by unfold zrE;rw[List.getElem?_map,List.getElem?_eq_getElem hj];rfl
   have hgow:=zb2 (G:=2000000) (e:=55) (z:=7) (k:=0) hge
   rw[Nat.zero_add] at hgow
   dsimp only at hgow
   have hlen:D[j].recs.length≤1000:=by
    rw[hD.recs D[j] (List.getElem_mem hj)]
    unfold znb
    have:=List.length_filter_le (fun x=>zc3 r id x&&zln x==D[j].key) (l.take i)
    have h2:(l.take i).length≤l.length:=by rw[List.length_take];omega
    omega
   simp -implicitDefEqProofs[MARK,hfk,hfe,hrow']
   refine zxZ (2000000+j) 55 7 (D[j].recs.map Rec.row) (by have:Tryz.f86.ntmps=145:=rfl;omega) (by simp[hgow,zdn,zep]) ?_
   simp -implicitDefEqProofs[MARK,hfk,hfe,hrow',hgow,zdn,zep]
   refine⟨⟨by omega,by unfold maxLen;omega⟩,?_⟩
   refine zrO.of 115 (2000000+j) rfl (by have:Tryz.f86.ntmps=145:=rfl;omega) (by simp[zdn,zep]) (fun v=>?_)
   simp -implicitDefEqProofs[MARK,hfk,hfe,zdn,zep]
   refine zaz.of (i+1,D.set j ⟨zln l[i],v,D[j].recs++[l[i]]⟩) ⟨hlt,by rw[htake];exact hD.grow hp hj hkey' v,by simp;omega⟩ (by simp only;omega) ?_
   have hmp:zt6 (D.set j ⟨zln l[i],v,D[j].recs++[l[i]]⟩)=(zt6 D).set j (.one (.int .i64 D[j].key),.one (.atom v)):=by unfold zt6;rw[List.map_set,hkey']
   simp[hwr,zdn,zep,hmp]
   refine⟨by rw[hkey'],?_⟩
   refine zcM fun m y hm=>?_
   rw[Nat.zero_add]
   by_cases hmj:m=j
   ·subst hmj
    have hy:y=(v,(D[m].recs++[l[i]]).map Rec.row):=by
     unfold zrE at hm
     rw[List.getElem?_map,List.getElem?_set_self hj] at hm
     exact(Option.some.inj hm).symm
    subst hy
    simp[zdn,zep,hrow']
   ·have hm':(zrE D)[m]?=some y:=by
     unfold zrE at hm ⊢
     rw[List.getElem?_map,List.getElem?_set_ne (fun h=>hmj h.symm),←List.getElem?_map] at hm
     exact hm
    have h:=zb2 (G:=2000000) (e:=55) (z:=7) (k:=0) hm'
    rw[Nat.zero_add] at h
    have hne:(m=j)=False:=eq_false hmj
    simp[h,zdn,zep,hne]
 ·have hlt':((i:Int)<(l.length:Int))=False:=eq_false (by omega)
  have hie:i=l.length:=by omega
  subst hie
  rw[List.take_length] at hD
  simp -implicitDefEqProofs[MARK,hlt']
  obtain⟨PC,ePC⟩:∃PC,PC=znb l r id:=⟨_,rfl⟩
  rw[←ePC] at eR
  refine zaK.ofG 10 (c:=D.length) (bs:=List.range D.length) (es:=zt6 D) (zF9 D) (Nat×List UInt8) (zdI l id r hs M D) (fun x=>(2≤x.1∧x.1≤M+1∧x.2.length≤200000*x.1)∧R=zyk r hs PC (M+1-x.1) x.1 x.2) (fun x=>M+1-x.1) (2,r.block) ⟨⟨by simp,by simp only;omega,by simp only;omega⟩,by rw[eR];rfl⟩ (by simp) ⟨by simp[zt6,zF9],?_⟩ ?_ ?_
  ·intro j x y hx hy
   have hj:j<D.length:=by
    have:=(List.getElem?_eq_some_iff.1 hx).1
    simpa[zt6] using this
   unfold zt6 at hx
   unfold zF9 at hy
   rw[List.getElem?_map,List.getElem?_eq_getElem hj] at hx hy
   have hx':=(Option.some.inj hx).symm
   have hy':=(Option.some.inj hy).symm
   subst hx' hy'
   have hge:(zrE D)[j]?=some (D[j].v,D[j].recs.map Rec.row):=by unfold zrE;rw[List.getElem?_map,List.getElem?_eq_getElem hj];rfl
   have hgow:=zb2 (G:=2000000) (e:=55) (z:=7) (k:=0) hge
   rw[Nat.zero_add] at hgow
   dsimp only at hgow
   exact⟨rfl,.inr ⟨D[j].v,2000000+j,55,7,_,rfl,by simp[hgow,zdn],rfl⟩⟩
  ·unfold zdI
   rw[if_pos rfl]
   simp
  rintro⟨n,b⟩ ⟨⟨hn2,hnM,hbl⟩,hR⟩
  dsimp only at hn2 hnM hbl hR ⊢
  have hfk:=zrh n D (fun d=>.one (.list 7 (d.recs.map Rec.row))) 0
  have hfk0:zF9 D=D.map fun d=>(.one (.int .i64 d.key),.one (.list 7 (d.recs.map Rec.row))):=rfl
  rw[←hfk0] at hfk
  have hwn:IntKind.i64.wrap ((n:Int)+1)=((n+1:Nat):Int):=by rw[zaq _ (by omega)];omega
  by_cases hnM':n≤M
  ·have hle:((n:Int)≤(M:Int))=True:=eq_true (by omega)
   have hfu:M+1-n=(M-n)+1:=by omega
   rw[hfu] at hR
   unfold zyk at hR
   cases hfi:D.findIdx? fun d=>d.key==n with
   |none =>
    rw[hfi] at hfk
    have hp0:PC n=[]:=by
     rw[ePC]
     unfold znb
     rw[List.filter_eq_nil_iff]
     intro x hx hx'
     simp only[Bool.and_eq_true,beq_iff_eq] at hx'
     have:=hD.all x hx hx'.1
     obtain⟨d,hd,e⟩:=List.mem_map.1 this
     rw[List.findIdx?_eq_none_iff] at hfi
     have h2:=hfi d hd
     rw[e,hx'.2] at h2
     simp at h2
    rw[hp0,if_pos (by simp)] at hR
    subst hR
    unfold zdI
    by_cases h2:n=2
    ·rw[if_pos h2]
     simp -implicitDefEqProofs[MARK,hle,hfk,hz]
    ·rw[if_neg h2]
     simp -implicitDefEqProofs[MARK,hle,hfk,hz]
   |some j =>
    rw[hfi] at hfk
    obtain⟨hj,hkey,_⟩:=List.findIdx?_eq_some_iff_getElem.1 hfi
    have hkey':D[j].key=n:=by simpa using hkey
    have hfe:(zF9 D)[j]?=some (.one (.int .i64 D[j].key),.one (.list 7 (D[j].recs.map Rec.row))):=by unfold zF9;rw[List.getElem?_map,List.getElem?_eq_getElem hj];rfl
    have hrc:D[j].recs=PC n:=by rw[hD.recs D[j] (List.getElem_mem hj),hkey',ePC]
    have hlen:(PC n).length≤l.length:=by rw[ePC];exact List.length_filter_le _ _
    by_cases h1:(PC n).length=1
    ·rw[if_neg (by simp[h1])] at hR
     obtain⟨x,hx⟩:=List.length_eq_one_iff.1 h1
     have hxl:x∈l:=by
      have:x∈PC n:=by rw[hx];simp
      rw[ePC] at this
      exact(List.mem_filter.1 this).1
     have hxb:=(zee (hr x hxl)).block
     rw[hx] at hrc hR
     rw[hrc] at hfe
     unfold zdI
     by_cases h2:n=2
     ·rw[if_pos h2]
      simp -implicitDefEqProofs[MARK,hle,hfk,hfe,hrow]
      refine⟨by unfold maxLen;omega,?_⟩
      refine zaz.of (n+1,b++x.block) ⟨⟨by simp only;omega,by simp only;omega,by simp only[List.length_append];omega⟩,by rw[hR];simp only[List.headD_cons];congr 1;omega⟩ (by simp only;omega) ?_
      have hn1:(n+1=2)=False:=eq_false (by omega)
      simp[zdI,hn1,hwn,zc5]
     ·rw[if_neg h2]
      simp -implicitDefEqProofs[MARK,hle,hfk,hfe,hrow]
      refine⟨by unfold maxLen;omega,?_⟩
      refine zaz.of (n+1,b++x.block) ⟨⟨by simp only;omega,by simp only;omega,by simp only[List.length_append];omega⟩,by rw[hR];simp only[List.headD_cons];congr 1;omega⟩ (by simp only;omega) ?_
      have hn1:(n+1=2)=False:=eq_false (by omega)
      simp[zdI,hn1,hwn,zc5]
    ·rw[if_pos h1] at hR
     subst hR
     rw[hrc] at hfe
     have h1':(((PC n).length:Int)=1)=False:=eq_false (by omega)
     unfold zdI
     by_cases h2:n=2
     ·rw[if_pos h2]
      simp -implicitDefEqProofs[MARK,hle,hfk,hfe,h1',hz]
     ·rw[if_neg h2]
      simp -implicitDefEqProofs[MARK,hle,hfk,hfe,h1',hz]
  ·have hle:((n:Int)≤(M:Int))=False:=eq_false (by omega)
   have hfu:M+1-n=0:=by omega
   rw[hfu] at hR
   unfold zyk at hR
   unfold zdI
   by_cases h2:n=2
   ·rw[if_pos h2]
    simp -implicitDefEqProofs[MARK,hle]
    refine zaG.fold 6 5 (zaG.fold 6 6 (zaG.done ?_))
    have k9:=zb6 { r with heads:=hs,block:=b }
    rw[hrow] at k9
    simp -implicitDefEqProofs[MARK]
    refine zac.of k9 ?_
    generalize zlx { r with heads:=hs,block:=b }=F at *
    by_cases hF:F=0
    ·rw[if_neg (by simp[hF])] at hR
     subst hR hF
     simp -implicitDefEqProofs[MARK,hz,hrow]
    ·rw[if_pos hF] at hR
     subst hR
     have hF':(F=0)=False:=eq_false hF
     simp -implicitDefEqProofs[MARK,hz,hF']
   ·rw[if_neg h2]
    simp -implicitDefEqProofs[MARK,hle]
    refine zaG.fold 6 5 (zaG.fold 6 6 (zaG.done ?_))
    have k9:=zb6 { r with heads:=hs,block:=b }
    rw[hrow] at k9
    simp -implicitDefEqProofs[MARK]
    refine zac.of k9 ?_
    generalize zlx { r with heads:=hs,block:=b }=F at *
    by_cases hF:F=0
    ·rw[if_neg (by simp[hF])] at hR
     subst hR hF
     simp -implicitDefEqProofs[MARK,hz,hrow]
    ·rw[if_pos hF] at hR
     subst hR
     have hF':(F=0)=False:=eq_false hF
     simp -implicitDefEqProofs[MARK,hz,hF']
theorem zjb{α:Type}[DecidableEq α]:∀{l m:List α},l.Nodup→(∀x∈l,x∈m)→l.length≤m.length
 |[],_,_,_=>Nat.zero_le _
 |x::l,m,hn,hs=>by
  rw[List.nodup_cons] at hn
  have h1:=zjb (l:=l) (m:=m.erase x) hn.2 (fun y hy=>by
   have hne:y≠x:=fun e=>hn.1 (e▸hy)
   exact(List.mem_erase_of_ne hne).2 (hs y (List.mem_cons_of_mem _ hy)))
  have hx:x∈m:=hs x (by simp)
  rw[List.length_erase_of_mem hx] at h1
  have:0<m.length:=List.length_pos_of_mem hx
  simp only[List.length_cons]
  omega
theorem ztu:∀{l:List Rec} {seen:List (List UInt8)} {n:Nat},zr7 seen n l=0→∀r∈l,zlx r=0
 |[],_,_,_=>by simp
 |r::l,seen,n,h=>by
  unfold zr7 at h
  split at h
  ·rename_i h1
   exact absurd h h1
  ·rename_i h1
   split at h
   ·cases h
   ·intro x hx
    rcases List.mem_cons.1 hx with rfl | hx
    ·exact Decidable.of_not_not h1
    ·exact ztu h x hx
theorem zla{l:List Rec}(h:zhh l=0):l.length≤1000∧∀r∈l,zlx r=0:=by
 unfold zhh at h
 split at h
 ·cases h
 ·exact⟨by omega,ztu h⟩
def showG(l:List Rec):Nat→List (List UInt8)→List UInt8→List UInt8×Int
 |0,_,_=>([],0)
 |k+1,seen,w =>
  if (zf0 l w).isSome=false then ([],9)
  else if w∈seen then ([],17)
  else if (findD l w).kind=4 then showG l k (seen++[w]) (findD l w).of
  else ((zmV l w).1.block,(zmV l w).2)
def zky(l:List Rec)(w:List UInt8):List UInt8×Int:=if zhh l≠0 then ([],zhh l) else showG l (l.length+1) [] w
theorem zum{l:List Rec}{w:List UInt8}(h:(zf0 l w).isSome=true):w∈l.map Rec.id:=by
 unfold zf0 at h
 cases hf:l.findIdx? fun r=>r.id==w with
 |none=>rw[hf] at h;cases h
 |some i =>
  obtain⟨hi,he,_⟩:=List.findIdx?_eq_some_iff_getElem.1 hf
  exact List.mem_map.2 ⟨l[i],List.getElem_mem hi,by simpa using he⟩
def zgB(l:List Rec)(x:List (List UInt8)×List UInt8):List (Nat×AV):=
 [(0,.x (.one (.list 7 (l.map Rec.row)))),(1,.x (.one (.str x.2)))]++(if x.1=[] then [(7,.own 9 1 (x.1.map fun s=>[CV.str s]))] else [(7,.alias 34),(34,.own 9 1 (x.1.map fun s=>[CV.str s]))])
theorem zqh(l:List Rec)(w:List UInt8)(hl:l.length≤1000000000):zab Tryz.prog 43 [zey l,.one (.str w)] (.tup [.one (za7 (zky l w).1),.one (.int .i64 (zky l w).2)]):=by
 obtain⟨R,eR⟩:∃R,R=zky l w:=⟨_,rfl⟩
 rw[←eR]
 unfold zky at eR
 have k1:=zf9 l
 have hz:zm9.row=[.int .i64 0,.str [],.str [],.int .i64 0,.str [],.list 2 [],.list 1 []]:=rfl
 have hrow:∀x:Rec,x.row=[.int .i64 x.kind,.str x.id,.str x.of,.int .i64 x.time,.str x.key,.list 2 (x.heads.map Head.row),za7 x.block]:=fun _=>rfl
 unfold zey at *
 refine @zab.of _ (zpP [(11,[1,1,1,4,7,7,1,0])]) _ _ _ _ _ mixed (fn:=Tryz.f43) (by kernel_rfl) (by kernel_rfl) rfl (by kernel_rfl) (by simp[Tryz.f43]) (fun hok=>?_)
 simp -implicitDefEqProofs[MARK]
 refine zac.of k1 ?_
 by_cases h0:zhh l=0
 rotate_left
 ·rw[if_pos h0] at eR
  subst eR
  have h0':(zhh l=0)=False:=eq_false h0
  simp -implicitDefEqProofs[MARK,h0']
 rw[if_neg (by simp[h0])] at eR
 rw[h0]
 obtain⟨hl',hok⟩:=zla h0
 simp -implicitDefEqProofs[MARK]
 refine zaK.of (List (List UInt8)×List UInt8) (zgB l)
  (fun x=>(x.1.Nodup∧∀s∈x.1,s∈l.map Rec.id)∧R=showG l (l.length+1-x.1.length) x.1 x.2) (fun x=>l.length+1-x.1.length) ([],w) ⟨⟨by simp,by simp⟩,eR⟩ ?_ ?_
 ·simp[zgB]
 rintro⟨seen,w⟩ ⟨⟨hnd,hsub⟩,hR⟩
 dsimp only at hnd hsub hR ⊢
 have hlen:=zjb hnd hsub
 rw[List.length_map] at hlen
 obtain⟨n,hn⟩:∃n,n=l.length-seen.length:=⟨_,rfl⟩
 have hfu:l.length+1-seen.length=n+1:=by omega
 rw[hfu] at hR
 unfold showG at hR
 have k2:=zmn l w (by omega)
 rw[hrow (findD l w)] at k2
 have hmem:=zqM (l:=l) (id:=w)
 have hids:=zum (l:=l) (w:=w)
 unfold zey at k2
 generalize findD l w=r at *
 generalize (zf0 l w).isSome=B at *
 unfold zgB
 by_cases h0:seen=[]
 ·subst h0
  rw[if_pos rfl]
  simp -implicitDefEqProofs[MARK]
  refine zac.of k2 ?_
  cases B
  ·rw[if_pos rfl] at hR
   subst hR
   simp -implicitDefEqProofs[MARK]
  rw[if_neg (by decide)] at hR
  have k3:=zcz [] w
  simp -implicitDefEqProofs[MARK]
  refine zac.of k3 ?_
  by_cases hm:w∈([]:List (List UInt8))
  ·rw[if_pos hm] at hR
   subst hR
   have hmd:decide (w∈([]:List (List UInt8)))=true:=decide_eq_true hm
   rw[hmd]
   simp -implicitDefEqProofs[MARK]
  rw[if_neg hm] at hR
  have hmd:decide (w∈([]:List (List UInt8)))=false:=decide_eq_false hm
  rw[hmd]
  by_cases h4:r.kind=4
  ·rw[if_pos h4] at hR
   have h4':(r.kind=4)=True:=eq_true h4
   simp -implicitDefEqProofs[MARK,h4']
   refine zaz.of ([]++[w],r.of) ⟨⟨by rw[List.nodup_append];exact⟨hnd,by simp,fun a ha b hb e=>by rw[List.mem_singleton] at hb;subst hb e;exact hm ha⟩,fun s hs=>(List.mem_append.1 hs).elim (hsub s) fun h=>by rw[List.mem_singleton] at h;subst h;exact hids rfl⟩,by rw[hR];simp only[List.length_append,List.length_singleton];congr 1⟩ (by simp only[List.length_append,List.length_singleton];omega) ?_
   simp[zgB]
  rw[if_neg h4] at hR
  have h4':(r.kind=4)=False:=eq_false h4
  have k4:=ziB l w hl' hok
  rw[hrow (zmV l w).1] at k4
  generalize zmV l w=J at *
  subst hR
  unfold zey at k4
  simp -implicitDefEqProofs[MARK,h4']
  refine zac.of k4 ?_
  simp -implicitDefEqProofs[MARK]
 ·rw[if_neg h0]
  simp -implicitDefEqProofs[MARK]
  refine zac.of k2 ?_
  cases B
  ·rw[if_pos rfl] at hR
   subst hR
   simp -implicitDefEqProofs[MARK]
  rw[if_neg (by decide)] at hR
  have k3:=zcz seen w
  simp -implicitDefEqProofs[MARK]
  refine zac.of k3 ?_
  by_cases hm:w∈seen
  ·rw[if_pos hm] at hR
   subst hR
   have hmd:decide (w∈seen)=true:=decide_eq_true hm
   rw[hmd]
   simp -implicitDefEqProofs[MARK]
  rw[if_neg hm] at hR
  have hmd:decide (w∈seen)=false:=decide_eq_false hm
  rw[hmd]
  by_cases h4:r.kind=4
  ·rw[if_pos h4] at hR
   have h4':(r.kind=4)=True:=eq_true h4
   simp -implicitDefEqProofs[MARK,h4']
   refine⟨⟨by omega,by unfold maxLen;omega⟩,?_⟩
   refine zaz.of (seen++[w],r.of) ⟨⟨by rw[List.nodup_append];exact⟨hnd,by simp,fun a ha b hb e=>by rw[List.mem_singleton] at hb;subst hb e;exact hm ha⟩,fun s hs=>(List.mem_append.1 hs).elim (hsub s) fun h=>by rw[List.mem_singleton] at h;subst h;exact hids rfl⟩,by rw[hR];simp only[List.length_append,List.length_singleton];congr 1;omega⟩ (by simp only[List.length_append,List.length_singleton];omega) ?_
   simp[zgB]
  rw[if_neg h4] at hR
  have h4':(r.kind=4)=False:=eq_false h4
  have k4:=ziB l w hl' hok
  rw[hrow (zmV l w).1] at k4
  generalize zmV l w=J at *
  subst hR
  unfold zey at k4
  simp -implicitDefEqProofs[MARK,h4']
  refine zac.of k4 ?_
  simp -implicitDefEqProofs[MARK]
set_option maxHeartbeats 4000000
def ze2(hs:List Head)(w:List UInt8):List (List UInt8):=(hs.filter fun h=>zbd h.name==w).map Head.value
theorem zAP(hs:List Head)(w:List UInt8):(ze2 hs w).length≤hs.length:=by
 unfold ze2
 rw[List.length_map]
 exact List.length_filter_le _ _
theorem zod(hs:List Head)(w:List UInt8)(h:Head):ze2 (hs++[h]) w=ze2 hs w++(if zbd h.name=w then [h.value] else []):=by
 unfold ze2
 rw[List.filter_append,List.map_append]
 congr 1
 by_cases hh:zbd h.name=w
 ·rw[if_pos hh];simp[hh]
 ·rw[if_neg hh];simp[hh]
theorem zdD(l:List Head)(w:List UInt8)(hl:l.length≤1000000000):zab Tryz.prog 193 [ziE l,.one (.str w)] (.x (strs (ze2 l w))):=by
 refine zab.of mixed (fn:=Tryz.f193) (by kernel_rfl) (by kernel_rfl) rfl (by kernel_rfl) (by simp[Tryz.f193]) (fun hok=>?_)
 simp -implicitDefEqProofs
 refine zaK.of Nat (fun i=>[(1,.x (.one (.str w))),(5,.own 9 1 ((ze2 (l.take i) w).map fun s=>[CV.str s])),(8,.x (.one (.list 2 (l.map Head.row)))),(9,.x (.one (.int .i64 l.length))),(10,.x (.one (.int .i64 i)))]) (fun i=>i≤l.length) (fun i=>l.length-i) 0 (Nat.zero_le _) ?_ ?_
 ·simp[ze2]
 rintro i hi
 by_cases hlt:i<l.length
 ·have hlt':((i:Int)<(l.length:Int))=True:=eq_true (by omega)
  have hwr:IntKind.i64.wrap ((i:Int)+1)=(i:Int)+1:=zaq _ (by omega)
  have hrow:l[i].row=[.str l[i].name,.str l[i].value]:=rfl
  have htake:l.take (i+1)=l.take i++[l[i]]:=List.take_succ_eq_append_getElem hlt
  have hv:(ze2 (l.take i) w).length≤i:=Nat.le_trans (zAP _ _) (by rw[List.length_take];omega)
  simp -implicitDefEqProofs[hlt,hlt',hrow]
  refine zac.of (zdi l[i].name) ?_
  by_cases hh:zbd l[i].name=w
  ·have hh':(zbd l[i].name=w)=True:=eq_true hh
   simp -implicitDefEqProofs[hh']
   refine⟨⟨by omega,by unfold maxLen;omega⟩,?_⟩
   refine zaz.of (i+1) hlt (by omega) ?_
   have hA:ze2 (l.take (i+1)) w=ze2 (l.take i) w++[l[i].value]:=by rw[htake,zod,if_pos hh]
   simp[hwr,hA]
  ·have hh':(zbd l[i].name=w)=False:=eq_false hh
   simp -implicitDefEqProofs[hh']
   refine zaz.of (i+1) hlt (by omega) ?_
   have hA:ze2 (l.take (i+1)) w=ze2 (l.take i) w:=by rw[htake,zod,if_neg hh,List.append_nil]
   simp[hwr,hA]
 ·have hlt':((i:Int)<(l.length:Int))=False:=eq_false (by omega)
  obtain rfl:i=l.length:=by omega
  simp -implicitDefEqProofs[hlt']
def hexV(c:UInt8):Nat:=if 48≤c.toNat∧c.toNat≤57 then c.toNat-48 else if 97≤c.toNat∧c.toNat≤102 then c.toNat-87 else if 65≤c.toNat∧c.toNat≤70 then c.toNat-55 else 16
theorem zIT(c:UInt8):hexV c≤16:=by unfold hexV;split<;>(try split)<;>(try split)<;>omega
theorem zkF(c:UInt8):zab Tryz.prog 258 [zw8 c] (.x (.one (.int .i64 (hexV c)))):=by
 have hc:=c.toNat_lt
 obtain⟨n,hn⟩:∃n,n=c.toNat:=⟨_,rfl⟩
 unfold hexV
 unfold zw8
 rw[←hn] at hc ⊢
 refine zab.of mixed (fn:=Tryz.f258) (by kernel_rfl) (by kernel_rfl) rfl (by kernel_rfl) (by simp[Tryz.f258]) (fun hok=>?_)
 by_cases h1:48≤n∧n≤57
 ·have a1:(48≤(n:Int))=True:=eq_true (by omega)
  have a2:((n:Int)≤57)=True:=eq_true (by omega)
  have a3:IntKind.u8.wrap ((n:Int)-48)=((n-48:Nat):Int):=by simp[IntKind.wrap,IntKind.signed,IntKind.bits];omega
  have a4:IntKind.i64.wrap ((n-48:Nat):Int)=((n-48:Nat):Int):=zaq _ (by omega)
  rw[if_pos h1]
  simp -implicitDefEqProofs[a1,a2,a3,a4]
 rw[if_neg h1]
 have b1:(if 48≤(n:Int) then decide ((n:Int)≤57) else false)=false:=by
  split
  ·rw[decide_eq_false];omega
  ·rfl
 have b2:(decide (48≤(n:Int))&&decide ((n:Int)≤57))=false:=by
  rw[Bool.and_eq_false_iff,decide_eq_false_iff_not,decide_eq_false_iff_not];omega
 have hor1:¬48≤n∨¬n≤57:=by omega
 by_cases h2:97≤n∧n≤102
 ·rw[if_pos h2]
  have a1:(48≤(n:Int))=True:=eq_true (by omega)
  have a2:((n:Int)≤57)=False:=eq_false (by omega)
  have a5:(97≤(n:Int))=True:=eq_true (by omega)
  have a6:((n:Int)≤102)=True:=eq_true (by omega)
  have a3:IntKind.u8.wrap ((n:Int)-97)=((n-97:Nat):Int):=by simp[IntKind.wrap,IntKind.signed,IntKind.bits];omega
  have a4:IntKind.i64.wrap ((n-97:Nat):Int)=((n-97:Nat):Int):=zaq _ (by omega)
  have a7:IntKind.i64.wrap (((n-97:Nat):Int)+10)=((n-87:Nat):Int):=by rw[zaq _ (by omega)];omega
  simp -implicitDefEqProofs[a1,a2,a3,a4,a5,a6,a7]
 rw[if_neg h2]
 by_cases h3:65≤n∧n≤70
 ·rw[if_pos h3]
  have a1:(48≤(n:Int))=True:=eq_true (by omega)
  have a2:((n:Int)≤57)=False:=eq_false (by omega)
  have a5:(97≤(n:Int))=False:=eq_false (by omega)
  have a6:(65≤(n:Int))=True:=eq_true (by omega)
  have a8:((n:Int)≤70)=True:=eq_true (by omega)
  have a3:IntKind.u8.wrap ((n:Int)-65)=((n-65:Nat):Int):=by simp[IntKind.wrap,IntKind.signed,IntKind.bits];omega
  have a4:IntKind.i64.wrap ((n-65:Nat):Int)=((n-65:Nat):Int):=zaq _ (by omega)
  have a7:IntKind.i64.wrap (((n-65:Nat):Int)+10)=((n-55:Nat):Int):=by rw[zaq _ (by omega)];omega
  simp -implicitDefEqProofs[a1,a2,a3,a4,a5,a6,a7,a8]
 rw[if_neg h3]
 by_cases c1:48≤n<;>by_cases c2:n≤57<;>by_cases c3:97≤n<;>by_cases c4:n≤102<;>by_cases c5:65≤n<;>by_cases c6:n≤70<;>first
   |(exfalso;omega)
   |(have d1:(48≤(n:Int))=(48≤n):=by apply propext;omega
     have d2:((n:Int)≤57)=(n≤57):=by apply propext;omega
     have d3:(97≤(n:Int))=(97≤n):=by apply propext;omega
     have d4:((n:Int)≤102)=(n≤102):=by apply propext;omega
     have d5:(65≤(n:Int))=(65≤n):=by apply propext;omega
     have d6:((n:Int)≤70)=(n≤70):=by apply propext;omega
     simp -implicitDefEqProofs[d1,d2,d3,d4,d5,d6,c1,c2,c3,c4,c5,c6])
def zmT:List UInt8→List UInt8→Nat
 |_,[]=>0
 |[],_::_=>1
 |c::b,d::w=>if c=d then zmT b w else 2
theorem zgs(b:List UInt8)(w:List UInt8)(hb:b.length≤1000000000)(hw:w.length≤1000):zab Tryz.prog 259 [.one (za7 b),.one (.str w)] (.x (.one (.int .i64 (zmT b w)))):=by
 have hRl:=zbs b
 obtain⟨F,eF⟩:∃F,F=zmT b w:=⟨_,rfl⟩
 rw[←eF]
 refine zab.of mixed (fn:=Tryz.f259) (by kernel_rfl) (by kernel_rfl) rfl (by kernel_rfl) (by simp[Tryz.f259]) (fun hok=>?_)
 simp -implicitDefEqProofs
 refine zaK.of Nat (fun i=>[(0,.x (.one (za7 b))),(1,.x (.one (.str w))),(6,.x (.one (.str w))),(7,.x (.one (.int .i64 w.length))),(8,.x (.one (.int .i64 i)))])
  (fun i=>i≤w.length∧i≤b.length∧F=zmT (b.drop i) (w.drop i)) (fun i=>w.length-i) 0 ⟨Nat.zero_le _,Nat.zero_le _,eF⟩ ?_ ?_
 ·simp
 rintro i ⟨hi,hib,hF⟩
 by_cases hlt:i<w.length
 ·have hlt':((i:Int)<(w.length:Int))=True:=eq_true (by omega)
  have hwr:IntKind.i64.wrap ((i:Int)+1)=(i:Int)+1:=zaq _ (by omega)
  rw[List.drop_eq_getElem_cons hlt] at hF
  by_cases hbl:i<b.length
  ·have hbl':((b.length:Int)≤(i:Int))=False:=eq_false (by omega)
   rw[List.drop_eq_getElem_cons hbl] at hF
   unfold zmT at hF
   have hat:∀h,(zad b)[i]'h=[.int .u8 b[i].toNat]:=fun h=>by simp[zad,byteRow]
   have hgw:w[i]?=some w[i]:=List.getElem?_eq_getElem hlt
   by_cases hc:b[i]=w[i]
   ·rw[if_pos hc] at hF
    have hcn2:((b[i].toNat:Int)=(w[i].toNat:Int))=True:=eq_true (by rw[hc])
    simp -implicitDefEqProofs[hRl,hlt,hlt',hbl,hbl',hat,hgw,hcn2]
    refine zaz.of (i+1) ⟨hlt,hbl,hF⟩ (by omega) ?_
    simp[hwr]
   ·rw[if_neg hc] at hF
    subst hF
    have hcn2:((b[i].toNat:Int)=(w[i].toNat:Int))=False:=eq_false fun h=>hc (UInt8.toNat_inj.1 (by omega))
    simp -implicitDefEqProofs[hRl,hlt,hlt',hbl,hbl',hat,hgw,hcn2]
  ·have hbl':((b.length:Int)≤(i:Int))=True:=eq_true (by omega)
   have:b.drop i=[]:=List.drop_eq_nil_of_le (by omega)
   rw[this] at hF
   unfold zmT at hF
   subst hF
   simp -implicitDefEqProofs[hRl,hlt,hlt',hbl']
 ·have hlt':((i:Int)<(w.length:Int))=False:=eq_false (by omega)
  have:w.drop i=[]:=List.drop_eq_nil_of_le (by omega)
  rw[this] at hF
  have hF0:zmT (b.drop i) []=0:=by cases b.drop i<;>rfl
  rw[hF0] at hF
  subst hF
  simp -implicitDefEqProofs[hlt']
def zmz:List UInt8:=[99,111,100,105,110,103]
def zs5:List UInt8:=[99,104,117,110,107,101,100]
def lenV(v:List UInt8):Nat:=if 9<v.length then 200001 else min (ze7 v) 200001
def zrL(hs:List Head):Nat×Bool:=match ze2 hs lengthS with
 |[v]=>if zpV 1000 v=true then (lenV v,true) else (0,false)
 |_=>(0,false)
theorem zhB(l:List Head)(hl:l.length≤1000000000):zab Tryz.prog 112 [ziE l] (.tup [.one (.int .i64 (zrL l).1),.one (.bool (zrL l).2)]):=by
 have k:=zdD l lengthS hl
 unfold zrL
 generalize ze2 l lengthS=V at *
 unfold lengthS at k
 refine zab.of mixed (fn:=Tryz.f112) (by kernel_rfl) (by kernel_rfl) rfl (by kernel_rfl) (by simp[Tryz.f112]) (fun hok=>?_)
 simp -implicitDefEqProofs
 refine zac.of k ?_
 match V with
 |[] =>
  simp -implicitDefEqProofs
  refine zah.of (fun h=>by cases h) (r:=.x (.one (.bool false))) rfl ?_
  simp -implicitDefEqProofs
 |[v] =>
  have k2:=zcX 1000 (by omega) v
  dsimp only
  simp -implicitDefEqProofs
  refine zah.of (fun _=>k2) rfl ?_
  cases h:zpV 1000 v
  ·simp -implicitDefEqProofs
  ·obtain⟨h1,h2,h3⟩:=zfu h
   unfold lenV
   by_cases h9:9<v.length
   ·have h9':(9<(v.length:Int))=True:=eq_true (by omega)
    rw[if_pos rfl,if_pos h9]
    simp -implicitDefEqProofs[h9']
   ·have h9':(9<(v.length:Int))=False:=eq_false (by omega)
    rw[if_pos rfl,if_neg h9]
    have k3:=zc1 v _ (by omega) h1
    simp -implicitDefEqProofs[h9']
    refine zac.of k3 ?_
    simp -implicitDefEqProofs
    omega
 |a::b::r =>
  dsimp only
  have h1:((r.length:Int)+1+1=1)=False:=eq_false (by omega)
  simp -implicitDefEqProofs[h1]
  refine zah.of (fun h=>by cases h) (r:=.x (.one (.bool false))) rfl ?_
  simp -implicitDefEqProofs
structure Ans where
 st:Int
 re:List UInt8
 hs:List Head
 ct:List UInt8
def Ans.row(a:Ans):List CV:=[.int .i64 a.st,.str a.re,.list 2 (a.hs.map Head.row),za7 a.ct]
def zsf:Ans:=⟨0,[],[],[]⟩
def zQd(a:Ans):Int:=if a.st<100∨599<a.st then 1 else if zsk a.re=false then 3 else zd0 a.hs
theorem zkM(a:Ans):zab Tryz.prog 113 [.agg a.row] (.x (.one (.int .i64 (zQd a)))):=by
 have hrow:a.row=[.int .i64 a.st,.str a.re,.list 2 (a.hs.map Head.row),za7 a.ct]:=rfl
 rw[hrow]
 unfold zQd
 refine zab.of mixed (fn:=Tryz.f113) (by kernel_rfl) (by kernel_rfl) rfl (by kernel_rfl) (by simp[Tryz.f113]) (fun hok=>?_)
 have k1:=zgM a.re
 have k2:=zdf a.hs
 by_cases c1:a.st<100
 ·have c1':(a.st<100)=True:=eq_true c1
  rw[if_pos (.inl c1)]
  simp -implicitDefEqProofs[c1']
 have c1':(a.st<100)=False:=eq_false c1
 by_cases c2:599<a.st
 ·have c2':(599<a.st)=True:=eq_true c2
  rw[if_pos (.inr c2)]
  simp -implicitDefEqProofs[c1',c2']
 have c2':(599<a.st)=False:=eq_false c2
 rw[if_neg (by omega)]
 simp -implicitDefEqProofs[c1',c2']
 refine zac.of k1 ?_
 cases zsk a.re
 ·simp -implicitDefEqProofs
 ·simp -implicitDefEqProofs
  refine zac.of k2 ?_
  simp -implicitDefEqProofs
def zf1(a:Ans):Int:=
 if a.st<200∨a.st=204∨a.st=304 then 1
 else if ze2 a.hs zmz=[zs5] then 3
 else if 0<(ze2 a.hs zmz).length then 0
 else if (ze2 a.hs lengthS).length=0 then 4
 else if (zrL a.hs).2=true then 2 else 0
theorem zmu(a:Ans)(hl:a.hs.length≤1000000000):zab Tryz.prog 114 [.agg a.row] (.x (.one (.int .i64 (zf1 a)))):=by
 have hrow:a.row=[.int .i64 a.st,.str a.re,.list 2 (a.hs.map Head.row),za7 a.ct]:=rfl
 obtain⟨F,eF⟩:∃F,F=zf1 a:=⟨_,rfl⟩
 rw[hrow,←eF]
 clear hrow
 obtain⟨st,re,hs,ct⟩:=a
 dsimp only at hl ⊢
 have k1:=zdD hs zmz hl
 have k2:=zdD hs lengthS hl
 have k3:=zhB hs hl
 unfold zf1 at eF
 dsimp only at eF
 generalize ze2 hs zmz=C at *
 generalize ze2 hs lengthS=L at *
 generalize zrL hs=N at *
 obtain⟨N1,N2⟩:=N
 unfold zmz at k1
 unfold lengthS at k2
 dsimp only at k3 eF
 refine zab.of mixed (fn:=Tryz.f114) (by kernel_rfl) (by kernel_rfl) rfl (by kernel_rfl) (by simp[Tryz.f114]) (fun hok=>?_)
 simp -implicitDefEqProofs
 refine zac.of k1 ?_
 simp -implicitDefEqProofs
 refine zac.of k2 ?_
 by_cases c1:st<200
 ·have c1':(st<200)=True:=eq_true c1
  rw[if_pos (.inl c1)] at eF
  subst eF
  simp -implicitDefEqProofs[c1']
 have c1':(st<200)=False:=eq_false c1
 by_cases c2:st=204
 ·rw[if_pos (.inr (.inl c2))] at eF
  subst eF c2
  simp -implicitDefEqProofs
 have c2':(st=204)=False:=eq_false c2
 by_cases c3:st=304
 ·rw[if_pos (.inr (.inr c3))] at eF
  subst eF c3
  simp -implicitDefEqProofs
 have c3':(st=304)=False:=eq_false c3
 rw[if_neg (by omega)] at eF
 match C with
 |[] =>
  rw[if_neg (by simp),if_neg (by simp)] at eF
  cases L with
  |nil =>
   rw[if_pos (by simp)] at eF
   subst eF
   simp -implicitDefEqProofs[c1',c2',c3']
  |cons p q =>
   rw[if_neg (by simp)] at eF
   have h':((q.length:Int)+1=0)=False:=eq_false (by omega)
   simp -implicitDefEqProofs[c1',c2',c3',h']
   refine zac.of k3 ?_
   cases N2
   ·rw[if_neg (by decide)] at eF
    subst eF
    simp -implicitDefEqProofs
   ·rw[if_pos rfl] at eF
    subst eF
    simp -implicitDefEqProofs
 |[p] =>
  by_cases h:p=zs5
  ·rw[if_pos (by rw[h])] at eF
   subst eF
   have h':(p=[99,104,117,110,107,101,100])=True:=eq_true h
   simp -implicitDefEqProofs[c1',c2',c3',h']
  ·rw[if_neg (by simpa using h),if_pos (by simp)] at eF
   subst eF
   have h':(p=[99,104,117,110,107,101,100])=False:=eq_false h
   simp -implicitDefEqProofs[c1',c2',c3',h']
 |p::q::r =>
  rw[if_neg (by simp),if_pos (by simp)] at eF
  subst eF
  have h1:((r.length:Int)+1+1=1)=False:=eq_false (by omega)
  have h2:(0<(r.length:Int)+1+1)=True:=eq_true (by omega)
  simp -implicitDefEqProofs[c1',c2',c3',h1,h2]
def rhG(b:List UInt8):Nat→List Head→Nat→List Head×Nat×Bool
 |0,_,_=>([],b.length,false)
 |k+1,acc,a =>
  if a<b.length then
   if znv b a=false then ([],a,false)
   else if zfz b a=[] then (acc,zhG b a,true)
   else if (zqS (zfz b a)).isSome=false then ([],a,false)
   else rhG b k (acc++[headD (zfz b a)]) (zhG b a)
  else ([],b.length,false)
def rhF(b:List UInt8)(a:Nat):List Head×Nat×Bool:=rhG b (b.length-a+1) [] a
theorem zq5{b:List UInt8}:∀(n m:Nat) (acc:List Head) (a:Nat),a≤b.length→b.length-a<n→b.length-a<m→rhG b n acc a=rhG b m acc a
 |0,_,_,_,_,h,_=>by omega
 |_,0,_,_,_,_,h=>by omega
 |n+1,m+1,acc,a,h,h1,h2=>by
  unfold rhG
  by_cases hlt:a<b.length
  ·rw[if_pos hlt,if_pos hlt]
   cases hc:znv b a
   ·rfl
   ·have hg:=zjF hc
    rw[zq5 n m _ _ (zdl h) (by omega) (by omega)]
  ·rw[if_neg hlt,if_neg hlt]
theorem zj0(b:List UInt8)(a:Nat)(hb:b.length≤16777216)(ha:a≤b.length):zab Tryz.prog 199 [.one (za7 b),.one (.int .i64 a)] (.tup [ziE (rhF b a).1,.one (.int .i64 (rhF b a).2.1),.one (.bool (rhF b a).2.2)]):=by
 obtain⟨R,eR⟩:∃R,R=rhF b a:=⟨_,rfl⟩
 rw[←eR]
 unfold rhF at eR
 have hRl:=zbs b
 refine zab.of mixed (fn:=Tryz.f199) (by kernel_rfl) (by kernel_rfl) rfl (by kernel_rfl) (by simp[Tryz.f199]) (fun hok=>?_)
 simp -implicitDefEqProofs
 refine zaK.of (List Head×Nat) (fun x=>[(0,.x (.one (za7 b))),(1,.x (.one (.int .i64 x.2))),(7,.own 84 2 (x.1.map Head.row))])
  (fun x=>(x.2≤b.length∧x.1.length≤x.2)∧R=rhG b (b.length-x.2+1) x.1 x.2) (fun x=>b.length-x.2) ([],a) ⟨⟨ha,Nat.zero_le _⟩,eR⟩ ?_ ?_
 ·simp
 rintro⟨acc,a⟩ ⟨⟨ha,hal⟩,hR⟩
 dsimp only at ha hal hR ⊢
 unfold rhG at hR
 by_cases hlt:a<b.length
 ·rw[if_pos hlt] at hR
  have hlt':((a:Int)<(b.length:Int))=True:=eq_true (by omega)
  have k1:=zdL b a hb ha
  have hg:=zjF (b:=b) (a:=a)
  have hle:=zdl ha
  have hsl:=zpu b a
  have k2:=zhA (zfz b a) (by omega)
  have hst:znv b a=true→rhG b (b.length-a) (acc++[headD (zfz b a)]) (zhG b a)=rhG b (b.length-zhG b a+1) (acc++[headD (zfz b a)]) (zhG b a):=fun h=>zq5 _ _ _ _ hle (by have:=hg h;omega) (by omega)
  have hrow:∀h:Head,h.row=[.str h.name,.str h.value]:=fun _=>rfl
  rw[hrow] at k2
  generalize znv b a=B at *
  generalize zhG b a=n at *
  generalize headD (zfz b a)=H at *
  generalize (zqS (zfz b a)).isSome=O at *
  generalize zfz b a=S at *
  simp -implicitDefEqProofs[hRl,hlt']
  refine zac.of k1 ?_
  cases B
  ·rw[if_pos rfl] at hR
   subst hR
   simp -implicitDefEqProofs
  rw[if_neg (by decide)] at hR
  by_cases hS:S=[]
  ·rw[if_pos hS] at hR
   subst hR hS
   simp -implicitDefEqProofs
  rw[if_neg hS] at hR
  have hS':(S=[])=False:=eq_false hS
  simp -implicitDefEqProofs[hS']
  refine zac.of k2 ?_
  cases O
  ·rw[if_pos rfl] at hR
   subst hR
   simp -implicitDefEqProofs
  rw[if_neg (by decide),hst rfl] at hR
  have hg:=hg rfl
  simp -implicitDefEqProofs
  refine⟨⟨by omega,by unfold maxLen;omega⟩,?_⟩
  refine zaz.of (acc++[H],n) ⟨⟨hle,by simp only[List.length_append,List.length_singleton];omega⟩,hR⟩ (by simp only;omega) ?_
  simp[hrow]
 ·rw[if_neg hlt] at hR
  subst hR
  have hlt':((a:Int)<(b.length:Int))=False:=eq_false (by omega)
  simp -implicitDefEqProofs[hRl,hlt']
def zQr:List UInt8:=[87,69,66,47,49,32]
def zua(b:List UInt8):Ans×Nat×Bool:=
 if znv b 0=false∨zdp (zfz b 0) zQr=false∨(32:UInt8)∉(zfz b 0).drop 6∨zpV 9 (zhq 32 ((zfz b 0).drop 6))=false then (zsf,0,false)
 else (⟨ze7 (zhq 32 ((zfz b 0).drop 6)),zzb 32 ((zfz b 0).drop 6),(rhF b (zhG b 0)).1,[]⟩,(rhF b (zhG b 0)).2.1,(rhF b (zhG b 0)).2.2)
theorem zl9(b:List UInt8)(hb:b.length≤16777216):zab Tryz.prog 111 [.one (za7 b)] (.tup [.agg (zua b).1.row,.one (.int .i64 (zua b).2.1),.one (.bool (zua b).2.2)]):=by
 have hz:zsf.row=[.int .i64 0,.str [],.list 2 [],.list 1 []]:=rfl
 have hrow:∀a:Ans,a.row=[.int .i64 a.st,.str a.re,.list 2 (a.hs.map Head.row),za7 a.ct]:=fun _=>rfl
 obtain⟨R,eR⟩:∃R,R=zua b:=⟨_,rfl⟩
 rw[←eR]
 unfold zua at eR
 have k1:=zdL b 0 hb (Nat.zero_le _)
 have k2:=zeP (zfz b 0) zQr
 have k5:=zj0 b (zhG b 0) hb (zdl (Nat.zero_le _))
 generalize znv b 0=B at *
 generalize zhG b 0=n at *
 generalize zfz b 0=S at *
 generalize rhF b n=H at *
 have h6:zQr.length=6:=rfl
 rw[h6] at k2
 generalize zdp S zQr=P at *
 have e1:P=true→(if P=true then S.drop 6 else S)=S.drop 6:=fun h=>by rw[if_pos h]
 have k3:=zq9 (if P=true then S.drop 6 else S) 32
 have k4:=zcX 9 (by omega) (zhq 32 (if P=true then S.drop 6 else S))
 unfold zQr at k2
 refine zab.of mixed (fn:=Tryz.f111) (by kernel_rfl) (by kernel_rfl) rfl (by kernel_rfl) (by simp[Tryz.f111]) (fun hok=>?_)
 simp -implicitDefEqProofs
 refine zac.of k1 ?_
 simp -implicitDefEqProofs
 refine zac.of k2 ?_
 simp -implicitDefEqProofs
 refine zac.of k3 ?_
 cases B
 ·rw[if_pos (.inl rfl)] at eR
  subst eR
  simp -implicitDefEqProofs
  refine zah.of (fun h=>by cases h) (r:=.x (.one (.bool false))) rfl ?_
  simp -implicitDefEqProofs[hz]
 cases P
 ·rw[if_pos (.inr (.inl rfl))] at eR
  subst eR
  simp -implicitDefEqProofs
  refine zah.of (fun h=>by cases h) (r:=.x (.one (.bool false))) rfl ?_
  simp -implicitDefEqProofs[hz]
 rw[e1 rfl] at k3 k4 ⊢
 generalize S.drop 6=T at *
 by_cases hm:(32:UInt8)∈T
 rotate_left
 ·rw[if_pos (.inr (.inr (.inl hm)))] at eR
  subst eR
  have hm':((32:UInt8)∈T)=False:=eq_false hm
  simp -implicitDefEqProofs[hm']
  refine zah.of (fun h=>by cases h) (r:=.x (.one (.bool false))) rfl ?_
  simp -implicitDefEqProofs[hz]
 have hm':((32:UInt8)∈T)=True:=eq_true hm
 simp -implicitDefEqProofs[hm']
 refine zah.of (fun _=>k4) rfl ?_
 cases hk:zpV 9 (zhq 32 T)
 ·rw[if_pos (.inr (.inr (.inr hk)))] at eR
  subst eR
  simp -implicitDefEqProofs[hz]
 obtain⟨h1,h2,h3⟩:=zfu hk
 have k6:=zc1 (zhq 32 T) _ (by omega) h1
 rw[if_neg (by simp[hk,hm])] at eR
 subst eR
 simp -implicitDefEqProofs[hm']
 refine zac.of k6 ?_
 simp -implicitDefEqProofs
 refine zac.of k5 ?_
 simp -implicitDefEqProofs[hrow]
theorem ziq:∀{w b:List UInt8},zmT b w=0→w.length≤b.length
 |[],b,_=>Nat.zero_le _
 |d::w,[],h=>by unfold zmT at h;cases h
 |d::w,c::b,h=>by
  unfold zmT at h
  by_cases hc:c=d
  ·rw[if_pos hc] at h
   have:=ziq h
   simp only[List.length_cons];omega
  ·rw[if_neg hc] at h;cases h
theorem zl0:∀(b w:List UInt8),zmT b w≤2
 |_,[]=>by unfold zmT;omega
 |[],_::_=>by unfold zmT;omega
 |c::b,d::w=>by
  unfold zmT
  split
  ·exact zl0 b w
  ·omega
theorem zp7{a b:Nat}(h:a<b):(a≤b)=True:=eq_true (by omega)
def zm5:Nat→Nat→List UInt8→Option (Nat×Nat)
 |i,n,[]=>some (i,n)
 |i,n,c::r=>if hexV c<16 then (if 0<i∧n=0 then none else if 65536<16*n+hexV c then none else zm5 (i+1) (16*n+hexV c) r) else some (i,n)
def nlS:List UInt8:=[13,10]
def zbC(b:List UInt8):List UInt8×Nat×Nat:=match zm5 0 0 b with
 |none=>([],0,2)
 |some (i,n) =>
  if i=b.length then ([],0,1)
  else if i=0 then ([],0,2)
  else if zmT (b.drop i) nlS≠0 then ([],0,zmT (b.drop i) nlS)
  else if b.length-(i+2)<n then ([],0,1)
  else if zmT (b.drop (i+2+n)) nlS≠0 then ([],0,zmT (b.drop (i+2+n)) nlS)
  else ((b.drop (i+2)).take n,i+2+n+2,0)
theorem zjU(b:List UInt8)(hb:b.length≤16777216):zab Tryz.prog 201 [.one (za7 b)] (.tup [.one (za7 (zbC b).1),.one (.int .i64 (zbC b).2.1),.one (.int .i64 (zbC b).2.2)]):=by
 obtain⟨R,eR⟩:∃R,R=zbC b:=⟨_,rfl⟩
 rw[←eR]
 unfold zbC at eR
 have hRl:=zbs b
 refine zab.of mixed (fn:=Tryz.f201) (by kernel_rfl) (by kernel_rfl) rfl (by kernel_rfl) (by simp[Tryz.f201]) (fun hok=>?_)
 simp -implicitDefEqProofs
 refine zaK.of (Nat×Nat) (fun x=>[(0,.x (.one (za7 b))),(5,.x (.one (.int .i64 x.2))),(6,.x (.one (.int .i64 x.1)))])
  (fun x=>(x.1≤b.length∧x.2≤65536)∧zm5 0 0 b=zm5 x.1 x.2 (b.drop x.1)) (fun x=>b.length-x.1) (0,0) ⟨⟨Nat.zero_le _,Nat.zero_le _⟩,rfl⟩ ?_ ?_
 ·simp
 rintro⟨i,n⟩ ⟨⟨hi,hn⟩,hS⟩
 dsimp only at hi hn hS ⊢
 rw[hS] at eR
 by_cases hlt:i<b.length
 ·have hlt':((i:Int)<(b.length:Int))=True:=eq_true (by omega)
  have hat:∀h,(zad b)[i]'h=[.int .u8 b[i].toNat]:=fun h=>by simp[zad,byteRow]
  have hdr:=List.drop_eq_getElem_cons hlt
  have k1:=zkF b[i]
  have hv:=zIT b[i]
  rw[hdr] at eR
  unfold zm5 at eR
  simp -implicitDefEqProofs[hRl,hlt,hlt',hat]
  refine zah.of (fun _=>k1) rfl ?_
  obtain⟨v,hV⟩:∃v,v=hexV b[i]:=⟨_,rfl⟩
  rw[←hV] at k1 hv eR ⊢
  by_cases h16:v<16
  ·rw[if_pos h16] at eR
   have h16':((v:Int)<16)=True:=eq_true (by omega)
   have hn0:((n:Int)=0)=(n=0):=by apply propext;omega
   have hi0:(0<(i:Int))=(0<i):=by apply propext;omega
   have w1:IntKind.i64.wrap (16*(n:Int))=16*(n:Int):=zaq _ (by omega)
   have w2:IntKind.i64.wrap (16*(n:Int)+(v:Int))=16*(n:Int)+(v:Int):=zaq _ (by omega)
   have w3:IntKind.i64.wrap ((i:Int)+1)=(i:Int)+1:=zaq _ (by omega)
   by_cases h0:0<i∧n=0
   ·rw[if_pos h0] at eR
    subst eR
    have h0a:=eq_true h0.1
    have h0b:=eq_true h0.2
    simp -implicitDefEqProofs[h16',hn0,hi0,h0a,h0b]
   rw[if_neg h0] at eR
   have hgo:65536<16*n+v→R=([],0,2):=fun h=>by rw[if_pos h] at eR;exact eR
   by_cases hbig:65536<16*n+v
   ·have hb1:(65536<16*(n:Int)+(v:Int))=True:=eq_true (by omega)
    have eR:=hgo hbig
    subst eR
    by_cases hi1:0<i
    ·have h0a:=eq_true hi1
     have h0b:(n=0)=False:=eq_false fun h=>h0 ⟨hi1,h⟩
     simp -implicitDefEqProofs[h16',hn0,hi0,h0a,h0b,hRl,hlt,hlt',hat]
     refine zac.of k1 ?_
     simp -implicitDefEqProofs[w1,w2,hb1]
    ·have h0a:=eq_false hi1
     simp -implicitDefEqProofs[h16',hn0,hi0,h0a,hRl,hlt,hlt',hat]
     refine zac.of k1 ?_
     simp -implicitDefEqProofs[w1,w2,hb1]
   ·rw[if_neg hbig] at eR
    have hb1:(65536<16*(n:Int)+(v:Int))=False:=eq_false (by omega)
    have hS2:zm5 0 0 b=zm5 (i+1) (16*n+v) (b.drop (i+1)):=by
     rw[hS,hdr]
     conv=>lhs;unfold zm5
     rw[←hV,if_pos h16,if_neg h0,if_neg hbig]
    by_cases hi1:0<i
    ·have h0a:=eq_true hi1
     have h0b:(n=0)=False:=eq_false fun h=>h0 ⟨hi1,h⟩
     simp -implicitDefEqProofs[h16',hn0,hi0,h0a,h0b,hRl,hlt,hlt',hat]
     refine zac.of k1 ?_
     simp -implicitDefEqProofs[w1,w2,hb1]
     refine zaz.of (i+1,16*n+v) ⟨⟨hlt,by simp only;omega⟩,hS2⟩ (by simp only;omega) ?_
     simp[w3]
    ·have h0a:=eq_false hi1
     simp -implicitDefEqProofs[h16',hn0,hi0,h0a,hRl,hlt,hlt',hat]
     refine zac.of k1 ?_
     simp -implicitDefEqProofs[w1,w2,hb1]
     refine zaz.of (i+1,16*n+v) ⟨⟨hlt,by simp only;omega⟩,hS2⟩ (by simp only;omega) ?_
     simp[w3]
  ·rw[if_neg h16] at eR
   have h16':((v:Int)<16)=False:=eq_false (by omega)
   dsimp only at eR
   rw[if_neg (by omega)] at eR
   have hil:((i:Int)=(b.length:Int))=False:=eq_false (by omega)
   by_cases h0:i=0
   ·rw[if_pos h0] at eR
    subst eR
    subst h0
    simp -implicitDefEqProofs[h16',hRl,hil,hlt']
    omega
   rw[if_neg h0] at eR
   have h0':((i:Int)=0)=False:=eq_false (by omega)
   have h0n:(i=0)=False:=eq_false h0
   have c1:cutAt (zad b) (i:Int) (b.length:Int)=zad (b.drop i):=by
    unfold cutAt zad
    rw[Int.toNat_natCast,Int.toNat_natCast,List.take_of_length_le (by simp),List.map_drop]
   have k2:=zgs (b.drop i) nlS (by rw[List.length_drop];omega) (by decide)
   have hbz:=ziq (w:=nlS) (b:=b.drop i)
   generalize zmT (b.drop i) nlS=F at *
   have hl2:nlS.length=2:=rfl
   rw[hl2,List.length_drop] at hbz
   unfold nlS at k2
   unfold za7 at k2
   have hle:=zp7 hlt
   simp -implicitDefEqProofs[h16',hRl,hil,h0n,c1,hle]
   refine zac.of k2 ?_
   by_cases hF:F=0
   rotate_left
   ·rw[if_pos hF] at eR
    subst eR
    have hF':(F=0)=False:=eq_false hF
    simp -implicitDefEqProofs[hF']
   rw[if_neg (by simp[hF])] at eR
   have hbz:=hbz hF
   subst hF
   have w4:IntKind.i64.wrap ((i:Int)+2)=(i:Int)+2:=zaq _ (by omega)
   have w5:IntKind.i64.wrap ((b.length:Int)-((i:Int)+2))=(b.length:Int)-((i:Int)+2):=zaq _ (by omega)
   by_cases hs:b.length-(i+2)<n
   ·rw[if_pos hs] at eR
    subst eR
    have hs':((b.length:Int)-((i:Int)+2)<(n:Int))=True:=eq_true (by omega)
    simp -implicitDefEqProofs[hRl,w4,w5,hs']
   rw[if_neg hs] at eR
   have hs':((b.length:Int)-((i:Int)+2)<(n:Int))=False:=eq_false (by omega)
   have w6:IntKind.i64.wrap ((i:Int)+2+(n:Int))=(i:Int)+2+(n:Int):=zaq _ (by omega)
   have w7:IntKind.i64.wrap ((i:Int)+2+(n:Int)+2)=(i:Int)+2+(n:Int)+2:=zaq _ (by omega)
   have c2:cutAt (zad b) ((i:Int)+2+(n:Int)) (b.length:Int)=zad (b.drop (i+2+n)):=by
    have:((i:Int)+2+(n:Int))=((i+2+n:Nat):Int):=by omega
    rw[this]
    unfold cutAt zad
    rw[Int.toNat_natCast,Int.toNat_natCast,List.take_of_length_le (by simp),List.map_drop]
   have c3:cutAt (zad b) ((i:Int)+2) ((i:Int)+2+(n:Int))=zad ((b.drop (i+2)).take n):=by
    have e1:((i:Int)+2+(n:Int))=((i+2+n:Nat):Int):=by omega
    have e2:((i:Int)+2)=((i+2:Nat):Int):=by omega
    rw[e1,e2]
    unfold cutAt zad
    rw[Int.toNat_natCast,Int.toNat_natCast,List.map_take,List.map_drop,List.drop_take]
    congr 1
    omega
   have k3:=zgs (b.drop (i+2+n)) nlS (by rw[List.length_drop];omega) (by decide)
   generalize zmT (b.drop (i+2+n)) nlS=F at *
   unfold nlS at k3
   unfold za7 at k3
   have hin:(0≤(i:Int)+2+(n:Int))=True:=eq_true (by omega)
   have hin2:((i:Int)+2+(n:Int)≤(b.length:Int))=True:=eq_true (by omega)
   have hin3:(0≤(i:Int)+2)=True:=eq_true (by omega)
   have hin4:((i:Int)+2≤(i:Int)+2+(n:Int))=True:=eq_true (by omega)
   simp -implicitDefEqProofs[hRl,w4,w5,w6,hs',c2,hin,hin2]
   refine zac.of k3 ?_
   by_cases hF:F=0
   rotate_left
   ·rw[if_pos hF] at eR
    subst eR
    have hF':(F=0)=False:=eq_false hF
    simp -implicitDefEqProofs[hF']
   rw[if_neg (by simp[hF])] at eR
   subst hF eR
   simp -implicitDefEqProofs[hRl,w6,w7,c3,hin,hin2,hin3,hin4]
 ·have hlt':((i:Int)<(b.length:Int))=False:=eq_false (by omega)
  obtain rfl:i=b.length:=by omega
  have:b.drop b.length=[]:=List.drop_length
  rw[this] at eR
  unfold zm5 at eR
  dsimp only at eR
  rw[if_pos rfl] at eR
  subst eR
  simp -implicitDefEqProofs[hRl,hlt']
  refine zah.of (fun h=>by cases h) (r:=.x (.one (.int .i64 0))) rfl ?_
  simp -implicitDefEqProofs[hRl]
theorem zhJ{b:List UInt8}(h1:(zbC b).2.2≠1)(h2:(zbC b).2.2≠2):4≤(zbC b).2.1∧(zbC b).2.1≤b.length∧(zbC b).1.length≤(zbC b).2.1:=by
 obtain⟨R,eR⟩:∃R,R=zbC b:=⟨_,rfl⟩
 rw[←eR] at h1 h2 ⊢
 unfold zbC at eR
 cases hs:zm5 0 0 b with
 |none=>rw[hs] at eR;subst eR;exact absurd rfl h2
 |some p =>
  obtain⟨i,n⟩:=p
  rw[hs] at eR
  dsimp only at eR
  by_cases c1:i=b.length
  ·rw[if_pos c1] at eR;subst eR;exact absurd rfl h1
  rw[if_neg c1] at eR
  by_cases c2:i=0
  ·rw[if_pos c2] at eR;subst eR;exact absurd rfl h2
  rw[if_neg c2] at eR
  have g1:=zl0 (b.drop i) nlS
  by_cases c3:zmT (b.drop i) nlS=0
  rotate_left
  ·rw[if_pos c3] at eR;subst eR;simp only at h1 h2;omega
  rw[if_neg (by simp[c3])] at eR
  by_cases c4:b.length-(i+2)<n
  ·rw[if_pos c4] at eR;subst eR;exact absurd rfl h1
  rw[if_neg c4] at eR
  have g2:=zl0 (b.drop (i+2+n)) nlS
  by_cases c5:zmT (b.drop (i+2+n)) nlS=0
  rotate_left
  ·rw[if_pos c5] at eR;subst eR;simp only at h1 h2;omega
  rw[if_neg (by simp[c5])] at eR
  have b2:=ziq c5
  have b1:=ziq c3
  have hl2:nlS.length=2:=rfl
  rw[hl2,List.length_drop] at b1 b2
  subst eR
  simp only[List.length_take,List.length_drop]
  omega
theorem zqN(b:List UInt8):(zbC b).2.2≤2:=by
 unfold zbC
 split
 ·simp
 ·split
  ·simp
  ·split
   ·simp
   ·split
    ·exact zl0 _ _
    ·split
     ·simp
     ·split
      ·exact zl0 _ _
      ·simp
def zeA(b:List UInt8):Nat→List UInt8→Nat→List UInt8×Nat×Nat×Int
 |0,_,_=>([],0,0,0)
 |k+1,acc,a =>
  if (zbC (b.drop a)).2.2=2 then ([],0,a,10)
  else if (zbC (b.drop a)).2.2=1∧acc.length≤200000 then (acc,a,b.length,15)
  else if (zbC (b.drop a)).2.2=1 then ([],0,0,2)
  else if 0<(zbC (b.drop a)).1.length then zeA b k (acc++(zbC (b.drop a)).1) (a+(zbC (b.drop a)).2.1)
  else if 200000<(acc++(zbC (b.drop a)).1).length then ([],0,0,2)
  else if a+(zbC (b.drop a)).2.1<b.length then (acc++(zbC (b.drop a)).1,a+(zbC (b.drop a)).2.1,a+(zbC (b.drop a)).2.1,3)
  else (acc++(zbC (b.drop a)).1,a+(zbC (b.drop a)).2.1,0,0)
def zcm(b:List UInt8):List UInt8×Nat×Nat×Int:=zeA b (b.length+1) [] 0
theorem ziK{b:List UInt8}:∀(n m:Nat) (acc:List UInt8) (a:Nat),a≤b.length→b.length-a<n→b.length-a<m→zeA b n acc a=zeA b m acc a
 |0,_,_,_,_,h,_=>by omega
 |_,0,_,_,_,_,h=>by omega
 |n+1,m+1,acc,a,h,h1,h2=>by
  unfold zeA
  have hn:=zhJ (b:=b.drop a)
  rw[List.length_drop] at hn
  generalize zbC (b.drop a)=C at *
  by_cases c2:C.2.2=2
  ·rw[if_pos c2,if_pos c2]
  by_cases c1:C.2.2=1
  ·simp only[c1,if_true]
  obtain⟨n1,n2,n3⟩:=hn c1 c2
  rw[ziK n m (acc++C.1) (a+C.2.1) (by omega) (by omega) (by omega)]
theorem zi4(b:List UInt8)(hb:b.length≤16777216):zab Tryz.prog 115 [.one (za7 b)] (.tup [.one (za7 (zcm b).1),.one (.int .i64 (zcm b).2.1),.one (.int .i64 (zcm b).2.2.1),.one (.int .i64 (zcm b).2.2.2)]):=by
 obtain⟨R,eR⟩:∃R,R=zcm b:=⟨_,rfl⟩
 rw[←eR]
 unfold zcm at eR
 have hRl:=zbs b
 refine zab.of mixed (fn:=Tryz.f115) (by kernel_rfl) (by kernel_rfl) rfl (by kernel_rfl) (by simp[Tryz.f115]) (fun hok=>?_)
 simp -implicitDefEqProofs
 refine zaK.of (List UInt8×Nat) (fun x=>[(0,.x (.one (za7 b))),(6,.own 5 1 (zad x.1)),(7,.x (.one (.int .i64 x.2)))])
  (fun x=>(x.2≤b.length∧x.1.length≤x.2)∧R=zeA b (b.length-x.2+1) x.1 x.2) (fun x=>b.length-x.2) ([],0) ⟨⟨Nat.zero_le _,Nat.zero_le _⟩,eR⟩ ?_ ?_
 ·simp
 rintro⟨acc,a⟩ ⟨⟨ha,hal⟩,hR⟩
 dsimp only at ha hal hR ⊢
 unfold zeA at hR
 have hAl:=zbs acc
 have k1:=zjU (b.drop a) (by rw[List.length_drop];omega)
 have hn:=zhJ (b:=b.drop a)
 have h3:=zqN (b.drop a)
 rw[List.length_drop] at hn
 have c1:cutAt (zad b) (a:Int) (b.length:Int)=zad (b.drop a):=by
  unfold cutAt zad
  rw[Int.toNat_natCast,Int.toNat_natCast,List.take_of_length_le (by simp),List.map_drop]
 have hst:∀acc' a',a'≤b.length→a<a'→zeA b (b.length-a) acc' a'=zeA b (b.length-a'+1) acc' a':=fun acc' a' h h'=>ziK _ _ _ _ h (by omega) (by omega)
 generalize zbC (b.drop a)=C at *
 obtain⟨cb,cn,ck⟩:=C
 dsimp only at *
 unfold za7 at k1
 simp -implicitDefEqProofs[hRl,ha,c1]
 refine zac.of k1 ?_
 by_cases e2:ck=2
 ·rw[if_pos e2] at hR
  subst hR e2
  simp -implicitDefEqProofs
 rw[if_neg e2] at hR
 by_cases e1:ck=1
 ·subst e1
  by_cases hs:acc.length≤200000
  ·rw[if_pos ⟨rfl,hs⟩] at hR
   subst hR
   have hs':((acc.length:Int)≤200000)=True:=eq_true (by omega)
   simp -implicitDefEqProofs[hRl,hAl,hs']
  ·rw[if_neg (by omega),if_pos rfl] at hR
   subst hR
   have hs':((acc.length:Int)≤200000)=False:=eq_false (by omega)
   simp -implicitDefEqProofs[hRl,hAl,hs']
 rw[if_neg (by omega),if_neg e1] at hR
 obtain⟨n1,n2,n3⟩:=hn e1 e2
 have hck:ck=0:=by omega
 subst hck
 have w1:IntKind.i64.wrap ((a:Int)+(cn:Int))=(a:Int)+(cn:Int):=zaq _ (by omega)
 have hCl:=zbs cb
 have hap:=zc5 acc cb
 by_cases hc:0<cb.length
 ·rw[if_pos hc] at hR
  have hc':(0<(cb.length:Int))=True:=eq_true (by omega)
  have hc2:(0<cb.length)=True:=eq_true hc
  simp -implicitDefEqProofs[hRl,hAl,hCl,w1,hc',hc2]
  refine⟨⟨by omega,by unfold maxLen;omega⟩,?_⟩
  rw[hst _ _ (by omega) (by omega)] at hR
  refine zaz.of (acc++cb,a+cn) ⟨⟨by simp only;omega,by simp only[List.length_append];omega⟩,hR⟩ (by simp only;omega) ?_
  simp[zc5]
 rw[if_neg hc] at hR
 have hc':(0<(cb.length:Int))=False:=eq_false (by omega)
 have hcb:cb=[]:=List.length_eq_zero_iff.1 (by omega)
 subst hcb
 rw[List.append_nil] at hR
 by_cases hbig:200000<acc.length
 ·rw[if_pos hbig] at hR
  subst hR
  have hbig':(200000<(acc.length:Int))=True:=eq_true (by omega)
  simp -implicitDefEqProofs[hRl,hAl,w1,hbig']
  exact⟨by omega,by unfold maxLen;omega⟩
 rw[if_neg hbig] at hR
 have hbig':(200000<(acc.length:Int))=False:=eq_false (by omega)
 by_cases hm:a+cn<b.length
 ·rw[if_pos hm] at hR
  subst hR
  have hm':((a:Int)+(cn:Int)<(b.length:Int))=True:=eq_true (by omega)
  simp -implicitDefEqProofs[hRl,hAl,w1,hbig',hm']
  exact⟨by omega,by unfold maxLen;omega⟩
 rw[if_neg hm] at hR
 subst hR
 have hm':((a:Int)+(cn:Int)<(b.length:Int))=False:=eq_false (by omega)
 simp -implicitDefEqProofs[hRl,hAl,w1,hbig',hm']
 exact⟨by omega,by unfold maxLen;omega⟩
structure Med where
 mt:List UInt8
 set:List UInt8
def Med.row(m:Med):List CV:=[.str m.mt,.str m.set]
set_option maxHeartbeats 8000000
theorem zB5{b:List UInt8}:∀(k:Nat) (acc:List Head) (a:Nat),a≤b.length→acc.length≤a→(rhG b k acc a).2.1≤b.length∧(rhG b k acc a).1.length≤b.length
 |0,_,_,_,_=>by unfold rhG;exact⟨Nat.le_refl _,Nat.zero_le _⟩
 |k+1,acc,a,h,ha=>by
  unfold rhG
  split
  ·split
   ·exact⟨h,Nat.zero_le _⟩
   ·rename_i hc
    split
    ·exact⟨zdl h,by simp only;omega⟩
    ·split
     ·exact⟨h,Nat.zero_le _⟩
     ·have hg:=zjF (b:=b) (a:=a) (by simpa using hc)
      exact zB5 k _ _ (zdl h) (by rw[List.length_append,List.length_singleton];omega)
  ·exact⟨Nat.le_refl _,Nat.zero_le _⟩
theorem zGm(b:List UInt8):(zua b).2.1≤b.length∧(zua b).1.hs.length≤b.length:=by
 unfold zua
 split
 ·exact⟨Nat.zero_le _,Nat.zero_le _⟩
 ·have h:=zB5 (b:=b) (b.length-zhG b 0+1) [] (zhG b 0) (zdl (Nat.zero_le _)) (Nat.zero_le _)
  exact h
def zVQ(b:List UInt8)(t:Ans)(at':Nat):Ans×Int×Nat×Int:=
 if zQd t≠0 then (zsf,0,0,if zf1 t=2∧(zrL t.hs).2=true∧200000<(zrL t.hs).1 then 2 else zQd t)
 else if zf1 t=0 then (zsf,0,0,12)
 else if zf1 t=1 then (if 0<b.length-at' then (t,1,at',3) else (t,1,0,0))
 else if zf1 t=3 then
  (if (zcm (b.drop at')).2.2.2=2 then (zsf,0,0,2)
   else if (zcm (b.drop at')).2.2.2=10 then (zsf,0,at'+(zcm (b.drop at')).2.2.1,10)
   else if (zcm (b.drop at')).2.2.2≠0 then ({ t with ct:=(zcm (b.drop at')).1 },3,at'+(zcm (b.drop at')).2.2.1,(zcm (b.drop at')).2.2.2)
   else ({ t with ct:=(zcm (b.drop at')).1 },3,0,0))
 else if zf1 t=4 then (if 200000<b.length-at' then (zsf,0,0,2) else ({ t with ct:=b.drop at' },4,0,0))
 else if 200000<(zrL t.hs).1 then (zsf,0,0,2)
 else if b.length-at'<(zrL t.hs).1 then ({ t with ct:=(b.drop at').take (min (zrL t.hs).1 (b.length-at')) },zf1 t,b.length,15)
 else if (zrL t.hs).1<b.length-at' then ({ t with ct:=(b.drop at').take (min (zrL t.hs).1 (b.length-at')) },zf1 t,at'+(zrL t.hs).1,3)
 else ({ t with ct:=(b.drop at').take (min (zrL t.hs).1 (b.length-at')) },zf1 t,0,0)
def zvm(b:List UInt8):Ans×Int×Nat×Int:=
 if 400000<b.length then (zsf,0,0,2)
 else if (zua b).2.2=false then (zsf,0,(zua b).2.1,10)
 else zVQ b (zua b).1 (zua b).2.1
theorem znD{b:List UInt8}:∀(k:Nat) (acc:List UInt8) (a:Nat),a≤b.length→(zeA b k acc a).2.2.1≤b.length
 |0,_,_,_=>Nat.zero_le _
 |k+1,acc,a,h=>by
  unfold zeA
  have hn:=zhJ (b:=b.drop a)
  rw[List.length_drop] at hn
  split
  ·exact h
  ·rename_i c2
   split
   ·exact Nat.le_refl _
   ·split
    ·exact Nat.zero_le _
    ·rename_i c1
     obtain⟨n1,n2,_⟩:=hn c1 c2
     split
     ·exact znD k _ _ (by omega)
     ·split
      ·exact Nat.zero_le _
      ·split
       ·simp only;omega
       ·exact Nat.zero_le _
theorem zi7(b:List UInt8):zab Tryz.prog 65 [.one (za7 b)] (.tup [.agg (zvm b).1.row,.one (.int .i64 (zvm b).2.1),.one (.int .i64 (zvm b).2.2.1),.one (.int .i64 (zvm b).2.2.2)]):=by
 have hz:zsf.row=[.int .i64 0,.str [],.list 2 [],.list 1 []]:=rfl
 have hrow:∀a:Ans,a.row=[.int .i64 a.st,.str a.re,.list 2 (a.hs.map Head.row),za7 a.ct]:=fun _=>rfl
 obtain⟨R,eR⟩:∃R,R=zvm b:=⟨_,rfl⟩
 rw[←eR]
 unfold zvm at eR
 have hRl:=zbs b
 refine zab.of mixed (fn:=Tryz.f65) (by kernel_rfl) (by kernel_rfl) rfl (by kernel_rfl) (by simp[Tryz.f65]) (fun hok=>?_)
 by_cases h1:400000<b.length
 ·rw[if_pos h1] at eR
  subst eR
  have h1':(400000<(b.length:Int))=True:=eq_true (by omega)
  simp -implicitDefEqProofs[hRl,h1',hz]
 rw[if_neg h1] at eR
 have h1':(400000<(b.length:Int))=False:=eq_false (by omega)
 have k1:=zl9 b (by omega)
 obtain⟨hat,hhs⟩:=zGm b
 generalize zua b=T at *
 obtain⟨t,at',ok⟩:=T
 dsimp only at *
 rw[hrow t] at k1
 simp -implicitDefEqProofs[hRl,h1']
 refine zac.of k1 ?_
 cases ok
 ·rw[if_pos rfl] at eR
  subst eR
  simp -implicitDefEqProofs[hz]
 rw[if_neg (by decide)] at eR
 have k2:=zhB t.hs (by omega)
 have k3:=zkM t
 have k4:=zmu t (by omega)
 rw[hrow t] at k3 k4
 unfold zVQ at eR
 generalize zrL t.hs=L at *
 obtain⟨ln,lok⟩:=L
 generalize zQd t=F at *
 generalize zf1 t=fr at *
 dsimp only at *
 simp -implicitDefEqProofs
 refine zac.of k2 ?_
 simp -implicitDefEqProofs
 refine zac.of k3 ?_
 by_cases hF:F=0
 rotate_left
 ·rw[if_pos hF] at eR
  have hF':(F=0)=False:=eq_false hF
  simp -implicitDefEqProofs[hF']
  refine zac.of k4 ?_
  by_cases q1:fr=2
  ·have q1':(fr=2)=True:=eq_true q1
   cases lok
   ·rw[if_neg (by simp)] at eR
    subst eR
    simp -implicitDefEqProofs[q1',hz]
   ·by_cases q3:200000<ln
    ·rw[if_pos ⟨q1,rfl,q3⟩] at eR
     subst eR
     have q3':(200000<(ln:Int))=True:=eq_true (by omega)
     simp -implicitDefEqProofs[q1',q3',hz]
    ·rw[if_neg (by simp[q3])] at eR
     subst eR
     have q3':(200000<(ln:Int))=False:=eq_false (by omega)
     simp -implicitDefEqProofs[q1',q3',hz]
  ·rw[if_neg (by simp[q1])] at eR
   subst eR
   have q1':(fr=2)=False:=eq_false q1
   simp -implicitDefEqProofs[q1',hz]
 rw[if_neg (by simp[hF])] at eR
 subst hF
 simp -implicitDefEqProofs
 refine zac.of k4 ?_
 have hRd:=zbs (b.drop at')
 rw[List.length_drop] at hRd
 have hati:(at'≤b.length)=True:=eq_true hat
 have hsub:((b.length-at':Nat):Int)=(b.length:Int)-(at':Int):=by omega
 have c1:cutAt (zad b) (at':Int) (b.length:Int)=zad (b.drop at'):=by
  unfold cutAt zad
  rw[Int.toNat_natCast,Int.toNat_natCast,List.take_of_length_le (by simp),List.map_drop]
 by_cases f0:fr=0
 ·rw[if_pos f0] at eR
  subst f0 eR
  simp -implicitDefEqProofs[hRl,hati,c1,hz]
 rw[if_neg f0] at eR
 have f0':(fr=0)=False:=eq_false f0
 by_cases f1:fr=1
 ·rw[if_pos f1] at eR
  subst f1
  by_cases g:0<b.length-at'
  ·rw[if_pos g] at eR
   subst eR
   simp -implicitDefEqProofs[hRl,hRd,hati,c1,hrow]
   omega
  ·rw[if_neg g] at eR
   subst eR
   simp -implicitDefEqProofs[hRl,hRd,hati,c1,hrow]
   omega
 rw[if_neg f1] at eR
 have f1':(fr=1)=False:=eq_false f1
 by_cases f3:fr=3
 ·rw[if_pos f3] at eR
  subst f3
  have k5:=zi4 (b.drop at') (by rw[List.length_drop];omega)
  have hce:=znD (b:=b.drop at') ((b.drop at').length+1) [] 0 (Nat.zero_le _)
  change (zcm (b.drop at')).2.2.1≤_ at hce
  rw[List.length_drop] at hce
  generalize zcm (b.drop at')=CH at *
  obtain⟨cb,cn,ce,cf⟩:=CH
  dsimp only at *
  unfold za7 at k5
  have w1:IntKind.i64.wrap ((at':Int)+(ce:Int))=(at':Int)+(ce:Int):=zaq _ (by omega)
  simp -implicitDefEqProofs[hRl,hati,c1]
  refine zac.of k5 ?_
  by_cases e2:cf=2
  ·rw[if_pos e2] at eR
   subst eR e2
   simp -implicitDefEqProofs[hz]
  rw[if_neg e2] at eR
  have e2':(cf=2)=False:=eq_false e2
  by_cases e10:cf=10
  ·rw[if_pos e10] at eR
   subst eR e10
   simp -implicitDefEqProofs[hz,w1]
  rw[if_neg e10] at eR
  have e10':(cf=10)=False:=eq_false e10
  by_cases e0:cf=0
  ·rw[if_neg (by simp[e0])] at eR
   subst eR e0
   simp -implicitDefEqProofs[hrow]
  ·rw[if_pos e0] at eR
   subst eR
   have e0':(cf=0)=False:=eq_false e0
   simp -implicitDefEqProofs[e2',e10',e0',w1,hrow]
 rw[if_neg f3] at eR
 have f3':(fr=3)=False:=eq_false f3
 by_cases f4:fr=4
 ·rw[if_pos f4] at eR
  subst f4
  by_cases g:200000<b.length-at'
  ·rw[if_pos g] at eR
   subst eR
   have g':(200000<((b.length-at':Nat):Int))=True:=eq_true (by omega)
   simp -implicitDefEqProofs[hRl,hRd,hati,c1,g',hz]
  ·rw[if_neg g] at eR
   subst eR
   have g':(200000<((b.length-at':Nat):Int))=False:=eq_false (by omega)
   simp -implicitDefEqProofs[hRl,hRd,hati,c1,g',hrow]
   exact⟨by omega,by unfold maxLen;omega⟩
 rw[if_neg f4] at eR
 have f4':(fr=4)=False:=eq_false f4
 by_cases g:200000<ln
 ·rw[if_pos g] at eR
  subst eR
  have g':(200000<(ln:Int))=True:=eq_true (by omega)
  simp -implicitDefEqProofs[hRl,hati,c1,f0',f1',f3',f4',g',hz]
 rw[if_neg g] at eR
 have g':(200000<(ln:Int))=False:=eq_false (by omega)
 have w1:IntKind.i64.wrap ((at':Int)+(ln:Int))=(at':Int)+(ln:Int):=zaq _ (by omega)
 have em:(min (ln:Int) ((b.length-at':Nat):Int)).toNat=min ln (b.length-at'):=by omega
 simp -implicitDefEqProofs[hRl,hRd,hati,c1,f0',f1',f3',f4',g',w1,em]
 refine⟨⟨by omega,by omega⟩,⟨by omega,by unfold maxLen;omega⟩,fun q=>?_,fun q=>⟨fun q2=>?_,fun q2=>?_⟩⟩
 ·rw[if_pos q] at eR
  subst eR
  simp[hrow]
 ·rw[if_neg (by omega),if_pos q2] at eR
  subst eR
  simp[hrow]
 ·rw[if_neg (by omega),if_neg (by omega)] at eR
  subst eR
  simp[hrow]
end Go.Proofs.YtlcmnclbljedfaaGreatDoor
namespace Go.Proofs.YtlcmnclbljedfaaGreatDoor
open Go Go.Ab Go.RowKit Go.Lib
variable [Amb][zaY 0][zal Tryz.prog]
end Go.Proofs.YtlcmnclbljedfaaGreatDoor
namespace Go.Proofs.YtlcmnclbljedfaaGreatDoor
open Go
set_option maxRecDepth 100000
end Go.Proofs.YtlcmnclbljedfaaGreatDoor
namespace Go.Proofs.YtlcmnclbljedfaaGreatDoor
open Go Go.Ab Go.RowKit Go.Lib Go.Sort
section
variable [Amb]{α:Type}[Inhabited α]
end
variable [Amb][zaY 0][zal Tryz.prog]
instance:Inhabited Entry:=⟨⟨[],0,0,[],[],[],0,0,false⟩⟩
end Go.Proofs.YtlcmnclbljedfaaGreatDoor
namespace Go.Proofs.YtlcmnclbljedfaaGreatDoor
open Go Go.Ab
variable [Amb][zaY 0][zal Tryz.prog]
set_option maxRecDepth 100000
set_option maxHeartbeats 8000000
theorem zDo(b:List UInt8):∀(n a:Nat) (L:List Rec) (M:List Mark),L.length=M.length→(goF n b a L M).2.2.2=0→zhh (goF n b a L M).1=0∧(goF n b a L M).2.1.length=(goF n b a L M).1.length
 |0,_,_,_,_,_=>⟨rfl,rfl⟩
 |n+1,a,L,M,h,h0=>by
  unfold goF at h0 ⊢
  split at h0
  ·rename_i hlt
   rw[if_pos hlt]
   split at h0
   ·rename_i hf
    exact absurd h0 hf
   ·rename_i hf
    rw[if_neg hf]
    exact zDo b n _ _ _ (by simp[h]) h0
  ·rename_i hlt
   rw[if_neg hlt]
   split at h0
   ·rename_i hf
    exact absurd h0 hf
   ·rename_i hf
    rw[if_neg hf]
    exact⟨Decidable.of_not_not hf,h.symm⟩
theorem zk9{b:List UInt8}(h:(zbQ b).2.2.2=0):zhh (zbQ b).1=0∧(zbQ b).2.1.length=(zbQ b).1.length:=by
 unfold zbQ at *
 split at h
 ·cases h
 ·rename_i hb
  rw[if_neg hb]
  exact zDo b _ _ _ _ rfl h
set_option maxHeartbeats 4000000
end Go.Proofs.YtlcmnclbljedfaaGreatDoor
namespace Go.Proofs.YtlcmnclbljedfaaGreatDoor
open Go
set_option maxRecDepth 100000
def zx7:Go.Shelf.Ren:=⟨fun x=>if x=119 then 303 else if x=137 then 215 else if x=150 then 108 else if x=152 then 255 else if x=153 then 196 else if x=217 then 267 else if x=224 then 265 else if x=225 then 304 else if x=226 then 256 else if x=227 then 141 else if x=228 then 231 else if x=266 then 309 else x,fun x=>if x=0 then 0 else if x=3 then 3 else if x=4 then 4 else if x=5 then 5 else if x=9 then 9 else if x=21 then 21 else if x=46 then 165 else if x=116 then 212 else if x=117 then 213 else if x=124 then 216 else x,fun x=>x⟩
theorem zxO:Go.Proofs.Lays.n150 Tryz.prog zx7 where
 mixed:=by kernel_rfl
 f119:=Tryz.func303.trans (congrArg some (by kernel_rfl))
 f137:=Tryz.func215.trans (congrArg some (by kernel_rfl))
 f150:=Tryz.func108.trans (congrArg some (by kernel_rfl))
 f152:=Tryz.func255.trans (congrArg some (by kernel_rfl))
 f153:=Tryz.func196.trans (congrArg some (by kernel_rfl))
 f217:=Tryz.func267.trans (congrArg some (by kernel_rfl))
 f224:=Tryz.func265.trans (congrArg some (by kernel_rfl))
 f225:=Tryz.func304.trans (congrArg some (by kernel_rfl))
 f226:=Tryz.func256.trans (congrArg some (by kernel_rfl))
 f227:=Tryz.func141.trans (congrArg some (by kernel_rfl))
 f228:=Tryz.func231.trans (congrArg some (by kernel_rfl))
 f266:=Tryz.func309.trans (congrArg some (by kernel_rfl))
 t0:=Tryz.underlying0
 a0:=Tryz.isAgg0
 z0:=Tryz.sizeOf0
 v0:=Tryz.zeroValue0
 t3:=Tryz.underlying3
 a3:=Tryz.isAgg3
 z3:=Tryz.sizeOf3
 v3:=Tryz.zeroValue3
 t4:=Tryz.underlying4
 a4:=Tryz.isAgg4
 z4:=Tryz.sizeOf4
 v4:=Tryz.zeroValue4
 t5:=Tryz.underlying5
 a5:=Tryz.isAgg5
 z5:=Tryz.sizeOf5
 v5:=Tryz.zeroValue5
 t9:=Tryz.underlying9
 a9:=Tryz.isAgg9
 z9:=Tryz.sizeOf9
 v9:=Tryz.zeroValue9
 t21:=Tryz.underlying21
 a21:=Tryz.isAgg21
 z21:=Tryz.sizeOf21
 v21:=Tryz.zeroValue21
 t46:=Tryz.underlying165
 a46:=Tryz.isAgg165
 z46:=Tryz.sizeOf165
 v46:=Tryz.zeroValue165
 t116:=Tryz.underlying212
 a116:=Tryz.isAgg212
 z116:=Tryz.sizeOf212
 t117:=Tryz.underlying213
 a117:=Tryz.isAgg213
 z117:=Tryz.sizeOf213
 v117:=Tryz.zeroValue213
 t124:=Tryz.underlying216
 a124:=Tryz.isAgg216
 z124:=Tryz.sizeOf216
 v124:=Tryz.zeroValue216
end Go.Proofs.YtlcmnclbljedfaaGreatDoor
namespace Go.Proofs.YtlcmnclbljedfaaGreatDoor
open Go Go.Ab
variable [Amb][zaY 0][zal Tryz.prog]
set_option maxRecDepth 100000
set_option maxHeartbeats 8000000
def zhs(s:List UInt8):Prop:=∀c∈s,c.toNat<128
theorem zhs.at{s:List UInt8}(h:zhs s):∀(j:Nat) b,s[j]?=some b→b.toNat<128:=fun _ b hb=>h b (List.mem_of_getElem? hb)
def setB(w:List UInt8):List CV:=(List.range 256).map fun k=>.bool (w.contains (UInt8.ofNat k))
theorem zk5(w:List UInt8):(setB w).length=256:=by simp[setB]
theorem zvH(w:List UInt8)(c:UInt8):(setB w)[c.toNat]?=some (.bool (w.contains c)):=by
 have h:c.toNat<256:=UInt8.toNat_lt c
 unfold setB
 rw[List.getElem?_map,List.getElem?_range h]
 simp
theorem zBt(w:List UInt8){W:World}{S:Nat→Prop}:zbP W S (setB w) (Lib.setCells w).toList:=by
 refine⟨by rw[zk5,Array.length_toList,Lib.setCells_size],fun j c hj=>?_⟩
 have hlt:j<256:=by have:=(List.getElem?_eq_some_iff.1 hj).1;rwa[zk5] at this
 have hjj:(UInt8.ofNat j).toNat=j:=by rw[UInt8.toNat_ofNat'];omega
 have h1:=zvH w (UInt8.ofNat j)
 have h2:=Lib.setCells_at w (UInt8.ofNat j)
 rw[hjj] at h1 h2
 rw[h1] at hj
 injection hj with hj
 subst hj
 exact⟨_,by simpa using h2,zaH.bool _⟩
theorem zsu:(Tryz.prog.info? (zx7.t 116)).map (fun i=>(i.zero,i.size))=some (some (.agg (Array.replicate 256 (.bool false))),256):=by kernel_rfl
theorem strings_makeASCIISet(w:List UInt8)(hw:zhs w)(hl:w.length<4294967281):zab Tryz.prog 141 [.one (.str w)] (.tup [.agg (setB w),.one (.bool true)]):=by
 refine znw [.string ⟨w.toArray⟩] (zbm Tryz.f141 (by kernel_rfl) (by kernel_rfl) rfl) rfl (fun _=>rfl) (fun _ W _=>?_)
 have hc:=(Go.Proofs.Any.strings_makeASCIISet { zxO with } (zero_of_info zsu).1 (zero_of_info zsu).2 ⟨w.toArray⟩ W (by simp only[ByteArray.size,List.size_toArray];omega) (fun j b hb=>hw.at j b (by simpa using hb)))
 refine hc.mono ?_
 rintro e w' ⟨rfl,rfl⟩
 refine⟨_,rfl,(RowKit.Below.refl _ _).alloc (Nat.le_refl _) _,fun S=>⟨_,rfl,rfl,fun j x hj=>?_⟩⟩
 match j,hj with
 |0,hj=>cases hj;exact⟨_,rfl,_,rfl,zBt w⟩
 |1,hj=>cases hj;exact⟨_,rfl,zaH.bool _⟩
 |j+2,hj=>simp at hj
theorem zvX(w:List UInt8)(c:UInt8):(setB w).drop c.toNat=.bool (w.contains c)::(setB w).drop (c.toNat+1):=by
 have h:=zvH w c
 obtain⟨hlt,he⟩:=List.getElem?_eq_some_iff.1 h
 rw[List.drop_eq_getElem_cons hlt,he]
theorem asciiSet_contains(w:List UInt8)(c:UInt8):zat Tryz.prog 231 [.box (setB w),.x (.one (.int .u8 c.toNat))] (.x (.one (.bool (w.contains c)))) [.box (setB w),.dead]:=by
 have h:=zvX w c
 have hlen:=zk5 w
 generalize w.contains c=v at *
 generalize setB w=B at *
 have hlt:((c.toNat:Int)<256)=True:=eq_true (by have:=UInt8.toNat_lt c;omega)
 refine zat.of mixed (fn:=Tryz.f231) (by kernel_rfl) (by kernel_rfl) rfl (by kernel_rfl) (by kernel_rfl) rfl (by simp[Tryz.f231]) (fun hok=>?_)
 simp -implicitDefEqProofs[h,hlt]
theorem znf(n:Int):zab Tryz.prog 256 [.one (.int .i64 n)] (.x (.one (.bool (decide (8<n))))):=by
 refine zab.of mixed (fn:=Tryz.f256) (by kernel_rfl) (by kernel_rfl) rfl (by kernel_rfl) (by simp[Tryz.f256]) (fun hok=>?_)
 simp -implicitDefEqProofs
theorem zjS(s w:List UInt8)(hw:zhs w)(hl:2≤w.length)(hl2:w.length<4294967281)(h8:8<s.length):zab Tryz.prog 196 [.one (.str s),.one (.str w)] (.x (.one (.int .i64 (Lib.indexAny s w)))):=by
 obtain⟨R,eR⟩:∃R,R=Lib.indexAny s w:=⟨_,rfl⟩
 rw[←eR]
 have k1:=strings_makeASCIISet w hw hl2
 have kc:=asciiSet_contains w
 have hlen:=zk5 w
 have h0:(w=[])=False:=eq_false (by rintro rfl;simp at hl)
 have h1:((w.length:Int)=1)=False:=eq_false (by omega)
 have h8':((8:Int)<(s.length:Int))=True:=eq_true (by omega)
 have hset:zae (List.replicate 256 (CV.bool false)) 0 (setB w)=setB w:=by
  unfold zae
  rw[hlen,List.drop_eq_nil_of_le (by simp)]
  simp
 have hfl:(setB w).all CV.flat=true:=by
  refine List.all_eq_true.2 (fun c hc=>?_)
  obtain⟨k,_,rfl⟩:=List.mem_map.1 hc
  rfl
 have hany:ztt (setB w)=false:=by
  rw[←zlE,List.any_eq_false]
  intro c hc
  obtain⟨k,_,rfl⟩:=List.mem_map.1 hc
  simp[CV.isAny]
 generalize setB w=B at *
 refine zab.of mixed (fn:=Tryz.f196) (by kernel_rfl) (by kernel_rfl) rfl (by kernel_rfl) (by simp[Tryz.f196]) (fun hok=>?_)
 have hsm:s.length≤maxLen:=by have:=hok _ List.mem_cons_self;simp[XV.ok,CV.ok] at this;exact this
 unfold maxLen at hsm
 simp -implicitDefEqProofs[h0,h1]
 refine zac.of (znf s.length) ?_
 simp -implicitDefEqProofs[h8']
 refine zac.of k1 ?_
 simp -implicitDefEqProofs[hlen,hset,hfl]
 refine zaK.of Nat (fun i=>[(0,.x (.one (.str s))),(6,.box B),(8,.x (.one (.int .i64 i)))]) (fun i=>i≤s.length∧Lib.NoAny s w i) (fun i=>s.length-i) 0 ⟨Nat.zero_le _,Lib.NoAny.zero _ _⟩ ?_ ?_
 ·simp
 rintro i ⟨hi,hno⟩
 by_cases hlt:i<s.length
 ·have hlt':((i:Int)<(s.length:Int))=True:=eq_true (by omega)
  have hwr:IntKind.i64.wrap ((i:Int)+1)=(i:Int)+1:=zaq _ (by omega)
  have hx:s[i]?=some s[i]:=List.getElem?_eq_getElem hlt
  simp -implicitDefEqProofs[hlt,hlt',hx,hfl,hany]
  refine zb0.of (kc s[i]) ?_
  cases hc:w.contains s[i]
  ·simp -implicitDefEqProofs[hc]
   refine zaz.of (i+1) ⟨hlt,hno.succ hx hc⟩ (by omega) ?_
   simp[hwr]
  ·rw[Lib.indexAny_hit hno hx hc] at eR
   subst eR
   simp -implicitDefEqProofs[hc]
 ·have hlt':((i:Int)<(s.length:Int))=False:=eq_false (by omega)
  obtain rfl:i=s.length:=by omega
  rw[Lib.indexAny_none hno] at eR
  subst eR
  simp -implicitDefEqProofs[hlt']
theorem zck(s w:List UInt8)(hs:zhs s)(hw:zhs w)(hl:2≤w.length)(hl2:w.length<4294967281):zab Tryz.prog 108 [.one (.str s),.one (.str w)] (.x (.one (.bool (Lib.containsAny s w)))):=by
 by_cases h8:s.length≤8
 ·refine znw [.string ⟨s.toArray⟩,.string ⟨w.toArray⟩] (zbm Tryz.f108 (by kernel_rfl) (by kernel_rfl) rfl) rfl (fun _=>rfl) (fun _ W _=>?_)
  have hc:=Go.Proofs.Any.strings_ContainsAny_laid zxO zsu ⟨s.toArray⟩ ⟨w.toArray⟩ W (by simp only[ByteArray.size,List.size_toArray];omega) (by simp only[ByteArray.size,List.size_toArray];omega) (fun j b hb=>hs.at j b (by simpa using hb)) (fun j b hb=>hw.at j b (by simpa using hb))
  refine hc.mono ?_
  rintro e w' ⟨rfl,hb⟩
  exact⟨_,rfl,hb,fun S=>zaH.bool _⟩
 ·have k:=zjS s w hw hl hl2 (by omega)
  unfold Lib.containsAny
  refine zab.of mixed (fn:=Tryz.f108) (by kernel_rfl) (by kernel_rfl) rfl (by kernel_rfl) (by simp[Tryz.f108]) (fun hok=>?_)
  simp -implicitDefEqProofs
  refine zac.of k ?_
  simp -implicitDefEqProofs
set_option maxHeartbeats 4000000
def zVX(l:List UInt8):Prop:=∀c∈l,c≠13∧c≠10
structure zUd(h:Head):Prop where
 ne:h.name≠[]
 colon:(58:UInt8)∉h.name
 name:zVX h.name
 value:zVX h.value
 other:h.name≠lengthS
set_option maxHeartbeats 8000000
structure zhr where
 kind:Int
 name:List UInt8
def zhr.row(r:zhr):List CV:=[.int .i64 r.kind,.str r.name]
def zhr.fit(r:zhr):Prop:=r.name.length≤300000000000000
def zEB:List UInt8:=[47,63,38,61,37,65,66,67,68,69,70,71,72,73,74,75,76,77,78,79,80,81,82,83,84,85,86,87,88,89,90]
def zzm(a b:zhr):Int:=zbS [zk2 a.kind b.kind,Lib.compareBytes a.name b.name]
def zuH(p:Option zhr)(x:zhr):Int:=
 if x.kind<1∨7<x.kind then 4
 else if decide (x.kind=5∨x.kind=7)≠decide (x.name≠[]) then 3
 else if rowB [] x.name=false then 3
 else if Lib.containsAny x.name zEB=true then 3
 else match p with
  |some q=>if 0≤zzm q x then 8 else 0
  |none=>0
def zf5:Option zhr→List zhr→Int
 |_,[]=>0
 |p,x::r=>if zuH p x≠0 then zuH p x else zf5 (some x) r
def zle(l:List zhr):Int:=if 50<l.length then 2 else zf5 none l
def zgp(l:List zhr):Nat→Option zhr
 |0=>none
 |i+1=>l[i]?
theorem zjR:zhs zEB:=by
 unfold zhs;decide
theorem zik:∀{s:List UInt8},(zbD [] s).2=true→zhs s
 |[],_=>fun _ h=>by cases h
 |c::r,h=>by
  unfold zbD at h
  rw[if_neg (by simp)] at h
  split at h
  ·cases h
  ·rename_i hc
   intro x hx
   rcases List.mem_cons.1 hx with rfl | hx
   ·have hr:zsD x=true:=by cases e:zsD x with | true=>rfl | false=>exact absurd (.inl e) hc
    unfold zsD at hr
    rw[Bool.and_eq_true,Bool.and_eq_true,decide_eq_true_iff,decide_eq_true_iff] at hr
    omega
   ·exact zik h x hx
theorem zjw{s:List UInt8}(h:rowB [] s=true):zhs s:=by
 unfold rowB at h
 rw[Bool.and_eq_true] at h
 exact zik h.1
theorem zse{l:List zhr}{i:Nat}(h:i<l.length):zf5 (zgp l i) (l.drop i)=if zuH (zgp l i) l[i]≠0 then zuH (zgp l i) l[i] else zf5 (zgp l (i+1)) (l.drop (i+1)):=by
 rw[List.drop_eq_getElem_cons h]
 have:zgp l (i+1)=some l[i]:=List.getElem?_eq_getElem h
 rw[this]
 rfl
theorem zgH(l:List zhr)(hf:∀r∈l,r.fit):zab Tryz.prog 62 [.one (.list 2 (l.map zhr.row))] (.x (.one (.int .i64 (zle l)))):=by
 obtain⟨R,eR⟩:∃R,R=zle l:=⟨_,rfl⟩
 rw[←eR]
 unfold zle at eR
 refine zab.of mixed (fn:=Tryz.f62) (by kernel_rfl) (by kernel_rfl) rfl (by kernel_rfl) (by simp[Tryz.f62]) (fun hok=>?_)
 by_cases h50:50<l.length
 ·rw[if_pos h50] at eR
  subst eR
  have h50':((50:Int)<(l.length:Int))=True:=eq_true (by omega)
  simp -implicitDefEqProofs[h50']
 rw[if_neg h50] at eR
 have h50':((50:Int)<(l.length:Int))=False:=eq_false (by omega)
 simp -implicitDefEqProofs[h50']
 refine zaK.of Nat (fun i=>[(0,.x (.one (.list 2 (l.map zhr.row)))),(9,.x (.one (.list 2 (l.map zhr.row)))),(10,.x (.one (.int .i64 l.length))),(11,.x (.one (.int .i64 i)))]) (fun i=>i≤l.length∧R=zf5 (zgp l i) (l.drop i)) (fun i=>l.length-i) 0 ⟨Nat.zero_le _,by simpa[zgp] using eR⟩ ?_ ?_
 ·simp
 rintro i ⟨hi,hR⟩
 by_cases hlt:i<l.length
 rotate_left
 ·have hlt':((i:Int)<(l.length:Int))=False:=eq_false (by omega)
  obtain rfl:i=l.length:=by omega
  rw[List.drop_length] at hR
  have hR:R=0:=by rw[hR];unfold zf5;rfl
  subst hR
  simp -implicitDefEqProofs[hlt']
 have hlt':((i:Int)<(l.length:Int))=True:=eq_true (by omega)
 have hwr:IntKind.i64.wrap ((i:Int)+1)=(i:Int)+1:=zaq _ (by omega)
 have hwm:IntKind.i64.wrap ((i:Int)-1)=(i:Int)-1:=zaq _ (by omega)
 have hrow:l[i].row=[.int .i64 l[i].kind,.str l[i].name]:=rfl
 rw[zse hlt] at hR
 have hfit:=hf l[i] (List.getElem_mem hlt)
 unfold zhr.fit at hfit
 have k1:=zoD l[i].name [] (by omega) (by simp)
 obtain⟨v,ev⟩:∃v,v=zuH (zgp l i) l[i]:=⟨_,rfl⟩
 rw[←ev] at hR
 unfold zuH at ev
 rcases (by omega:l[i].kind<1∨7<l[i].kind∨l[i].kind=5∨l[i].kind=7∨(1≤l[i].kind∧l[i].kind≤7∧l[i].kind≠5∧l[i].kind≠7)) with hk | hk | hk | hk | hk
 ·rw[if_pos (.inl hk)] at ev
  subst ev
  have hR:R=4:=hR
  subst hR
  have e1:(l[i].kind<1)=True:=eq_true hk
  simp -implicitDefEqProofs[hlt,hlt',hrow,e1]
 ·rw[if_pos (.inr hk)] at ev
  subst ev
  have hR:R=4:=hR
  subst hR
  have e1:(l[i].kind<1)=False:=eq_false (by omega)
  have e7:(7<l[i].kind)=True:=eq_true hk
  simp -implicitDefEqProofs[hlt,hlt',hrow,e1,e7]
 ·rw[if_neg (by omega)] at ev
  have e1:(l[i].kind<1)=False:=eq_false (by omega)
  have e7:(7<l[i].kind)=False:=eq_false (by omega)
  have e5:(l[i].kind==5)=true:=by simp[hk]
  by_cases hn:l[i].name=[]
  ·have en:(l[i].name=[])=True:=eq_true hn
   rw[if_pos (by rw[hn];simp[hk])] at ev
   subst ev
   have hR:R=3:=hR
   subst hR
   simp -implicitDefEqProofs[hlt,hlt',hrow,e1,e7,e5,en]
  rw[if_neg (by simp[hn,hk])] at ev
  have en:l[i].name.isEmpty=false:=by simp[hn]
  simp -implicitDefEqProofs[hlt,hlt',hrow,e1,e7,e5,en]
  refine zac.of k1 ?_
  cases hb:rowB [] l[i].name
  ·rw[if_pos hb] at ev
   subst ev
   have hR:R=3:=hR
   subst hR
   simp -implicitDefEqProofs[hlt,hlt',hrow,e1,e7,e5,en,hb]
   refine zah.of (fun h=>by cases h) (r:=.x (.one (.bool true))) rfl ?_
   simp -implicitDefEqProofs[hlt,hlt',hrow,e1,e7,e5,en,hb]
  rw[if_neg (by rw[hb];decide)] at ev
  have k2:=zck l[i].name zEB (zjw hb) zjR (by decide) (by decide)
  unfold zEB at k2 ev
  simp -implicitDefEqProofs[hlt,hlt',hrow,e1,e7,e5,en,hb]
  refine zah.of (fun _=>k2) rfl ?_
  cases hc:Lib.containsAny l[i].name [47,63,38,61,37,65,66,67,68,69,70,71,72,73,74,75,76,77,78,79,80,81,82,83,84,85,86,87,88,89,90]
  rotate_left
  ·rw[if_pos hc] at ev
   subst ev
   have hR:R=3:=hR
   subst hR
   simp -implicitDefEqProofs[hlt,hlt',hrow,e1,e7,e5,en,hb,hc]
  rw[if_neg (by rw[hc];decide)] at ev
  cases i with
  |zero =>
   have ev:v=0:=ev
   subst ev
   have hR:R=zf5 (zgp l 1) (l.drop 1):=hR
   have hw1:IntKind.i64.wrap (-1)=-1:=by decide
   have hx0:l[0]?=some l[0]:=List.getElem?_eq_getElem hlt
   simp -implicitDefEqProofs[hlt,hlt',hrow,e1,e7,e5,en,hb,hc,hw1,hx0]
   refine zah.of (fun h=>by cases h) (r:=.x (.one (.int .i64 0))) rfl ?_
   simp -implicitDefEqProofs[hlt,hlt',hrow,e1,e7,e5,en,hb,hc,hw1,hx0]
   refine zah.of (fun h=>by cases h) (r:=.x (.one (.int .i64 0))) rfl ?_
   simp -implicitDefEqProofs[hlt,hlt',hrow,e1,e7,e5,en,hb,hc,hw1,hx0]
   refine zah.of (fun h=>by cases h) (r:=.x (.one (.int .i64 0))) rfl ?_
   simp -implicitDefEqProofs[hlt,hlt',hrow,e1,e7,e5,en,hb,hc,hw1,hx0]
   refine zaz.of 1 ⟨hlt,hR⟩ (by omega) ?_
   simp[show IntKind.i64.wrap 1=1 by decide]
  |succ i =>
   have hltp:i<l.length:=by omega
   have hwi:IntKind.i64.wrap (i:Int)=(i:Int):=zaq _ (by omega)
   have hwj:IntKind.i64.wrap ((i:Int)+1+1)=(i:Int)+1+1:=zaq _ (by omega)
   have hrowp:l[i].row=[.int .i64 l[i].kind,.str l[i].name]:=rfl
   have hp:zgp l (i+1)=some l[i]:=List.getElem?_eq_getElem hltp
   rw[hp] at ev
   dsimp only at ev
   simp -implicitDefEqProofs[hlt,hlt',hrow,e1,e7,e5,en,hb,hc,hltp,hwi,hwj,hrowp]
   refine zah.of (fun _=>zeq _ _) rfl ?_
   simp -implicitDefEqProofs[hlt,hlt',hrow,e1,e7,e5,en,hb,hc,hltp,hwi,hwj,hrowp]
   refine zah.of (fun _=>strings_Compare _ _) rfl ?_
   simp -implicitDefEqProofs[hlt,hlt',hrow,e1,e7,e5,en,hb,hc,hltp,hwi,hwj,hrowp]
   have k3:zab Tryz.prog 93 [.one (.list 1 [[.int .i64 (zk2 l[i].kind l[i+1].kind)],[.int .i64 (Lib.compareBytes l[i].name l[i+1].name)]])] (.x (.one (.int .i64 (zbS [zk2 l[i].kind l[i+1].kind,Lib.compareBytes l[i].name l[i+1].name])))):=zsU [zk2 l[i].kind l[i+1].kind,Lib.compareBytes l[i].name l[i+1].name]
   refine zah.of (fun _=>k3) rfl ?_
   by_cases h8:0≤zzm l[i] l[i+1]
   ·rw[if_pos h8] at ev
    subst ev
    have hR:R=8:=hR
    subst hR
    unfold zzm at h8
    have h8':(0≤zbS [zk2 l[i].kind l[i+1].kind,Lib.compareBytes l[i].name l[i+1].name])=True:=eq_true h8
    simp -implicitDefEqProofs[hlt,hlt',hrow,e1,e7,e5,en,hb,hc,hltp,hwi,hwj,hrowp,h8']
   ·rw[if_neg h8] at ev
    subst ev
    have hR:R=zf5 (zgp l (i+1+1)) (l.drop (i+1+1)):=hR
    unfold zzm at h8
    have h8':(0≤zbS [zk2 l[i].kind l[i+1].kind,Lib.compareBytes l[i].name l[i+1].name])=False:=eq_false h8
    simp -implicitDefEqProofs[hlt,hlt',hrow,e1,e7,e5,en,hb,hc,hltp,hwi,hwj,hrowp,h8']
    refine zaz.of (i+1+1) ⟨hlt,hR⟩ (by omega) ?_
    simp[hwj]
 ·rw[if_neg (by omega)] at ev
  have e1:(l[i].kind<1)=False:=eq_false (by omega)
  have e7:(7<l[i].kind)=False:=eq_false (by omega)
  have e5:(l[i].kind==5)=false:=by simp;omega
  have e9:(l[i].kind==7)=true:=by simp[hk]
  by_cases hn:l[i].name=[]
  ·have en:(l[i].name=[])=True:=eq_true hn
   rw[if_pos (by rw[hn];simp[hk])] at ev
   subst ev
   have hR:R=3:=hR
   subst hR
   simp -implicitDefEqProofs[hlt,hlt',hrow,e1,e7,e5,e9,en]
  rw[if_neg (by simp[hn,hk])] at ev
  have en:l[i].name.isEmpty=false:=by simp[hn]
  simp -implicitDefEqProofs[hlt,hlt',hrow,e1,e7,e5,e9,en]
  refine zac.of k1 ?_
  cases hb:rowB [] l[i].name
  ·rw[if_pos hb] at ev
   subst ev
   have hR:R=3:=hR
   subst hR
   simp -implicitDefEqProofs[hlt,hlt',hrow,e1,e7,e5,e9,en,hb]
   refine zah.of (fun h=>by cases h) (r:=.x (.one (.bool true))) rfl ?_
   simp -implicitDefEqProofs[hlt,hlt',hrow,e1,e7,e5,e9,en,hb]
  rw[if_neg (by rw[hb];decide)] at ev
  have k2:=zck l[i].name zEB (zjw hb) zjR (by decide) (by decide)
  unfold zEB at k2 ev
  simp -implicitDefEqProofs[hlt,hlt',hrow,e1,e7,e5,e9,en,hb]
  refine zah.of (fun _=>k2) rfl ?_
  cases hc:Lib.containsAny l[i].name [47,63,38,61,37,65,66,67,68,69,70,71,72,73,74,75,76,77,78,79,80,81,82,83,84,85,86,87,88,89,90]
  rotate_left
  ·rw[if_pos hc] at ev
   subst ev
   have hR:R=3:=hR
   subst hR
   simp -implicitDefEqProofs[hlt,hlt',hrow,e1,e7,e5,e9,en,hb,hc]
  rw[if_neg (by rw[hc];decide)] at ev
  cases i with
  |zero =>
   have ev:v=0:=ev
   subst ev
   have hR:R=zf5 (zgp l 1) (l.drop 1):=hR
   have hw1:IntKind.i64.wrap (-1)=-1:=by decide
   have hx0:l[0]?=some l[0]:=List.getElem?_eq_getElem hlt
   simp -implicitDefEqProofs[hlt,hlt',hrow,e1,e7,e5,e9,en,hb,hc,hw1,hx0]
   refine zah.of (fun h=>by cases h) (r:=.x (.one (.int .i64 0))) rfl ?_
   simp -implicitDefEqProofs[hlt,hlt',hrow,e1,e7,e5,e9,en,hb,hc,hw1,hx0]
   refine zah.of (fun h=>by cases h) (r:=.x (.one (.int .i64 0))) rfl ?_
   simp -implicitDefEqProofs[hlt,hlt',hrow,e1,e7,e5,e9,en,hb,hc,hw1,hx0]
   refine zah.of (fun h=>by cases h) (r:=.x (.one (.int .i64 0))) rfl ?_
   simp -implicitDefEqProofs[hlt,hlt',hrow,e1,e7,e5,e9,en,hb,hc,hw1,hx0]
   refine zaz.of 1 ⟨hlt,hR⟩ (by omega) ?_
   simp[show IntKind.i64.wrap 1=1 by decide]
  |succ i =>
   have hltp:i<l.length:=by omega
   have hwi:IntKind.i64.wrap (i:Int)=(i:Int):=zaq _ (by omega)
   have hwj:IntKind.i64.wrap ((i:Int)+1+1)=(i:Int)+1+1:=zaq _ (by omega)
   have hrowp:l[i].row=[.int .i64 l[i].kind,.str l[i].name]:=rfl
   have hp:zgp l (i+1)=some l[i]:=List.getElem?_eq_getElem hltp
   rw[hp] at ev
   dsimp only at ev
   simp -implicitDefEqProofs[hlt,hlt',hrow,e1,e7,e5,e9,en,hb,hc,hltp,hwi,hwj,hrowp]
   refine zah.of (fun _=>zeq _ _) rfl ?_
   simp -implicitDefEqProofs[hlt,hlt',hrow,e1,e7,e5,e9,en,hb,hc,hltp,hwi,hwj,hrowp]
   refine zah.of (fun _=>strings_Compare _ _) rfl ?_
   simp -implicitDefEqProofs[hlt,hlt',hrow,e1,e7,e5,e9,en,hb,hc,hltp,hwi,hwj,hrowp]
   have k3:zab Tryz.prog 93 [.one (.list 1 [[.int .i64 (zk2 l[i].kind l[i+1].kind)],[.int .i64 (Lib.compareBytes l[i].name l[i+1].name)]])] (.x (.one (.int .i64 (zbS [zk2 l[i].kind l[i+1].kind,Lib.compareBytes l[i].name l[i+1].name])))):=zsU [zk2 l[i].kind l[i+1].kind,Lib.compareBytes l[i].name l[i+1].name]
   refine zah.of (fun _=>k3) rfl ?_
   by_cases h8:0≤zzm l[i] l[i+1]
   ·rw[if_pos h8] at ev
    subst ev
    have hR:R=8:=hR
    subst hR
    unfold zzm at h8
    have h8':(0≤zbS [zk2 l[i].kind l[i+1].kind,Lib.compareBytes l[i].name l[i+1].name])=True:=eq_true h8
    simp -implicitDefEqProofs[hlt,hlt',hrow,e1,e7,e5,e9,en,hb,hc,hltp,hwi,hwj,hrowp,h8']
   ·rw[if_neg h8] at ev
    subst ev
    have hR:R=zf5 (zgp l (i+1+1)) (l.drop (i+1+1)):=hR
    unfold zzm at h8
    have h8':(0≤zbS [zk2 l[i].kind l[i+1].kind,Lib.compareBytes l[i].name l[i+1].name])=False:=eq_false h8
    simp -implicitDefEqProofs[hlt,hlt',hrow,e1,e7,e5,e9,en,hb,hc,hltp,hwi,hwj,hrowp,h8']
    refine zaz.of (i+1+1) ⟨hlt,hR⟩ (by omega) ?_
    simp[hwj]
 ·rw[if_neg (by omega)] at ev
  have e1:(l[i].kind<1)=False:=eq_false (by omega)
  have e7:(7<l[i].kind)=False:=eq_false (by omega)
  have e5:(l[i].kind==5)=false:=by simp;omega
  have e9:(l[i].kind==7)=false:=by simp;omega
  by_cases hn:l[i].name≠[]
  ·have en:l[i].name.isEmpty=false:=by simp;exact hn
   rw[if_pos (by rw[decide_eq_false (by omega),decide_eq_true hn];decide)] at ev
   subst ev
   have hR:R=3:=hR
   subst hR
   simp -implicitDefEqProofs[hlt,hlt',hrow,e1,e7,e5,e9,en]
  have hn:l[i].name=[]:=Decidable.of_not_not hn
  rw[if_neg (by rw[decide_eq_false (by omega),decide_eq_false (p:=l[i].name≠[]) (by simp[hn])];decide)] at ev
  have en:l[i].name.isEmpty=true:=by simp[hn]
  simp -implicitDefEqProofs[hlt,hlt',hrow,e1,e7,e5,e9,en]
  refine zac.of k1 ?_
  cases hb:rowB [] l[i].name
  ·rw[if_pos hb] at ev
   subst ev
   have hR:R=3:=hR
   subst hR
   simp -implicitDefEqProofs[hlt,hlt',hrow,e1,e7,e5,e9,en,hb]
   refine zah.of (fun h=>by cases h) (r:=.x (.one (.bool true))) rfl ?_
   simp -implicitDefEqProofs[hlt,hlt',hrow,e1,e7,e5,e9,en,hb]
  rw[if_neg (by rw[hb];decide)] at ev
  have k2:=zck l[i].name zEB (zjw hb) zjR (by decide) (by decide)
  unfold zEB at k2 ev
  simp -implicitDefEqProofs[hlt,hlt',hrow,e1,e7,e5,e9,en,hb]
  refine zah.of (fun _=>k2) rfl ?_
  cases hc:Lib.containsAny l[i].name [47,63,38,61,37,65,66,67,68,69,70,71,72,73,74,75,76,77,78,79,80,81,82,83,84,85,86,87,88,89,90]
  rotate_left
  ·rw[if_pos hc] at ev
   subst ev
   have hR:R=3:=hR
   subst hR
   simp -implicitDefEqProofs[hlt,hlt',hrow,e1,e7,e5,e9,en,hb,hc]
  rw[if_neg (by rw[hc];decide)] at ev
  cases i with
  |zero =>
   have ev:v=0:=ev
   subst ev
   have hR:R=zf5 (zgp l 1) (l.drop 1):=hR
   have hw1:IntKind.i64.wrap (-1)=-1:=by decide
   have hx0:l[0]?=some l[0]:=List.getElem?_eq_getElem hlt
   simp -implicitDefEqProofs[hlt,hlt',hrow,e1,e7,e5,e9,en,hb,hc,hw1,hx0]
   refine zah.of (fun h=>by cases h) (r:=.x (.one (.int .i64 0))) rfl ?_
   simp -implicitDefEqProofs[hlt,hlt',hrow,e1,e7,e5,e9,en,hb,hc,hw1,hx0]
   refine zah.of (fun h=>by cases h) (r:=.x (.one (.int .i64 0))) rfl ?_
   simp -implicitDefEqProofs[hlt,hlt',hrow,e1,e7,e5,e9,en,hb,hc,hw1,hx0]
   refine zah.of (fun h=>by cases h) (r:=.x (.one (.int .i64 0))) rfl ?_
   simp -implicitDefEqProofs[hlt,hlt',hrow,e1,e7,e5,e9,en,hb,hc,hw1,hx0]
   refine zaz.of 1 ⟨hlt,hR⟩ (by omega) ?_
   simp[show IntKind.i64.wrap 1=1 by decide]
  |succ i =>
   have hltp:i<l.length:=by omega
   have hwi:IntKind.i64.wrap (i:Int)=(i:Int):=zaq _ (by omega)
   have hwj:IntKind.i64.wrap ((i:Int)+1+1)=(i:Int)+1+1:=zaq _ (by omega)
   have hrowp:l[i].row=[.int .i64 l[i].kind,.str l[i].name]:=rfl
   have hp:zgp l (i+1)=some l[i]:=List.getElem?_eq_getElem hltp
   rw[hp] at ev
   dsimp only at ev
   simp -implicitDefEqProofs[hlt,hlt',hrow,e1,e7,e5,e9,en,hb,hc,hltp,hwi,hwj,hrowp]
   refine zah.of (fun _=>zeq _ _) rfl ?_
   simp -implicitDefEqProofs[hlt,hlt',hrow,e1,e7,e5,e9,en,hb,hc,hltp,hwi,hwj,hrowp]
   refine zah.of (fun _=>strings_Compare _ _) rfl ?_
   simp -implicitDefEqProofs[hlt,hlt',hrow,e1,e7,e5,e9,en,hb,hc,hltp,hwi,hwj,hrowp]
   have k3:zab Tryz.prog 93 [.one (.list 1 [[.int .i64 (zk2 l[i].kind l[i+1].kind)],[.int .i64 (Lib.compareBytes l[i].name l[i+1].name)]])] (.x (.one (.int .i64 (zbS [zk2 l[i].kind l[i+1].kind,Lib.compareBytes l[i].name l[i+1].name])))):=zsU [zk2 l[i].kind l[i+1].kind,Lib.compareBytes l[i].name l[i+1].name]
   refine zah.of (fun _=>k3) rfl ?_
   by_cases h8:0≤zzm l[i] l[i+1]
   ·rw[if_pos h8] at ev
    subst ev
    have hR:R=8:=hR
    subst hR
    unfold zzm at h8
    have h8':(0≤zbS [zk2 l[i].kind l[i+1].kind,Lib.compareBytes l[i].name l[i+1].name])=True:=eq_true h8
    simp -implicitDefEqProofs[hlt,hlt',hrow,e1,e7,e5,e9,en,hb,hc,hltp,hwi,hwj,hrowp,h8']
   ·rw[if_neg h8] at ev
    subst ev
    have hR:R=zf5 (zgp l (i+1+1)) (l.drop (i+1+1)):=hR
    unfold zzm at h8
    have h8':(0≤zbS [zk2 l[i].kind l[i+1].kind,Lib.compareBytes l[i].name l[i+1].name])=False:=eq_false h8
    simp -implicitDefEqProofs[hlt,hlt',hrow,e1,e7,e5,e9,en,hb,hc,hltp,hwi,hwj,hrowp,h8']
    refine zaz.of (i+1+1) ⟨hlt,hR⟩ (by omega) ?_
    simp[hwj]
end Go.Proofs.YtlcmnclbljedfaaGreatDoor
namespace Go.Ab
open Go Go.RowKit
variable [Amb]
@[simp]theorem zKJ(a b:Bool)(k v:List (List CV)):strip (.x (.one (.mapv a b k v)))=(True,.x (.one (.mapv a b k v))):=rfl
@[simp]theorem zzx(s:St)(r:AV)(p:Prop)(a b:Bool)(k v:List (List CV)):za0 s r (p,.x (.one (.mapv a b k v)))=(p,.x (.one (.mapv a b k v))):=rfl
@[simp]theorem zPL(s:St)(a:Option Addr):look s (.const (.pointer a))=.x (.one (.atom (.pointer a))):=rfl
theorem zaG.freeze{n:Nat}{s:St}{X:St→Prop}(l:List Nat)(h:@zaG _ n (zas s l) ⟨X⟩):@zaG _ n s ⟨X⟩:=fun _ _ _ _ hR=>h _ _ _ _ (zb3 l s hR)
end Go.Ab
namespace Go.Proofs.YtlcmnclbljedfaaGreatDoor
open Go Go.Ab
variable [Amb][zaY 0][zal Tryz.prog]
set_option maxRecDepth 100000
set_option maxHeartbeats 8000000
def zrX{α β:Type}[DecidableEq α](l:List (α×β))(k:α)(v:β):List (α×β):=match l.findIdx? (fun p=>decide (k=p.1)) with
 |some i=>l.set i (k,v)
 |none=>l++[(k,v)]
def zuf{α β:Type}[DecidableEq α](l:List (α×β))(k:α):Option β:=(l.find? (fun p=>decide (k=p.1))).map (·.2)
def znd{α β:Type}(ek:α→XV)(ev:β→XV)(l:List (α×β)):List (XV×XV):=l.map fun p=>(ek p.1,ev p.2)
theorem zdg{α β:Type}[DecidableEq α]{kk:KK}{ek:α→XV}{ev:β→XV}(h:∀a b,zl6 kk (ek a) (ek b)=some (decide (a=b)))(k:α):∀(l:List (α×β)) (i:Nat),zbz kk (ek k) (znd ek ev l) i=some ((l.findIdx? (fun p=>decide (k=p.1))).map (·+i))
 |[],i=>rfl
 |p::r,i=>by
  have ih:=zdg h k r (i+1) (ev:=ev)
  show (match zl6 kk (ek k) (ek p.1) with | some true=>some (some i) | some false=>zbz kk (ek k) (znd ek ev r) (i+1) | none=>none)=_
  rw[h]
  by_cases hk:k=p.1
  ·rw[List.findIdx?_cons]
   simp[hk]
  ·rw[List.findIdx?_cons]
   simp only[hk,decide_false]
   rw[ih]
   cases r.findIdx? (fun p=>decide (k=p.1)) with
   |none=>rfl
   |some j=>simp;omega
theorem zoT{α β:Type}[DecidableEq α]{ek:α→XV}{ev:β→XV}{l:List (α×β)}{k:α}{v:β}(c:Nat)(bs:List Nat) :
  ∀o,l.findIdx? (fun p=>decide (k=p.1))=o→(zij c bs (znd ek ev l) (ek k) (ev v) o).2.2=znd ek ev (zrX l k v)
 |some i,h=>by unfold zrX;rw[h];simp[zij,znd,List.map_set]
 |none,h=>by unfold zrX;rw[h];simp[zij,znd]
theorem zoK{α β:Type}[DecidableEq α]{l:List (α×β)}{k:α}:∀{o:Option Nat},l.findIdx? (fun p=>decide (k=p.1))=o→(∃i v,o=some i∧zuf l k=some v∧l[i]?=some (k,v))∨(o=none∧zuf l k=none)
 |some i,h=>by
  obtain⟨hlt,he,hn⟩:=List.findIdx?_eq_some_iff_getElem.1 h
  have hk:k=l[i].1:=of_decide_eq_true he
  refine .inl ⟨i,l[i].2,rfl,?_,by rw[List.getElem?_eq_getElem hlt,hk]⟩
  unfold zuf
  have:l.find? (fun p=>decide (k=p.1))=some l[i]:=by
   rw[List.find?_eq_some_iff_getElem]
   exact⟨he,i,hlt,rfl,fun j hj=>by simpa using hn j hj⟩
  rw[this];rfl
 |none,h=>by
  refine .inr ⟨rfl,?_⟩
  unfold zuf
  rw[List.findIdx?_eq_none_iff] at h
  have:l.find? (fun p=>decide (k=p.1))=none:=List.find?_eq_none.2 (fun p hp=>by rw[h p hp];decide)
  rw[this];rfl
abbrev IdM:=List ((Int×Int)×List UInt8)
def idK(k:Int×Int):XV:=.agg [.int .i64 k.1,.int .i64 k.2]
def zrp(s:List UInt8):XV:=.one (.str s)
theorem zsN(a b:Int×Int):zl6 (.st [.i,.i]) (idK a) (idK b)=some (decide (a=b)):=by
 obtain⟨a1,a2⟩:=a
 obtain⟨b1,b2⟩:=b
 show (if zjl [.i,.i] [.int .i64 a1,.int .i64 a2] [.int .i64 b1,.int .i64 b2]=true then some (zjN [.int .i64 a1,.int .i64 a2] [.int .i64 b1,.int .i64 b2]) else none)=_
 rw[if_pos (by simp)]
 congr 1
 by_cases h1:a1=b1<;>by_cases h2:a2=b2<;>simp[zjN,h1,h2]
theorem zoS(a b:List UInt8):zl6 .s (zrp a) (zrp b)=some (decide (a=b)):=by
 show some (a==b)=_
 congr 1
 by_cases h:a=b<;>simp[h]
def zmU(m:IdM):List (XV×XV):=znd idK zrp m
def zfx(m:IdM):List (List CV):=m.map fun p=>[.int .i64 p.1.1,.int .i64 p.1.2]
def zfp(m:IdM):List (List CV):=m.map fun p=>[.str p.2]
def zVi(m:IdM):CV:=.mapv true false (zfx m) (zfp m)
theorem zoN(m:IdM):zmU m=mvE true false (zfx m) (zfp m):=by
 unfold mvE zfx zfp
 rw[List.zip_map,List.map_map]
 unfold zmU znd
 induction m with
 |nil=>rfl
 |cons p r ih=>simp only[List.map_cons,List.zip_cons_cons,ih];rfl
structure ziR where
 recs:List Rec
 ids:IdM
def ziR.row(f:ziR):List CV:=[.list 7 (f.recs.map Rec.row),zVi f.ids]
abbrev zbW:=List (List UInt8×ziR)
def zAq(f:ziR):XV:=.agg f.row
def zci(m:zbW):List (XV×XV):=znd zrp zAq m
def zcZ(m:zbW):List (List CV):=m.map fun p=>[.str p.1]
def zdb(m:zbW):List (List CV):=m.map fun p=>p.2.row
def zlh(m:zbW):CV:=.mapv false true (zcZ m) (zdb m)
theorem zlX(m:zbW):zci m=mvE false true (zcZ m) (zdb m):=by
 unfold mvE zcZ zdb
 rw[List.zip_map,List.map_map]
 unfold zci znd
 induction m with
 |nil=>rfl
 |cons p r ih=>simp only[List.map_cons,List.zip_cons_cons,ih];rfl
def zaN(M:List Mark):IdM:=M.foldl (fun m x=>zrX m ((x.lo:Int),(x.hi:Int)) x.id) []
theorem zmb{M:List Mark}{i:Nat}(h:i<M.length):zaN (M.take (i+1))=zrX (zaN (M.take i)) ((M[i].lo:Int),(M[i].hi:Int)) M[i].id:=by
 rw[List.take_succ_eq_append_getElem h]
 unfold zaN
 rw[List.foldl_append]
 rfl
theorem zpi{α β:Type}[DecidableEq α]{l:List (α×β)}{k:α}{v:β}{p:α×β}(h:p∈zrX l k v):p∈l∨p=(k,v):=by
 unfold zrX at h
 split at h
 ·exact(List.mem_or_eq_of_mem_set h)
 ·rcases List.mem_append.1 h with h | h
  ·exact .inl h
  ·exact .inr (List.mem_singleton.1 h)
theorem zuE:∀{M:List Mark} {p:(Int×Int)×List UInt8},p∈zaN M→∃m∈M,m.id=p.2:=by
 intro M
 have key:∀(M:List Mark) (a:IdM) (p:(Int×Int)×List UInt8),p∈M.foldl (fun m x=>zrX m ((x.lo:Int),(x.hi:Int)) x.id) a→p∈a∨∃m∈M,m.id=p.2:=by
  intro M
  induction M with
  |nil=>exact fun a p h=>.inl h
  |cons x r ih =>
   intro a p h
   rcases ih _ _ h with h | ⟨m,hm,e⟩
   ·rcases zpi h with h | rfl
    ·exact .inl h
    ·exact .inr ⟨x,by simp,rfl⟩
   ·exact .inr ⟨m,by simp[hm],e⟩
 intro p h
 exact(key M [] p h).resolve_left (by simp)
theorem zyg(b:List UInt8):∀(n a:Nat) (L:List Rec) (M:List Mark),(∀m∈M,∃r∈L,r.id=m.id)→∀m∈(goF n b a L M).2.1,∃r∈(goF n b a L M).1,r.id=m.id
 |0,_,_,_,_=>fun m hm=>by cases hm
 |n+1,a,L,M,h=>by
  unfold goF
  split
  ·split
   ·intro m hm;cases hm
   ·refine zyg b n _ _ _ (fun m hm=>?_)
    rcases List.mem_append.1 hm with hm | hm
    ·obtain⟨r,hr,e⟩:=h m hm
     exact⟨r,List.mem_append_left _ hr,e⟩
    ·rw[List.mem_singleton] at hm
     subst hm
     exact⟨_,List.mem_append_right _ (List.mem_singleton.2 rfl),rfl⟩
  ·split
   ·intro m hm;cases hm
   ·exact h
theorem zvE(b:List UInt8):∀m∈(zbQ b).2.1,∃r∈(zbQ b).1,r.id=m.id:=by
 unfold zbQ
 split
 ·intro m hm;cases hm
 ·exact zyg b _ _ _ _ (fun m hm=>by cases hm)
def ziR.ok(f:ziR):Prop:=(∀p∈f.ids,∃r∈f.recs,r.id=p.2)∧f.recs.length≤1000
def atF(f:ziR)(lo hi:Int):Rec×Bool:=match zuf f.ids (lo,hi) with
 |some w=>(findD f.recs w,true)
 |none=>(zm9,false)
theorem zBO(r:Rec)(w:List UInt8):zab Tryz.prog 110 [.agg r.row,.one (.ref [.str w])] (.x (.one (.bool (r.id==w)))):=by
 unfold Rec.row
 refine zab.of mixed (fn:=Tryz.f110) (by kernel_rfl) (by kernel_rfl) rfl (by kernel_rfl) (by simp[Tryz.f110]) (fun hok=>?_)
 simp -implicitDefEqProofs
theorem zGd(f:ziR)(hf:f.ok)(lo hi:Int):zab Tryz.prog 63 [.agg f.row,.agg [.int .i64 lo,.int .i64 hi]] (.tup [.agg (atF f lo hi).1.row,.one (.bool (atF f lo hi).2)]):=by
 have hfk:=zdg (ev:=zrp) zsN (lo,hi) f.ids 0
 have hE:znd idK zrp f.ids=mvE true false (zfx f.ids) (zfp f.ids):=zoN f.ids
 rw[hE] at hfk
 unfold idK at hfk
 obtain⟨hids,hlen⟩:=hf
 have hg:=zoK (α:=Int×Int) (β:=List UInt8) (l:=f.ids) (k:=(lo,hi)) rfl
 have hE2:∀(i:Nat) (w:List UInt8),f.ids[i]?=some ((lo,hi),w)→(mvE true false (zfx f.ids) (zfp f.ids))[i]?=some (XV.agg [.int .i64 lo,.int .i64 hi],XV.one (.str w)):=by
  intro i w h
  rw[←hE]
  unfold znd
  rw[List.getElem?_map,h]
  rfl
 unfold ziR.row zVi atF
 generalize f.ids.findIdx? (fun p=>decide ((lo,hi)=p.1))=O at *
 rcases hg with⟨i,w,rfl,hgw,hiw⟩ | ⟨rfl,hgw⟩
 ·rw[hgw]
  dsimp only at hfk ⊢
  have hEi:=hE2 i w hiw
  have hfk:zbz (.st [.i,.i]) (.agg [.int .i64 lo,.int .i64 hi]) (mvE true false (zfx f.ids) (zfp f.ids)) 0=some (some i):=hfk
  obtain⟨r0,hr0,e0⟩:=hids _ (List.mem_of_getElem? hiw)
  have k:=zfs f.recs 110 (.ref [.str w]) (fun r=>r.id==w) (fun r _=>zBO r w) (by omega)
  have hs:=zk4 (fun r:Rec=>r.id==w) f.recs
  unfold zey at k
  unfold findD zf0
  generalize f.recs=L at *
  generalize ixI (fun r:Rec=>r.id==w) L=I at *
  rcases hs with⟨rfl,hn⟩ | ⟨j,rfl,hj,hlt⟩
  ·exfalso
   rw[List.findIdx?_eq_none_iff] at hn
   have:=hn r0 hr0
   simp[e0] at this
  rw[hj]
  have hlt':((j:Int)<(L.length:Int))=True:=eq_true (by omega)
  have hrow:L[j].row=[.int .i64 L[j].kind,.str L[j].id,.str L[j].of,.int .i64 L[j].time,.str L[j].key,.list 2 (L[j].heads.map Head.row),za7 L[j].block]:=rfl
  have hLj:L[j]?=some L[j]:=List.getElem?_eq_getElem hlt
  refine zab.of mixed (fn:=Tryz.f63) (by kernel_rfl) (by kernel_rfl) rfl (by kernel_rfl) (by simp[Tryz.f63]) (fun hok=>?_)
  simp -implicitDefEqProofs[hfk,hEi]
  refine zac.of k ?_
  simp -implicitDefEqProofs[hlt,hlt',hrow,hLj]
 ·rw[hgw]
  have hfk:zbz (.st [.i,.i]) (.agg [.int .i64 lo,.int .i64 hi]) (mvE true false (zfx f.ids) (zfp f.ids)) 0=some none:=hfk
  refine zab.of mixed (fn:=Tryz.f63) (by kernel_rfl) (by kernel_rfl) rfl (by kernel_rfl) (by simp[Tryz.f63]) (fun hok=>?_)
  simp -implicitDefEqProofs[hfk,zm9,Rec.row]
structure Fil where
 name:List UInt8
 bytes:List UInt8
def Fil.row(f:Fil):List CV:=[.str f.name,za7 f.bytes]
structure Sto where
 entries:List Entry
 files:List Fil
 rules:List zhr
def Sto.cs(s:Sto):List CV:=[.list 9 (s.entries.map Entry.row),.list 2 (s.files.map Fil.row),.list 2 (s.rules.map zhr.row)]
def Sto.fit(s:Sto):Prop:=∀r∈s.rules,r.fit
def zwu(b:List UInt8):ziR:=⟨(zbQ b).1,zaN (zbQ b).2.1⟩
def zsh:Option (List UInt8)→List UInt8→Bool
 |some q,n=>ltB n q || decide (n=q)
 |none,_=>false
def zc2:Option (List UInt8)→zbW→List Fil→zbW×Int
 |_,m,[]=>(m,0)
 |p,m,x::r=>if nameB x.name=false then (m,5) else if zsh p x.name=true then (m,8)
  else if (zbQ x.bytes).2.2.2≠0 then (m,(zbQ x.bytes).2.2.2) else zc2 (some x.name) (zrX m x.name (zwu x.bytes)) r
def zff(m:zbW):List Entry→Int
 |[]=>0
 |e::r=>match zuf m e.file with
  |none=>9
  |some f=>if (atF f e.lo e.hi).2=false∨(atF f e.lo e.hi).1.key≠e.key∨(atF f e.lo e.hi).1.time≠e.time then 12 else zff m r
def zfB(s:Sto):zbW×Int:=
 if zle s.rules≠0 then ([],zle s.rules)
 else if 20<s.files.length then ([],2)
 else if (zc2 none [] s.files).2≠0 then ([],(zc2 none [] s.files).2)
 else if zbB s.entries≠0 then ([],zbB s.entries)
 else if zff (zc2 none [] s.files).1 s.entries≠0 then ([],zff (zc2 none [] s.files).1 s.entries)
 else ((zc2 none [] s.files).1,0)
def Sto.open_(s:Sto)(m:zbW):CV:=.ref (s.cs++[zlh m])
def ztL(s:Sto):CV:=if (zfB s).2=0 then s.open_ (zfB s).1 else .atom (.pointer none)
def zkO(l:List Fil):Nat→Option (List UInt8)
 |0=>none
 |i+1=>(l[i]?).map Fil.name
def za1(l:List Fil):zbW:=l.foldl (fun m x=>zrX m x.name (zwu x.bytes)) []
theorem zfH{l:List Fil}{i:Nat}(h:i<l.length):za1 (l.take (i+1))=zrX (za1 (l.take i)) l[i].name (zwu l[i].bytes):=by
 rw[List.take_succ_eq_append_getElem h]
 unfold za1
 rw[List.foldl_append]
 rfl
theorem zrU{l:List Fil}{i:Nat}(h:i<l.length)(m:zbW):zc2 (zkO l i) m (l.drop i)=if nameB l[i].name=false then (m,5) else if zsh (zkO l i) l[i].name=true then (m,8)
  else if (zbQ l[i].bytes).2.2.2≠0 then (m,(zbQ l[i].bytes).2.2.2) else zc2 (zkO l (i+1)) (zrX m l[i].name (zwu l[i].bytes)) (l.drop (i+1)):=by
 rw[List.drop_eq_getElem_cons h]
 have:zkO l (i+1)=some l[i].name:=by show (l[i]?).map Fil.name=_;rw[List.getElem?_eq_getElem h];rfl
 rw[this]
 rfl
theorem zyM(b:List UInt8):∀(n a:Nat) (L:List Rec) (M:List Mark),(goF n b a L M).1.length≤1000
 |0,_,_,_=>Nat.zero_le _
 |n+1,a,L,M=>by
  unfold goF
  split
  ·split
   ·exact Nat.zero_le _
   ·exact zyM b n _ _ _
  ·split
   ·exact Nat.zero_le _
   ·rename_i h
    exact(zla (Decidable.of_not_not h)).1
theorem zv5(b:List UInt8):(zwu b).ok:=by
 refine⟨fun p hp=>?_,?_⟩
 ·obtain⟨m,hm,e⟩:=zuE hp
  obtain⟨r,hr,e2⟩:=zvE b m hm
  exact⟨r,hr,e2.trans e⟩
 ·unfold zwu zbQ
  dsimp only
  split
  ·exact Nat.zero_le _
  ·exact zyM b _ _ _ _
theorem zw0(F:List Fil):∀p∈za1 F,p.2.ok:=by
 have key:∀(F:List Fil) (m:zbW),(∀p∈m,p.2.ok)→∀p∈F.foldl (fun m x=>zrX m x.name (zwu x.bytes)) m,p.2.ok:=by
  intro F
  induction F with
  |nil=>exact fun m h=>h
  |cons x r ih =>
   intro m h
   refine ih _ (fun p hp=>?_)
   rcases zpi hp with hp | rfl
   ·exact h p hp
   ·exact zv5 _
 exact key F [] (fun p hp=>by cases hp)
theorem zsm{m:zbW}{l:List Entry}{i:Nat}(h:i<l.length):zff m (l.drop i)=match zuf m l[i].file with
  |none=>9
  |some f=>if (atF f l[i].lo l[i].hi).2=false∨(atF f l[i].lo l[i].hi).1.key≠l[i].key∨(atF f l[i].lo l[i].hi).1.time≠l[i].time then 12 else zff m (l.drop (i+1)):=by
 rw[List.drop_eq_getElem_cons h]
 rfl
theorem zrZ(s:Sto)(hs:s.fit):zab Tryz.prog 28 [.agg s.cs] (.tup [.one (ztL s),.one (.int .i64 (zfB s).2)]):=by
 obtain⟨E,F,R⟩:=s
 have k1:=zgH R hs
 obtain⟨V,eV⟩:∃V,V=ztL ⟨E,F,R⟩:=⟨_,rfl⟩
 obtain⟨O,eO⟩:∃O,O=zfB ⟨E,F,R⟩:=⟨_,rfl⟩
 unfold ztL at eV
 rw[←eO] at eV
 rw[←eO]
 show zab Tryz.prog 28 [.agg [.list 9 (E.map Entry.row),.list 2 (F.map Fil.row),.list 2 (R.map zhr.row)]] (.tup [.one (ztL ⟨E,F,R⟩),.one (.int .i64 O.2)])
 unfold ztL
 rw[←eO,←eV]
 unfold zfB at eO
 dsimp only at eO
 refine @zab.of _ (cuts [(6,2),(18,2)] [6,18,24,26,39] [] [(24,[1,1,1,1,1,1,1,0])]) _ _ _ _ _ mixed (fn:=Tryz.f28) (by kernel_rfl) (by kernel_rfl) rfl (by kernel_rfl) (by simp[Tryz.f28]) (fun hok=>?_)
 simp -implicitDefEqProofs
 refine zac.of k1 ?_
 by_cases h1:zle R=0
 rotate_left
 ·rw[if_pos h1] at eO
  subst eO
  dsimp only at eV
  rw[if_neg h1] at eV
  subst eV
  have h1':(zle R=0)=False:=eq_false h1
  simp -implicitDefEqProofs[h1']
 rw[if_neg (by simp[h1])] at eO
 rw[h1]
 by_cases h2:20<F.length
 ·rw[if_pos h2] at eO
  subst eO
  have eV:V=.atom (.pointer none):=eV
  subst eV
  have h2':((20:Int)<(F.length:Int))=True:=eq_true (by omega)
  simp -implicitDefEqProofs[h2']
 rw[if_neg h2] at eO
 have h2':((20:Int)<(F.length:Int))=False:=eq_false (by omega)
 simp -implicitDefEqProofs[h2']
 refine zaG.zmq 34 300 rfl (by decide) rfl (fun b1=>zaG.done ?_)
 simp -implicitDefEqProofs
 refine zaK.of (Nat×Nat×List Nat) (fun x=>[(1,.box [.list 9 (E.map Entry.row),.list 2 (F.map Fil.row),.list 2 (R.map zhr.row)]),(5,.ptr 36 0),(36,.box [.list 9 (E.map Entry.row),.list 2 (F.map Fil.row),.list 2 (R.map zhr.row),.atom (.map (some b1))]),(38,.x (.one (.list 2 (F.map Fil.row)))),(39,.x (.one (.int .i64 F.length))),(40,.x (.one (.int .i64 x.1))),(300,.gmap b1 x.2.1 x.2.2 (zci (za1 (F.take x.1))))])
  (fun x=>x.1≤F.length∧zc2 none [] F=zc2 (zkO F x.1) (za1 (F.take x.1)) (F.drop x.1)) (fun x=>F.length-x.1) (0,0,[]) ⟨Nat.zero_le _,by simp[zkO,za1]⟩ ?_ ?_
 ·simp[zci,za1,znd]
 rintro⟨i,c,bs⟩ ⟨hi,hF⟩
 dsimp only at hi hF
 by_cases hlt:i<F.length
 rotate_left
 ·have hlt':((i:Int)<(F.length:Int))=False:=eq_false (by omega)
  obtain rfl:i=F.length:=by omega
  rw[List.take_length,List.drop_length] at hF
  have hF:zc2 none [] F=(za1 F,0):=by rw[hF];unfold zc2;rfl
  rw[hF] at eO
  rw[if_neg (by simp)] at eO
  rw[List.take_length]
  simp -implicitDefEqProofs[hlt']
  refine zaG.zlc 36 3 300 false true (zcZ (za1 F)) (zdb (za1 F)) rfl rfl rfl (zlX _) (by simp[zcZ,zdb]) (.inr (by intro k hk;obtain⟨p,_,rfl⟩:=List.mem_map.1 hk;rfl)) (.inl rfl) (zaG.done ?_)
  simp -implicitDefEqProofs
  refine zac.of (zeR E) ?_
  by_cases h3:zbB E=0
  rotate_left
  ·rw[if_pos h3] at eO
   subst eO
   dsimp only at eV
   rw[if_neg h3] at eV
   subst eV
   have h3':(zbB E=0)=False:=eq_false h3
   simp -implicitDefEqProofs[h3']
  rw[if_neg (by simp[h3])] at eO
  rw[h3]
  simp -implicitDefEqProofs
  have hok2:=zw0 F
  generalize za1 F=m at *
  dsimp only at eO
  refine zaK.of Nat (fun i=>[(5,.ptr 36 0),(36,.box [.list 9 (E.map Entry.row),.list 2 (F.map Fil.row),.list 2 (R.map zhr.row),.mapv false true (zcZ m) (zdb m)]),(110,.x (.one (.list 9 (E.map Entry.row)))),(111,.x (.one (.int .i64 E.length))),(112,.x (.one (.int .i64 i)))])
   (fun i=>i≤E.length∧zff m E=zff m (E.drop i)) (fun i=>E.length-i) 0 ⟨Nat.zero_le _,rfl⟩ ?_ ?_
  ·simp
  rintro i ⟨hi,hC⟩
  by_cases hlt:i<E.length
  rotate_left
  ·have hlt':((i:Int)<(E.length:Int))=False:=eq_false (by omega)
   obtain rfl:i=E.length:=by omega
   rw[List.drop_length] at hC
   have hC:zff m E=0:=hC
   rw[hC] at eO
   rw[if_neg (by simp)] at eO
   subst eO
   have eV:V=.ref [.list 9 (E.map Entry.row),.list 2 (F.map Fil.row),.list 2 (R.map zhr.row),.mapv false true (zcZ m) (zdb m)]:=eV
   subst eV
   simp -implicitDefEqProofs[hlt']
   refine zaG.freeze [36] (zaG.done ?_)
   simp -implicitDefEqProofs
  rw[zsm hlt] at hC
  have hlt':((i:Int)<(E.length:Int))=True:=eq_true (by omega)
  have hwr:IntKind.i64.wrap ((i:Int)+1)=(i:Int)+1:=zaq _ (by have:=zhC h3;omega)
  have hrow:E[i].row=[.str E[i].key,.int .i64 E[i].time,.int .i64 E[i].status,.str E[i].type,.str E[i].digest,.str E[i].file,.int .i64 E[i].lo,.int .i64 E[i].hi,.bool E[i].same]:=rfl
  have hfk:=zdg (ev:=zAq) zoS E[i].file m 0
  have hE:znd zrp zAq m=mvE false true (zcZ m) (zdb m):=zlX m
  rw[hE] at hfk
  have hg:=zoK (l:=m) (k:=E[i].file) rfl
  have hE2:∀(q:Nat) (f:ziR),m[q]?=some (E[i].file,f)→(mvE false true (zcZ m) (zdb m))[q]?=some (XV.one (.str E[i].file),XV.agg [.list 7 (f.recs.map Rec.row),.mapv true false (zfx f.ids) (zfp f.ids)]):=by
   intro q f h
   rw[←hE]
   unfold znd
   rw[List.getElem?_map,h]
   rfl
  generalize m.findIdx? (fun p=>decide (E[i].file=p.1))=O1 at *
  rcases hg with⟨q,f,rfl,hgw,hiw⟩ | ⟨rfl,hgw⟩
  ·rw[hgw] at hC
   dsimp only at hC
   have hfk:zbz .s (.one (.str E[i].file)) (mvE false true (zcZ m) (zdb m)) 0=some (some q):=hfk
   have hEq:=hE2 q f hiw
   have k5:=zGd f (hok2 _ (List.mem_of_getElem? hiw)) E[i].lo E[i].hi
   unfold ziR.row zVi at k5
   have hrr:∀r:Rec,r.row=[.int .i64 r.kind,.str r.id,.str r.of,.int .i64 r.time,.str r.key,.list 2 (r.heads.map Head.row),za7 r.block]:=fun _=>rfl
   rw[hrr] at k5
   generalize atF f E[i].lo E[i].hi=A at *
   obtain⟨r,b⟩:=A
   dsimp only at *
   simp -implicitDefEqProofs[hlt,hlt',hrow]
   refine ztD.l ⟨by kernel_rfl,?_⟩
   simp -implicitDefEqProofs[hlt,hlt',hrow,hfk,hEq]
   refine zac.of k5 ?_
   have hbad:zff m E=12→O=([],12)∧V=.atom (.pointer none):=by
    intro h
    rw[h] at eO
    rw[if_pos (by decide)] at eO
    subst eO
    exact⟨rfl,eV⟩
   cases b
   ·obtain⟨rfl,rfl⟩:=hbad (by rw[hC,if_pos (.inl rfl)])
    simp -implicitDefEqProofs[hlt,hlt',hrow]
   by_cases hk:r.key=E[i].key
   rotate_left
   ·obtain⟨rfl,rfl⟩:=hbad (by rw[hC,if_pos (.inr (.inl hk))])
    have hk':(r.key=E[i].key)=False:=eq_false hk
    simp -implicitDefEqProofs[hlt,hlt',hrow,hk']
   by_cases ht:r.time=E[i].time
   rotate_left
   ·obtain⟨rfl,rfl⟩:=hbad (by rw[hC,if_pos (.inr (.inr ht))])
    have ht':(r.time=E[i].time)=False:=eq_false ht
    simp -implicitDefEqProofs[hlt,hlt',hrow,hk,ht']
   rw[if_neg (by simp[hk,ht])] at hC
   simp -implicitDefEqProofs[hlt,hlt',hrow,hk,ht]
   refine zaz.of (i+1) ⟨hlt,hC⟩ (by omega) ?_
   simp[hwr]
  ·rw[hgw] at hC
   have hC:zff m E=9:=hC
   rw[hC] at eO
   rw[if_pos (by decide)] at eO
   subst eO
   have eV:V=.atom (.pointer none):=eV
   subst eV
   have hfk:zbz .s (.one (.str E[i].file)) (mvE false true (zcZ m) (zdb m)) 0=some none:=hfk
   simp -implicitDefEqProofs[hlt,hlt',hrow]
   refine ztD.l ⟨by kernel_rfl,?_⟩
   simp -implicitDefEqProofs[hlt,hlt',hrow,hfk]
 rw[zrU hlt] at hF
 have hlt':((i:Int)<(F.length:Int))=True:=eq_true (by omega)
 have hwr:IntKind.i64.wrap ((i:Int)+1)=(i:Int)+1:=zaq _ (by omega)
 have hrow:F[i].row=[.str F[i].name,za7 F[i].bytes]:=rfl
 have k2:=isName F[i].name
 simp -implicitDefEqProofs[hlt,hlt',hrow]
 refine zac.of k2 ?_
 cases hn:nameB F[i].name
 ·rw[if_pos hn] at hF
  rw[hF] at eO
  rw[if_pos (by simp)] at eO
  subst eO
  have eV:V=.atom (.pointer none):=eV
  subst eV
  simp -implicitDefEqProofs
 rw[if_neg (by rw[hn];decide)] at hF
 have step:(zsh (zkO F i) F[i].name=true→O=([],8)):=by
  intro hl
  rw[if_pos hl] at hF
  rw[hF] at eO
  rw[if_pos (by simp)] at eO
  exact eO
 cases i with
 |zero =>
  have hl:¬zsh (zkO F 0) F[0].name=true:=by simp[zkO,zsh]
  rw[if_neg hl] at hF
  have hw1:IntKind.i64.wrap (-1)=-1:=by decide
  have hx0:F[0]?=some F[0]:=List.getElem?_eq_getElem hlt
  simp -implicitDefEqProofs[hlt,hlt',hrow,hw1,hx0]
  have k3:=zgE F[0].bytes
  have k4:=zkk F[0].bytes
  have hfv:zwu F[0].bytes=⟨(zbQ F[0].bytes).1,zaN (zbQ F[0].bytes).2.1⟩:=rfl
  have hrl:(zbQ F[0].bytes).2.2.2=0→(zbQ F[0].bytes).1.length≤1000∧(zbQ F[0].bytes).2.1.length=(zbQ F[0].bytes).1.length:=fun h=>⟨(zla (zk9 h).1).1,(zk9 h).2⟩
  generalize zbQ F[0].bytes=D at *
  obtain⟨L,M,at',flt⟩:=D
  dsimp only at *
  unfold zey at k3
  unfold zmo at k4
  refine zac.of k3 ?_
  by_cases hf:flt=0
  rotate_left
  ·rw[if_pos hf] at hF
   rw[hF] at eO
   rw[if_pos hf] at eO
   subst eO
   dsimp only at eV
   rw[if_neg hf] at eV
   subst eV
   have hf':(flt=0)=False:=eq_false hf
   simp -implicitDefEqProofs[hf']
  rw[if_neg (by simp[hf])] at hF
  subst hf
  obtain⟨hL,hM⟩:=hrl rfl
  simp -implicitDefEqProofs
  refine zac.of k4 ?_
  simp -implicitDefEqProofs
  refine zaG.zmq 80 301 rfl (by decide) rfl (fun b2=>zaG.done ?_)
  simp -implicitDefEqProofs
  refine zaK.of (Nat×Nat×List Nat) (fun x=>[(1,.box [.list 9 (E.map Entry.row),.list 2 (F.map Fil.row),.list 2 (R.map zhr.row)]),(5,.ptr 36 0),(7,.box [.str F[0].name,za7 F[0].bytes]),(13,.box [.list 7 (L.map Rec.row),.atom (.map (some b2))]),(36,.box [.list 9 (E.map Entry.row),.list 2 (F.map Fil.row),.list 2 (R.map zhr.row),.atom (.map (some b1))]),(38,.x (.one (.list 2 (F.map Fil.row)))),(39,.x (.one (.int .i64 F.length))),(40,.x (.one (.int .i64 (0)))),(82,.x (.one (.list 3 (M.map Mark.row)))),(83,.x (.one (.int .i64 M.length))),(84,.x (.one (.int .i64 x.1))),(300,.gmap b1 c bs (zci (za1 (F.take 0)))),(301,.gmap b2 x.2.1 x.2.2 (zmU (zaN (M.take x.1))))])
   (fun x=>x.1≤M.length) (fun x=>M.length-x.1) (0,0,[]) (Nat.zero_le _) ?_ ?_
  ·simp[zmU,zaN,znd]
  rintro⟨j,c2,bs2⟩ hj
  dsimp only at hj
  by_cases hjlt:j<M.length
  ·have hjlt':((j:Int)<(M.length:Int))=True:=eq_true (by omega)
   have hwj:IntKind.i64.wrap ((j:Int)+1)=(j:Int)+1:=zaq _ (by omega)
   have hrowm:M[j].row=[.str M[j].id,.int .i64 M[j].lo,.int .i64 M[j].hi]:=rfl
   have hst:=zmb hjlt
   have hfk:=zdg (ev:=zrp) zsN ((M[j].lo:Int),(M[j].hi:Int)) (zaN (M.take j)) 0
   have hpe:=zoT (ek:=idK) (ev:=zrp) (l:=zaN (M.take j)) (k:=((M[j].lo:Int),(M[j].hi:Int))) (v:=M[j].id) c2 bs2 _ rfl
   rw[←hst] at hpe
   have hfk:zbz (.st [.i,.i]) (.agg [.int .i64 M[j].lo,.int .i64 M[j].hi]) (zmU (zaN (M.take j))) 0=_:=hfk
   generalize (zaN (M.take j)).findIdx? (fun p=>decide ((((M[j].lo:Nat):Int),((M[j].hi:Nat):Int))=p.1))=O1 at *
   simp -implicitDefEqProofs[hjlt,hjlt',hrowm]
   refine zis 301 b2 c2 bs2 (zmU (zaN (M.take j))) (by decide) rfl ?_
   cases O1 with
   |none =>
    have hfk:zbz (.st [.i,.i]) (.agg [.int .i64 M[j].lo,.int .i64 M[j].hi]) (zmU (zaN (M.take j))) 0=some none:=hfk
    have hpe:zmU (zaN (M.take j))++[(.agg [.int .i64 M[j].lo,.int .i64 M[j].hi],.one (.str M[j].id))]=zmU (zaN (M.take (j+1))):=hpe
    simp -implicitDefEqProofs[hfk]
    refine zaz.of (j+1,c2+1,bs2++[c2]) hjlt (by dsimp only;omega) ?_
    simp[hwj,hpe]
   |some q =>
    have hfk:zbz (.st [.i,.i]) (.agg [.int .i64 M[j].lo,.int .i64 M[j].hi]) (zmU (zaN (M.take j))) 0=some (some q):=hfk
    have hpe:(zmU (zaN (M.take j))).set q (.agg [.int .i64 M[j].lo,.int .i64 M[j].hi],.one (.str M[j].id))=zmU (zaN (M.take (j+1))):=hpe
    simp -implicitDefEqProofs[hfk]
    refine zaz.of (j+1,c2,bs2) hjlt (by dsimp only;omega) ?_
    simp[hwj,hpe]
  have hjlt':((j:Int)<(M.length:Int))=False:=eq_false (by omega)
  obtain rfl:j=M.length:=by omega
  rw[List.take_length]
  simp -implicitDefEqProofs[hjlt']
  refine zaG.zlc 13 1 301 true false (zfx (zaN M)) (zfp (zaN M)) rfl rfl rfl (zoN _) (by simp[zfx,zfp]) (.inl rfl) (.inr (by intro k hk;obtain⟨p,_,rfl⟩:=List.mem_map.1 hk;rfl)) (zaG.done ?_)
  simp -implicitDefEqProofs
  have hnext:zc2 none [] F=zc2 (zkO F (0+1)) (za1 (F.take (0+1))) (F.drop (0+1)):=by rw[hF,zfH hlt]
  have hst:za1 (F.take (0+1))=zrX (za1 []) F[0].name (zwu F[0].bytes):=zfH hlt
  rw[hfv] at hst
  have hfk:=zdg (ev:=zAq) zoS F[0].name (za1 []) 0
  have hpe:=zoT (ek:=zrp) (ev:=zAq) (l:=za1 []) (k:=F[0].name) (v:=⟨L,zaN M⟩) c bs _ rfl
  rw[←hst] at hpe
  have hfk:zbz .s (.one (.str F[0].name)) (zci (za1 [])) 0=_:=hfk
  generalize (za1 []).findIdx? (fun p=>decide (F[0].name=p.1))=O1 at *
  refine zis 300 b1 c bs (zci (za1 [])) (by decide) rfl ?_
  cases O1 with
  |none =>
   have hfk:zbz .s (.one (.str F[0].name)) (zci (za1 [])) 0=some none:=hfk
   have hpe:zci (za1 [])++[(.one (.str F[0].name),.agg [.list 7 (L.map Rec.row),.mapv true false (zfx (zaN M)) (zfp (zaN M))])]=zci (za1 (F.take (0+1))):=hpe
   simp -implicitDefEqProofs[hfk]
   refine zaz.of (0+1,c+1,bs++[c]) ⟨hlt,hnext⟩ (by dsimp only;omega) ?_
   simp[hwr,hpe]
   try decide
  |some q =>
   have hfk:zbz .s (.one (.str F[0].name)) (zci (za1 [])) 0=some (some q):=hfk
   have hpe:(zci (za1 [])).set q (.one (.str F[0].name),.agg [.list 7 (L.map Rec.row),.mapv true false (zfx (zaN M)) (zfp (zaN M))])=zci (za1 (F.take (0+1))):=hpe
   simp -implicitDefEqProofs[hfk]
   refine zaz.of (0+1,c,bs) ⟨hlt,hnext⟩ (by dsimp only;omega) ?_
   simp[hwr,hpe]
   try decide
 |succ i =>
  have hltp:i<F.length:=by omega
  have hwi:IntKind.i64.wrap (i:Int)=(i:Int):=zaq _ (by omega)
  have hwr:IntKind.i64.wrap ((i:Int)+1+1)=(i:Int)+1+1:=zaq _ (by omega)
  have hrowp:F[i].row=[.str F[i].name,za7 F[i].bytes]:=rfl
  have hp:zkO F (i+1)=some F[i].name:=by show (F[i]?).map Fil.name=_;rw[List.getElem?_eq_getElem hltp];rfl
  rw[hp] at hF step
  have hlate:zsh (some F[i].name) F[i+1].name=(ltB F[i+1].name F[i].name || decide (F[i+1].name=F[i].name)):=rfl
  cases hl:zsh (some F[i].name) F[i+1].name
  rotate_left
  ·have eO:=step hl
   subst eO
   have eV:V=.atom (.pointer none):=eV
   subst eV
   rw[hl] at hlate
   simp -implicitDefEqProofs[hltp,hwi,hwr,hrowp]
   intro h1 h2
   simp[h1,h2] at hlate
  rw[if_neg (by rw[hl];decide)] at hF
  rw[hl] at hlate
  have hlt1:ltB F[i+1].name F[i].name=false:=by cases h:ltB F[i+1].name F[i].name<;>simp[h] at hlate ⊢
  have hne1:(F[i+1].name=F[i].name)=False:=eq_false (by intro h;simp[h] at hlate)
  simp -implicitDefEqProofs[hltp,hwi,hwr,hrowp,hlt1,hne1]
  have k3:=zgE F[i+1].bytes
  have k4:=zkk F[i+1].bytes
  have hfv:zwu F[i+1].bytes=⟨(zbQ F[i+1].bytes).1,zaN (zbQ F[i+1].bytes).2.1⟩:=rfl
  have hrl:(zbQ F[i+1].bytes).2.2.2=0→(zbQ F[i+1].bytes).1.length≤1000∧(zbQ F[i+1].bytes).2.1.length=(zbQ F[i+1].bytes).1.length:=fun h=>⟨(zla (zk9 h).1).1,(zk9 h).2⟩
  generalize zbQ F[i+1].bytes=D at *
  obtain⟨L,M,at',flt⟩:=D
  dsimp only at *
  unfold zey at k3
  unfold zmo at k4
  refine zac.of k3 ?_
  by_cases hf:flt=0
  rotate_left
  ·rw[if_pos hf] at hF
   rw[hF] at eO
   rw[if_pos hf] at eO
   subst eO
   dsimp only at eV
   rw[if_neg hf] at eV
   subst eV
   have hf':(flt=0)=False:=eq_false hf
   simp -implicitDefEqProofs[hf']
  rw[if_neg (by simp[hf])] at hF
  subst hf
  obtain⟨hL,hM⟩:=hrl rfl
  simp -implicitDefEqProofs
  refine zac.of k4 ?_
  simp -implicitDefEqProofs
  refine zaG.zmq 80 301 rfl (by decide) rfl (fun b2=>zaG.done ?_)
  simp -implicitDefEqProofs
  refine zaK.of (Nat×Nat×List Nat) (fun x=>[(1,.box [.list 9 (E.map Entry.row),.list 2 (F.map Fil.row),.list 2 (R.map zhr.row)]),(5,.ptr 36 0),(7,.box [.str F[i+1].name,za7 F[i+1].bytes]),(13,.box [.list 7 (L.map Rec.row),.atom (.map (some b2))]),(36,.box [.list 9 (E.map Entry.row),.list 2 (F.map Fil.row),.list 2 (R.map zhr.row),.atom (.map (some b1))]),(38,.x (.one (.list 2 (F.map Fil.row)))),(39,.x (.one (.int .i64 F.length))),(40,.x (.one (.int .i64 ((i:Int)+1)))),(82,.x (.one (.list 3 (M.map Mark.row)))),(83,.x (.one (.int .i64 M.length))),(84,.x (.one (.int .i64 x.1))),(300,.gmap b1 c bs (zci (za1 (F.take (i+1))))),(301,.gmap b2 x.2.1 x.2.2 (zmU (zaN (M.take x.1))))])
   (fun x=>x.1≤M.length) (fun x=>M.length-x.1) (0,0,[]) (Nat.zero_le _) ?_ ?_
  ·simp[zmU,zaN,znd]
  rintro⟨j,c2,bs2⟩ hj
  dsimp only at hj
  by_cases hjlt:j<M.length
  ·have hjlt':((j:Int)<(M.length:Int))=True:=eq_true (by omega)
   have hwj:IntKind.i64.wrap ((j:Int)+1)=(j:Int)+1:=zaq _ (by omega)
   have hrowm:M[j].row=[.str M[j].id,.int .i64 M[j].lo,.int .i64 M[j].hi]:=rfl
   have hst:=zmb hjlt
   have hfk:=zdg (ev:=zrp) zsN ((M[j].lo:Int),(M[j].hi:Int)) (zaN (M.take j)) 0
   have hpe:=zoT (ek:=idK) (ev:=zrp) (l:=zaN (M.take j)) (k:=((M[j].lo:Int),(M[j].hi:Int))) (v:=M[j].id) c2 bs2 _ rfl
   rw[←hst] at hpe
   have hfk:zbz (.st [.i,.i]) (.agg [.int .i64 M[j].lo,.int .i64 M[j].hi]) (zmU (zaN (M.take j))) 0=_:=hfk
   generalize (zaN (M.take j)).findIdx? (fun p=>decide ((((M[j].lo:Nat):Int),((M[j].hi:Nat):Int))=p.1))=O1 at *
   simp -implicitDefEqProofs[hjlt,hjlt',hrowm]
   refine zis 301 b2 c2 bs2 (zmU (zaN (M.take j))) (by decide) rfl ?_
   cases O1 with
   |none =>
    have hfk:zbz (.st [.i,.i]) (.agg [.int .i64 M[j].lo,.int .i64 M[j].hi]) (zmU (zaN (M.take j))) 0=some none:=hfk
    have hpe:zmU (zaN (M.take j))++[(.agg [.int .i64 M[j].lo,.int .i64 M[j].hi],.one (.str M[j].id))]=zmU (zaN (M.take (j+1))):=hpe
    simp -implicitDefEqProofs[hfk]
    refine zaz.of (j+1,c2+1,bs2++[c2]) hjlt (by dsimp only;omega) ?_
    simp[hwj,hpe]
   |some q =>
    have hfk:zbz (.st [.i,.i]) (.agg [.int .i64 M[j].lo,.int .i64 M[j].hi]) (zmU (zaN (M.take j))) 0=some (some q):=hfk
    have hpe:(zmU (zaN (M.take j))).set q (.agg [.int .i64 M[j].lo,.int .i64 M[j].hi],.one (.str M[j].id))=zmU (zaN (M.take (j+1))):=hpe
    simp -implicitDefEqProofs[hfk]
    refine zaz.of (j+1,c2,bs2) hjlt (by dsimp only;omega) ?_
    simp[hwj,hpe]
  have hjlt':((j:Int)<(M.length:Int))=False:=eq_false (by omega)
  obtain rfl:j=M.length:=by omega
  rw[List.take_length]
  simp -implicitDefEqProofs[hjlt']
  refine zaG.zlc 13 1 301 true false (zfx (zaN M)) (zfp (zaN M)) rfl rfl rfl (zoN _) (by simp[zfx,zfp]) (.inl rfl) (.inr (by intro k hk;obtain⟨p,_,rfl⟩:=List.mem_map.1 hk;rfl)) (zaG.done ?_)
  simp -implicitDefEqProofs
  have hnext:zc2 none [] F=zc2 (zkO F (i+1+1)) (za1 (F.take (i+1+1))) (F.drop (i+1+1)):=by rw[hF,zfH hlt]
  have hst:za1 (F.take (i+1+1))=zrX (za1 (F.take (i+1))) F[i+1].name (zwu F[i+1].bytes):=zfH hlt
  rw[hfv] at hst
  have hfk:=zdg (ev:=zAq) zoS F[i+1].name (za1 (F.take (i+1))) 0
  have hpe:=zoT (ek:=zrp) (ev:=zAq) (l:=za1 (F.take (i+1))) (k:=F[i+1].name) (v:=⟨L,zaN M⟩) c bs _ rfl
  rw[←hst] at hpe
  have hfk:zbz .s (.one (.str F[i+1].name)) (zci (za1 (F.take (i+1)))) 0=_:=hfk
  generalize (za1 (F.take (i+1))).findIdx? (fun p=>decide (F[i+1].name=p.1))=O1 at *
  refine zis 300 b1 c bs (zci (za1 (F.take (i+1)))) (by decide) rfl ?_
  cases O1 with
  |none =>
   have hfk:zbz .s (.one (.str F[i+1].name)) (zci (za1 (F.take (i+1)))) 0=some none:=hfk
   have hpe:zci (za1 (F.take (i+1)))++[(.one (.str F[i+1].name),.agg [.list 7 (L.map Rec.row),.mapv true false (zfx (zaN M)) (zfp (zaN M))])]=zci (za1 (F.take (i+1+1))):=hpe
   simp -implicitDefEqProofs[hfk]
   refine zaz.of (i+1+1,c+1,bs++[c]) ⟨hlt,hnext⟩ (by dsimp only;omega) ?_
   simp[hwr,hpe]
   try decide
  |some q =>
   have hfk:zbz .s (.one (.str F[i+1].name)) (zci (za1 (F.take (i+1)))) 0=some (some q):=hfk
   have hpe:(zci (za1 (F.take (i+1)))).set q (.one (.str F[i+1].name),.agg [.list 7 (L.map Rec.row),.mapv true false (zfx (zaN M)) (zfp (zaN M))])=zci (za1 (F.take (i+1+1))):=hpe
   simp -implicitDefEqProofs[hfk]
   refine zaz.of (i+1+1,c,bs) ⟨hlt,hnext⟩ (by dsimp only;omega) ?_
   simp[hwr,hpe]
   try decide
end Go.Proofs.YtlcmnclbljedfaaGreatDoor
namespace Go.Proofs.YtlcmnclbljedfaaGreatDoor
open Go Go.Ab
variable [Amb]
set_option maxRecDepth 100000
set_option maxHeartbeats 4000000
def zFX(l:List Entry)(k:List UInt8):Int:=if zbB l≠0 then zbB l else if zuu k=false then 3 else 0
theorem zm2(l:List Entry)(k:List UInt8):zab Tryz.prog 190 [entries l,.one (.str k)] (.x (.one (.int .i64 (zFX l k)))):=by
 refine zab.of mixed (fn:=Tryz.f190) (by kernel_rfl) (by kernel_rfl) rfl (by kernel_rfl) (by simp[Tryz.f190]) (fun hok=>?_)
 generalize hF:zFX l k=F
 unfold zFX at hF
 simp -implicitDefEqProofs +contextual[-Bool.and_eq_false_imp,Bool.and_eq_false_iff]
 refine zac.of (zeR l) ?_
 simp -implicitDefEqProofs +contextual[-Bool.and_eq_false_imp,Bool.and_eq_false_iff]
 refine⟨fun h=>?_,fun h=>zac.of (isKey _) ?_⟩
 ·rw[if_pos h] at hF;exact hF.symm
 rw[if_neg (by simp[h])] at hF
 simp -implicitDefEqProofs +contextual[-Bool.and_eq_false_imp,Bool.and_eq_false_iff]
 refine⟨fun h=>?_,fun h=>?_⟩
 ·rw[if_pos h] at hF;exact hF.symm
 ·rw[if_neg (by simp[h])] at hF;exact hF.symm
theorem zwQ{l:List Entry}{k:List UInt8}(h:zFX l k=0):zbB l=0∧zuu k=true:=by
 unfold zFX at h
 split at h
 ·rename_i h1;exact absurd h h1
 ·rename_i h1
  split at h
  ·cases h
  ·rename_i h2;exact⟨by omega,by simpa using h2⟩
theorem zuG(l:List Entry)(k:List UInt8):(zds l k).length≤l.length:=List.length_filter_le _ _
theorem zw7{α:Type}{P:List α→Prop}(h0:P [])(h1:∀p e,P p→P (p++[e]))(l:List α):P l:=by
 have:∀n,P (l.take n):=by
  intro n
  induction n with
  |zero=>simpa using h0
  |succ n ih =>
   by_cases hn:n<l.length
   ·rw[List.take_add_one,List.getElem?_eq_getElem hn];exact h1 _ _ ih
   ·rw[List.take_of_length_le (by omega)];rw[List.take_of_length_le (by omega)] at ih;exact ih
 have:=this l.length
 rwa[List.take_length] at this
def zgS(p:List Entry)(t:Int):Option Entry:=p.foldl (fun o x=>if x.time≤t then some x else o) none
def ztY(t:Int)(o:Option Entry)(x:Entry):Option Entry:=match o with
 |none=>if t≤x.time then some x else none
 |some a=>if t≤x.time∧x.time=a.time then some x else some a
def aft(p:List Entry)(t:Int):Option Entry:=p.foldl (ztY t) none
def zdd(t way:Int)(b a:Option Entry):Option Entry:=
 if way=3 then a else if way=2 then b else match b,a with
 |none,a=>a
 |some b,none=>some b
 |some b,some a=>if a.time-t<t-b.time then some a else some b
def zun(l:List Entry)(t way:Int):Option Entry:=zdd t way (zgS l t) (aft l t)
theorem zlH(p:List Entry)(e:Entry)(t:Int):zgS (p++[e]) t=if e.time≤t then some e else zgS p t:=by simp[zgS,List.foldl_append]
theorem ztf(p:List Entry)(e:Entry)(t:Int):aft (p++[e]) t=ztY t (aft p t) e:=by simp[aft,List.foldl_append]
theorem ztR{t:Int}:∀(p:List Entry) {x:Entry},zgS p t=some x→x∈p∧x.time≤t:=by
 intro p
 refine zw7 (P:=fun p=>∀{x:Entry},zgS p t=some x→x∈p∧x.time≤t) ?_ ?_ p
 ·intro x h;cases h
 ·intro p e ih x h
  rw[zlH] at h
  split at h
  ·injection h with h;subst h;exact⟨by simp,by assumption⟩
  ·obtain⟨h1,h2⟩:=ih h;exact⟨by simp[h1],h2⟩
theorem zHC{t:Int}:∀(p:List Entry) {x:Entry},aft p t=some x→x∈p∧t≤x.time:=by
 intro p
 refine zw7 (P:=fun p=>∀{x:Entry},aft p t=some x→x∈p∧t≤x.time) ?_ ?_ p
 ·intro x h;cases h
 ·intro p e ih x h
  rw[ztf] at h
  unfold ztY at h
  split at h
  ·split at h
   ·injection h with h;subst h;exact⟨by simp,by assumption⟩
   ·cases h
  ·rename_i a ha
   split at h
   ·rename_i hc;injection h with h;subst h;exact⟨by simp,hc.1⟩
   ·injection h with h;subst h
    obtain⟨h1,h2⟩:=ih ha;exact⟨by simp[h1],h2⟩
def zj2(a b:Int):Int:=max (a-b) (b-a)
def zeroE:Entry:=⟨[],0,0,[],[],[],0,0,false⟩
theorem zbi:[CV.str [],CV.int IntKind.i64 0,CV.int IntKind.i64 0,CV.str [],CV.str [],CV.str [],CV.int IntKind.i64 0,CV.int IntKind.i64 0,CV.bool false]=zeroE.row:=rfl
def zw1(l:List Entry):Prop:=∀x∈l,0≤x.time∧x.time≤253402300799
theorem zrB{e:Entry}(h:zgk e=0):0≤e.time∧e.time≤253402300799:=by
 unfold zgk at h
 split at h
 ·cases h
 ·split at h
  ·cases h
  ·rename_i h1 h2
   have:zbf e.time=true:=by
    cases hb:zbf e.time with
    |true=>rfl
    |false=>exact absurd (.inl hb) h2
   simpa[zbf,inB] using this
theorem zi0{l:List Entry}(k:List UInt8)(h:zbB l=0):zw1 (zds l k)∧(zds l k).Pairwise (fun a b=>a.time≤b.time):=by
 obtain⟨h1,h2⟩:=zgJ h
 refine⟨fun x hx=>zrB (h2 x ((List.mem_filter.1 hx).1)),?_⟩
 have hp:(zds l k).Pairwise Before:=h1.filter _
 refine List.Pairwise.imp_of_mem ?_ hp
 intro a b ha hb hab
 have ea:a.key=k:=by simpa using (List.mem_filter.1 ha).2
 have eb:b.key=k:=by simpa using (List.mem_filter.1 hb).2
 rcases hab with h | ⟨_,h | ⟨h,_⟩⟩
 ·rw[ea,eb,zec] at h;cases h
 ·omega
 ·omega
def zS3:Option Nat→Int
 |none=>-1
 |some j=>j
@[simp]theorem zOr:zS3 none=-1:=rfl
@[simp]theorem zOB(j:Nat):zS3 (some j)=j:=rfl
def atO(l:List Entry)(o:Option Nat):Option Entry:=o.bind fun j=>l[j]?
def Lies(l:List Entry)(o:Option Nat):Prop:=∀j,o=some j→j<l.length
@[simp]theorem zKI(e:Entry):ztt e.row=false:=rfl
theorem zuW(l:List Entry)(t way:Int)(hb:l.length≤3000)(ht:zw1 l)(h0:0≤t∧t≤253402300799)(hw:way=1∨way=2∨way=3) :
  zab Tryz.prog 191 [entries l,.one (.int .i64 t),.one (.int .i64 way)] (.tup [.agg ((zun l t way).getD zeroE).row,.one (.bool (zun l t way).isSome)]):=by
 refine zab.of mixed (fn:=Tryz.f191) (by kernel_rfl) (by kernel_rfl) rfl (by kernel_rfl) (by simp[Tryz.f191]) (fun hok=>?_)
 simp -implicitDefEqProofs +contextual[-Bool.and_eq_false_imp,Bool.and_eq_false_iff]
 refine zaK.of (Nat×Option Nat×Option Nat) (fun x=>[(0,.x (entries l)),(1,.x (.one (.int .i64 t))),(2,.x (.one (.int .i64 way))),(6,.box zeroE.row),(8,.x (.one (.int .i64 (zS3 x.2.1)))),(9,.x (.one (.int .i64 (zS3 x.2.2)))),(13,.x (entries l)),(14,.x (.one (.int .i64 l.length))),(15,.x (.one (.int .i64 x.1)))])
  (fun x=>x.1≤l.length∧Lies l x.2.1∧Lies l x.2.2∧atO l x.2.1=zgS (l.take x.1) t∧atO l x.2.2=aft (l.take x.1) t) (fun x=>l.length-x.1) (0,none,none) ⟨Nat.zero_le _,(by intro j h;cases h),(by intro j h;cases h),rfl,rfl⟩ ?_ ?_
 ·simp[zbi]
 rintro⟨i,b,a⟩ ⟨hi,lb,la,eb,ea⟩
 simp only at hi lb la eb ea
 by_cases hlt:i<l.length
 ·have htk:l.take (i+1)=l.take i++[l[i]]:=by rw[List.take_add_one,List.getElem?_eq_getElem hlt];rfl
  have eb':zgS (l.take (i+1)) t=if l[i].time≤t then some l[i] else zgS (l.take i) t:=by rw[htk,zlH]
  have ea':aft (l.take (i+1)) t=ztY t (aft (l.take i) t) l[i]:=by rw[htk,ztf]
  have hat:atO l (some i)=some l[i]:=by simp[atO,hlt]
  have li:Lies l (some i):=by intro j h;injection h with h;omega
  have fin:∀(b' a':Option Nat),Lies l b'→Lies l a'→atO l b'=zgS (l.take (i+1)) t→atO l a'=aft (l.take (i+1)) t→(i+1≤l.length∧Lies l b'∧Lies l a'∧atO l b'=zgS (l.take (i+1)) t∧atO l a'=aft (l.take (i+1)) t):=fun b' a' h1 h2 h3 h4=>⟨hlt,h1,h2,h3,h4⟩
  have hz:0<l.length:=by omega
  have hwr:IntKind.i64.wrap ((i:Int)+1)=(i:Int)+1:=zaq _ (by omega)
  by_cases c1:l[i].time≤t<;>by_cases c2:t≤l[i].time
  ·-- both
   cases a with
   |none =>
    simp -implicitDefEqProofs +contextual[-Bool.and_eq_false_imp,Bool.and_eq_false_iff,hlt,hz,c1,c2]
    refine zaz.of (i+1,some i,some i) (fin _ _ li li ?_ ?_) (by simp only;omega) ?_
    ·rw[eb',if_pos c1,hat]
    ·rw[ea',←ea];simp[ztY,atO,c2,hlt]
    ·simp[hwr]
   |some j =>
    have hj:=la j rfl
    have hja:atO l (some j)=some l[j]:=by simp[atO,hj]
    by_cases c3:l[i].time=l[j].time
    ·have c3b:(l[i].time==l[j].time)=true:=by simp[c3]
     simp -implicitDefEqProofs +contextual[-Bool.and_eq_false_imp,Bool.and_eq_false_iff,hlt,hz,c1,c2,hj,c3b]
     refine zaz.of (i+1,some i,some i) (fin _ _ li li ?_ ?_) (by simp only;omega) ?_
     ·rw[eb',if_pos c1,hat]
     ·rw[ea',←ea,hja,hat];simp only[ztY];rw[if_pos ⟨c2,c3⟩]
     ·simp[hwr]
    ·have c3b:(l[i].time==l[j].time)=false:=by simp[c3]
     have hjn:((j:Int)<0)=False:=by simp
     simp -implicitDefEqProofs +contextual[-Bool.and_eq_false_imp,Bool.and_eq_false_iff,hlt,hz,c1,c2,hj,c3b,hjn]
     refine zaz.of (i+1,some i,some j) (fin _ _ li la ?_ ?_) (by simp only;omega) ?_
     ·rw[eb',if_pos c1,hat]
     ·rw[ea',←ea,hja];simp only[ztY];rw[if_neg (fun h=>c3 h.2)]
     ·simp[hwr]
  ·-- ahead of the time
   have hf:∀o,ztY t o l[i]=o:=by
    intro o;cases o with
    |none=>simp only[ztY];rw[if_neg c2]
    |some z=>simp only[ztY];rw[if_neg (fun h=>c2 h.1)]
   cases a with
   |none =>
    simp -implicitDefEqProofs +contextual[-Bool.and_eq_false_imp,Bool.and_eq_false_iff,hlt,hz,c1,c2]
    refine zaz.of (i+1,some i,none) (fin _ _ li la ?_ ?_) (by simp only;omega) ?_
    ·rw[eb',if_pos c1,hat]
    ·rw[ea',←ea,hf]
    ·simp[hwr]
   |some j =>
    have hj:=la j rfl
    simp -implicitDefEqProofs +contextual[-Bool.and_eq_false_imp,Bool.and_eq_false_iff,hlt,hz,c1,c2,hj]
    refine zaz.of (i+1,some i,some j) (fin _ _ li la ?_ ?_) (by simp only;omega) ?_
    ·rw[eb',if_pos c1,hat]
    ·rw[ea',←ea,hf]
    ·simp[hwr]
  ·-- behind it
   cases a with
   |none =>
    simp -implicitDefEqProofs +contextual[-Bool.and_eq_false_imp,Bool.and_eq_false_iff,hlt,hz,c1,c2]
    refine zaz.of (i+1,b,some i) (fin _ _ lb li ?_ ?_) (by simp only;omega) ?_
    ·rw[eb',if_neg c1,eb]
    ·rw[ea',←ea,hat];simp[ztY,atO,c2]
    ·simp[hwr]
   |some j =>
    have hj:=la j rfl
    have hja:atO l (some j)=some l[j]:=by simp[atO,hj]
    by_cases c3:l[i].time=l[j].time
    ·have c3b:(l[i].time==l[j].time)=true:=by simp[c3]
     simp -implicitDefEqProofs +contextual[-Bool.and_eq_false_imp,Bool.and_eq_false_iff,hlt,hz,c1,c2,hj,c3b]
     refine zaz.of (i+1,b,some i) (fin _ _ lb li ?_ ?_) (by simp only;omega) ?_
     ·rw[eb',if_neg c1,eb]
     ·rw[ea',←ea,hja,hat];simp only[ztY];rw[if_pos ⟨c2,c3⟩]
     ·simp[hwr]
    ·have c3b:(l[i].time==l[j].time)=false:=by simp[c3]
     have hjn:((j:Int)<0)=False:=by simp
     simp -implicitDefEqProofs +contextual[-Bool.and_eq_false_imp,Bool.and_eq_false_iff,hlt,hz,c1,c2,hj,c3b,hjn]
     refine zaz.of (i+1,b,some j) (fin _ _ lb la ?_ ?_) (by simp only;omega) ?_
     ·rw[eb',if_neg c1,eb]
     ·rw[ea',←ea,hja];simp only[ztY];rw[if_neg (fun h=>c3 h.2)]
     ·simp[hwr]
  ·exact absurd (by omega) c1
 ·rw[show l.take i=l from List.take_of_length_le (by omega)] at eb ea
  have hN:zun l t way=zdd t way (atO l b) (atO l a):=by rw[eb,ea];rfl
  rw[hN]
  have hin:∀(j:Nat) (h:j<l.length),0≤l[j].time∧l[j].time≤253402300799:=fun j h=>ht _ (List.getElem_mem h)
  have wa:∀(j:Nat) (h:j<l.length),IntKind.i64.wrap (l[j].time-t)=l[j].time-t:=fun j h=>zaq _ (by have:=hin j h;omega)
  have wb:∀(j:Nat) (h:j<l.length),IntKind.i64.wrap (t-l[j].time)=t-l[j].time:=fun j h=>zaq _ (by have:=hin j h;omega)
  have hneg:∀j:Nat,((j:Int)<0)=False:=fun j=>by simp
  have hpos:∀j:Nat,(0≤(j:Int))=True:=fun j=>by simp
  cases b with
  |none=>cases a with
   |none =>
    have hz:l[0]?=none∨∃z,l[0]?=some z:=by
     cases h:l[0]? with
     |none=>exact .inl rfl
     |some z=>exact .inr ⟨z,rfl⟩
    rcases hz with hz | ⟨z,hz⟩<;>rcases hw with rfl | rfl | rfl<;>simp -implicitDefEqProofs +contextual[-Bool.and_eq_false_imp,Bool.and_eq_false_iff,hlt,hz,zdd,atO,zbi]
   |some j =>
    have hj:=la j rfl
    have hz:0<l.length:=by omega
    rcases hw with rfl | rfl | rfl<;>simp -implicitDefEqProofs +contextual[-Bool.and_eq_false_imp,Bool.and_eq_false_iff,hlt,hz,zdd,atO,zbi,hj,hneg,hpos]
  |some m =>
   have hm:=lb m rfl
   cases a with
   |none =>
    have hz:0<l.length:=by omega
    rcases hw with rfl | rfl | rfl<;>simp -implicitDefEqProofs +contextual[-Bool.and_eq_false_imp,Bool.and_eq_false_iff,hlt,hz,zdd,atO,zbi,hm,hneg,hpos]
   |some j =>
    have hj:=la j rfl
    have w1:=wa j hj
    have w2:=wb m hm
    rcases hw with rfl | rfl | rfl
    ·by_cases hq:l[j].time-t<t-l[m].time
     ·have hqb:decide (l[j].time-t<t-l[m].time)=true:=by simp[hq]
      simp -implicitDefEqProofs[hlt,zdd,atO,zbi,hm,hj,w1,w2,hqb,hneg,hpos]
      rw[if_pos hq]
      simp
     ·have hqb:decide (l[j].time-t<t-l[m].time)=false:=by simp[hq]
      simp -implicitDefEqProofs[hlt,zdd,atO,zbi,hm,hj,w1,w2,hqb,hneg,hpos]
      rw[if_neg hq]
      simp
    ·simp -implicitDefEqProofs +contextual[-Bool.and_eq_false_imp,Bool.and_eq_false_iff,hlt,zdd,atO,zbi,hm,hj,w1,w2,hneg,hpos]
    ·simp -implicitDefEqProofs +contextual[-Bool.and_eq_false_imp,Bool.and_eq_false_iff,hlt,zdd,atO,zbi,hm,hj,w1,w2,hneg,hpos]
end Go.Proofs.YtlcmnclbljedfaaGreatDoor
