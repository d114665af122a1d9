/- A part of the proof: lemmas and contracts of functions. -/
import Derived.Test.YtlcmnclbljedfaaGreatDoorIxGRc
import Derived.Test.YtlcmnclbljedfaaGreatDoorIxGRa
import Derived.Test.YtlcmnclbljedfaaGreatDoorIxGRb
import Derived.Test.YtlcmnclbljedfaaGreatDoorAbJ5
import Derived.MakeChecks
import Derived.KernelRfl
import Derived.Test.YtlcmnclbljedfaaGreatDoorRows
import Derived.HandedShaped
import Derived.Shelf.Vars
set_option linter.all false
namespace Go.Proofs.YtlcmnclbljedfaaGreatDoor
open Go Go.Ab
section
variable [Amb]
set_option maxRecDepth 100000
set_option maxHeartbeats 8000000
@[simp]theorem zUc(e:Entry):e.row.all CV.flat=true:=rfl
def zuD(l:List Entry)(k:List UInt8)(t way:Int):Int:=
 if zFX l k≠0 then zFX l k else if inB 1 3 way=false then 4 else if zbf t=false then 1 else 0
def ze5(l:List Entry)(k:List UInt8)(t way:Int):Option Entry:=if zuD l k t way=0 then zun (zds l k) t way else none
theorem zt7(l:List Entry)(k:List UInt8)(t way:Int):zab Tryz.prog 104 [entries l,.one (.str k),.one (.int .i64 t),.one (.int .i64 way)]
  (.tup [.agg ((ze5 l k t way).getD zeroE).row,.one (.bool (ze5 l k t way).isSome),.one (.int .i64 (zuD l k t way))]):=by
 refine zab.of mixed (fn:=Tryz.f104) (by kernel_rfl) (by kernel_rfl) rfl (by kernel_rfl) (by simp[Tryz.f104]) (fun hok=>?_)
 have hO:ze5 l k t way=if zuD l k t way=0 then zun (zds l k) t way else none:=rfl
 generalize hF:zuD l k t way=F at hO
 unfold zuD at hF
 simp -implicitDefEqProofs +contextual[-Bool.and_eq_false_imp,Bool.and_eq_false_iff]
 refine zac.of (zm2 l k) ?_
 simp -implicitDefEqProofs +contextual[-Bool.and_eq_false_imp,Bool.and_eq_false_iff]
 refine⟨fun h=>?_,fun h=>zac.of (zdU _ _ _) ?_⟩
 ·rw[if_pos h] at hF
  subst hF
  rw[hO,if_neg h]
  exact⟨by simp[zbi],rfl,rfl⟩
 rw[if_neg (by simp[h])] at hF
 obtain⟨h1,h2⟩:=zwQ h
 have hs:=zhC h1
 obtain⟨ht,_⟩:=zi0 k h1
 have hle:=zuG l k
 simp -implicitDefEqProofs +contextual[-Bool.and_eq_false_imp,Bool.and_eq_false_iff]
 refine⟨fun h3=>?_,fun h3=>zac.of (zhb _) ?_⟩
 ·rw[if_pos h3] at hF
  subst hF
  rw[hO]
  exact⟨by simp[zbi],rfl,rfl⟩
 rw[if_neg (by simp[h3])] at hF
 simp -implicitDefEqProofs +contextual[-Bool.and_eq_false_imp,Bool.and_eq_false_iff]
 refine⟨fun h4=>?_,fun h4=>zac.of (zwk l k (zgJ h1).1 hs) ?_⟩
 ·rw[if_pos h4] at hF
  subst hF
  rw[hO]
  exact⟨by simp[zbi],rfl,rfl⟩
 rw[if_neg (by simp[h4])] at hF
 subst hF
 rw[hO,if_pos rfl]
 simp only[inB,zbf,Bool.and_eq_true,decide_eq_true_eq] at h3 h4
 simp -implicitDefEqProofs +contextual[-Bool.and_eq_false_imp,Bool.and_eq_false_iff]
 refine zac.of (zuW _ t way (by omega) ht h4 (by omega)) ?_
 simp -implicitDefEqProofs +contextual[-Bool.and_eq_false_imp,Bool.and_eq_false_iff]
end
end Go.Proofs.YtlcmnclbljedfaaGreatDoor
namespace Go.Proofs.YtlcmnclbljedfaaGreatDoor
open Go Go.Ab
variable [Amb]
set_option maxRecDepth 100000
set_option maxHeartbeats 4000000
theorem ziy:zab Tryz.prog 61 [.one .nil] (.x (.one (.int .i64 0))):=by
 refine zab.of mixed (fn:=Tryz.f61) (by kernel_rfl) (by kernel_rfl) rfl (by kernel_rfl) (by simp[Tryz.f61]) (fun hok=>?_)
 simp -implicitDefEqProofs +contextual[-Bool.and_eq_false_imp,Bool.and_eq_false_iff]
 refine zaK.of Unit (fun _=>[(8,.x (.one .nil)),(9,.x (.one (.int .i64 0))),(10,.x (.one (.int .i64 0)))]) (fun _=>True) (fun _=>0) () trivial ?_ ?_
 ·simp
 intro _ _
 simp -implicitDefEqProofs +contextual[-Bool.and_eq_false_imp,Bool.and_eq_false_iff]
abbrev zQF:XV:=.agg [.bool false,.nil,.str [],.int .i64 0,.int .i64 0,.str [],.str [],.str [],.int .i64 0,.int .i64 0,.bool false,.nil,.nil,.int .i64 0]
theorem zkz:zab Tryz.prog 26 [zQF] (.tup [.agg [.int .i64 1,.int .i64 1],.one (.int .i64 0)]):=by
 refine zab.of mixed (fn:=Tryz.f26) (by kernel_rfl) (by kernel_rfl) rfl (by kernel_rfl) (by simp[Tryz.f26]) (fun hok=>?_)
 simp -implicitDefEqProofs +contextual[-Bool.and_eq_false_imp,Bool.and_eq_false_iff]
 refine zac.of ziy ?_
 simp -implicitDefEqProofs +contextual[-Bool.and_eq_false_imp,Bool.and_eq_false_iff]
 refine zaK.of Unit (fun _=>[(1,.box zQF.cells),(2,.box [.int .i64 0,.int .i64 0]),(5,.x (.one (.int .i64 0))),(18,.x (.one .nil)),(19,.x (.one (.int .i64 0))),(20,.x (.one (.int .i64 0)))]) (fun _=>True) (fun _=>0) () trivial ?_ ?_
 ·simp
 intro _ _
 simp -implicitDefEqProofs +contextual[-Bool.and_eq_false_imp,Bool.and_eq_false_iff]
theorem zdy:zab Tryz.prog 9 [] (.x (.one (.bool true))):=by
 refine zab.of mixed (fn:=Tryz.f9) (by kernel_rfl) (by kernel_rfl) rfl (by kernel_rfl) (by simp[Tryz.f9]) (fun hok=>?_)
 simp -implicitDefEqProofs +contextual[-Bool.and_eq_false_imp,Bool.and_eq_false_iff]
 refine zac.of zkz ?_
 simp -implicitDefEqProofs +contextual[-Bool.and_eq_false_imp,Bool.and_eq_false_iff]
end Go.Proofs.YtlcmnclbljedfaaGreatDoor
namespace Go.Proofs.YtlcmnclbljedfaaGreatDoor
open Go Go.Ab
variable [Amb][zaY 0][zal Tryz.prog]
set_option maxRecDepth 100000
set_option maxHeartbeats 8000000
def zmh(hs:List Head)(w:List UInt8):List (List UInt8)×Int:=
 if zd0 hs≠0 then ([],zd0 hs) else if zs7 w=false then ([],5) else (ze2 hs (zbd w),0)
theorem zq6{l:List Head}(h:zd0 l=0):l.length≤1000000000:=by
 unfold zd0 at h
 split at h
 ·cases h
 ·rename_i h1;omega
theorem zmX(hs:List Head)(w:List UInt8):zab Tryz.prog 105 [ziE hs,.one (.str w)] (.tup [strs (zmh hs w).1,.one (.int .i64 (zmh hs w).2)]):=by
 have k1:=zdf hs
 have k2:=zgV w
 have k3:=zdi w
 unfold zmh
 refine zab.of mixed (fn:=Tryz.f105) (by kernel_rfl) (by kernel_rfl) rfl (by kernel_rfl) (by simp[Tryz.f105]) (fun hok=>?_)
 simp -implicitDefEqProofs
 refine zac.of k1 ?_
 by_cases h1:zd0 hs=0
 rotate_left
 ·have h1':(zd0 hs=0)=False:=eq_false h1
  rw[if_pos h1]
  simp -implicitDefEqProofs[h1']
 rw[if_neg (by simp[h1])]
 have k4:=zdD hs (zbd w) (zq6 h1)
 rw[h1]
 simp -implicitDefEqProofs
 refine zac.of k2 ?_
 cases h2:zs7 w
 ·rw[if_pos rfl]
  simp -implicitDefEqProofs
 rw[if_neg (by decide)]
 simp -implicitDefEqProofs
 refine zac.of k3 ?_
 simp -implicitDefEqProofs
 refine zac.of k4 ?_
 simp -implicitDefEqProofs
structure zxd(s:Sto)(m:zbW):Prop where
 right:zbB s.entries=0
 there:zff m s.entries=0
 ok:∀p∈m,p.2.ok
theorem zob{m:zbW}:∀{l:List Entry} {e:Entry},zff m l=0→e∈l→∃f w,zuf m e.file=some f∧zuf f.ids (e.lo,e.hi)=some w
 |x::r,e,h,he=>by
  unfold zff at h
  cases hg:zuf m x.file with
  |none=>rw[hg] at h;cases h
  |some f =>
   rw[hg] at h
   dsimp only at h
   split at h
   ·cases h
   ·rename_i hn
    rcases List.mem_cons.1 he with rfl | he
    ·refine⟨f,?_⟩
     cases hw:zuf f.ids (e.lo,e.hi) with
     |some w=>exact⟨w,hg,rfl⟩
     |none=>exact absurd (.inl (by unfold atF;rw[hw])) hn
    ·exact zob h he
theorem zAB{s:Sto}(h:(zfB s).2=0):zxd s (zfB s).1:=by
 unfold zfB at *
 split at h
 ·rename_i h1;exact absurd h h1
 rename_i h1
 rw[if_neg h1]
 split at h
 ·cases h
 rename_i h2
 rw[if_neg h2]
 split at h
 ·rename_i h3;exact absurd h h3
 rename_i h3
 rw[if_neg h3]
 split at h
 ·rename_i h4;exact absurd h h4
 rename_i h4
 rw[if_neg h4]
 split at h
 ·rename_i h5;exact absurd h h5
 rename_i h5
 rw[if_neg h5]
 refine⟨Decidable.of_not_not h4,Decidable.of_not_not h5,?_⟩
 have key:∀(F:List Fil) (p:Option (List UInt8)) (m:zbW),(∀p∈m,p.2.ok)→∀q∈(zc2 p m F).1,q.2.ok:=by
  intro F
  induction F with
  |nil=>intro p m h;unfold zc2;exact h
  |cons x r ih =>
   intro p m h
   unfold zc2
   split
   ·exact h
   split
   ·exact h
   split
   ·exact h
   ·refine ih _ _ (fun q hq=>?_)
    rcases zpi hq with hq | rfl
    ·exact h q hq
    ·exact zv5 _
 exact key s.files none [] (fun p hp=>by cases hp)
def zHt(f:ziR)(w:List UInt8):Ans×Int:=
 if (zky f.recs w).2≠0 then (zsf,(zky f.recs w).2)
 else ((zvm (zky f.recs w).1).1,if 0<(zvm (zky f.recs w).1).2.2.1∧((zvm (zky f.recs w).1).2.2.2=15∨(zvm (zky f.recs w).1).2.2.2=3) then 0 else (zvm (zky f.recs w).1).2.2.2)
def zrR(m:zbW)(e:Entry):Ans×Int:=match zuf m e.file with
 |some f=>match zuf f.ids (e.lo,e.hi) with
  |some w=>zHt f w
  |none=>(zsf,0)
 |none=>(zsf,0)
theorem zt5(s:Sto)(m:zbW)(ho:zxd s m)(e:Entry)(he:e∈s.entries):zab Tryz.prog 30 [.one (s.open_ m),.agg e.row] (.tup [.agg (zrR m e).1.row,.one (.int .i64 (zrR m e).2)]):=by
 obtain⟨f,w,hg1,hg2⟩:=zob ho.there he
 have hfk:=zdg (ev:=zAq) zoS e.file m 0
 have hE:znd zrp zAq m=mvE false true (zcZ m) (zdb m):=zlX m
 rw[hE] at hfk
 have hg:=zoK (l:=m) (k:=e.file) rfl
 have hE2:∀(q:Nat) (f:ziR),m[q]?=some (e.file,f)→(mvE false true (zcZ m) (zdb m))[q]?=some (XV.one (.str e.file),XV.agg [.list 7 (f.recs.map Rec.row),.mapv true false (zfx f.ids) (zfp f.ids)]):=by
  intro q f h
  rw[←hE]
  unfold znd
  rw[List.getElem?_map,h]
  rfl
 generalize m.findIdx? (fun p=>decide (e.file=p.1))=O1 at *
 rcases hg with⟨q,f',rfl,hgw,hiw⟩ | ⟨rfl,hgw⟩
 rotate_left
 ·rw[hgw] at hg1;cases hg1
 rw[hgw] at hg1
 cases hg1
 have hfk:zbz .s (.one (.str e.file)) (mvE false true (zcZ m) (zdb m)) 0=some (some q):=hfk
 have hEq:=hE2 q f hiw
 have hok:=ho.ok _ (List.mem_of_getElem? hiw)
 have hfk2:=zdg (ev:=zrp) zsN (e.lo,e.hi) f.ids 0
 have hE':znd idK zrp f.ids=mvE true false (zfx f.ids) (zfp f.ids):=zoN f.ids
 rw[hE'] at hfk2
 unfold idK at hfk2
 have hg':=zoK (α:=Int×Int) (β:=List UInt8) (l:=f.ids) (k:=(e.lo,e.hi)) rfl
 have hE3:∀(i:Nat) (w:List UInt8),f.ids[i]?=some ((e.lo,e.hi),w)→(mvE true false (zfx f.ids) (zfp f.ids))[i]?=some (XV.agg [.int .i64 e.lo,.int .i64 e.hi],XV.one (.str w)):=by
  intro i w h
  rw[←hE']
  unfold znd
  rw[List.getElem?_map,h]
  rfl
 generalize f.ids.findIdx? (fun p=>decide ((e.lo,e.hi)=p.1))=O2 at *
 rcases hg' with⟨i,w',rfl,hgw',hiw'⟩ | ⟨rfl,hgw'⟩
 rotate_left
 ·rw[hgw'] at hg2;cases hg2
 rw[hgw'] at hg2
 cases hg2
 have hfk2:zbz (.st [.i,.i]) (.agg [.int .i64 e.lo,.int .i64 e.hi]) (mvE true false (zfx f.ids) (zfp f.ids)) 0=some (some i):=hfk2
 have hEi:=hE3 i w hiw'
 have k1:=zqh f.recs w (Nat.le_trans hok.2 (by decide))
 have hkept:zrR m e=zHt f w:=by unfold zrR;rw[hgw];dsimp only;rw[hgw']
 rw[hkept]
 unfold zHt
 unfold zey at k1
 generalize zky f.recs w=S at *
 obtain⟨blk,flt⟩:=S
 dsimp only at *
 have k2:=zi7 blk
 generalize zvm blk=A at *
 obtain⟨an,sz,at',af⟩:=A
 dsimp only at *
 have hrow:an.row=[.int .i64 an.st,.str an.re,.list 2 (an.hs.map Head.row),za7 an.ct]:=rfl
 rw[hrow] at k2
 have hrowe:e.row=[.str e.key,.int .i64 e.time,.int .i64 e.status,.str e.type,.str e.digest,.str e.file,.int .i64 e.lo,.int .i64 e.hi,.bool e.same]:=rfl
 rw[hrowe]
 unfold Sto.open_ Sto.cs zlh
 rw[List.cons_append,List.cons_append,List.cons_append,List.nil_append]
 refine zab.of mixed (fn:=Tryz.f30) (by kernel_rfl) (by kernel_rfl) rfl (by kernel_rfl) (by simp[Tryz.f30]) (fun hok=>?_)
 simp -implicitDefEqProofs
 refine ztD.l ⟨by kernel_rfl,?_⟩
 simp -implicitDefEqProofs[hfk,hEq,hfk2,hEi]
 refine zac.of k1 ?_
 by_cases hf:flt=0
 rotate_left
 ·have hf':(flt=0)=False:=eq_false hf
  rw[if_pos hf]
  simp -implicitDefEqProofs[hf',zsf,Ans.row]
  skip;done
 rw[if_neg (by simp[hf])]
 subst hf
 simp -implicitDefEqProofs
 refine zac.of k2 ?_
 by_cases h0:0<at'
 ·have h0':(0<at')=True:=eq_true h0
  have h0n:(at'=0)=False:=eq_false (by omega)
  by_cases h15:af=15
  ·subst h15
   rw[if_pos ⟨h0,.inl rfl⟩]
   simp -implicitDefEqProofs[h0',h0n,hrow]
  ·have h15':(af=15)=False:=eq_false h15
   by_cases h3:af=3
   ·subst h3
    rw[if_pos ⟨h0,.inr rfl⟩]
    simp -implicitDefEqProofs[h0',h0n,hrow]
   ·have h3':(af=3)=False:=eq_false h3
    rw[if_neg (by omega)]
    simp -implicitDefEqProofs[h0',h0n,h15',h3',hrow]
 ·obtain rfl:at'=0:=by omega
  rw[if_neg (by omega)]
  simp -implicitDefEqProofs[hrow]
def zUb:List UInt8:=[109,111,100,105,102,105,101,100]
def zpZ(m:zbW)(e:Entry)(t:Int):Bool:=
 if (zrR m e).2≠0 then false
 else match (zmh (zrR m e).1.hs zUb).1 with
  |v::_=>zrq v&&decide (t<rdV v)
  |[]=>false
theorem zoW(s:Sto)(m:zbW)(ho:zxd s m)(e:Entry)(he:e∈s.entries)(t:Int):zab Tryz.prog 60 [.one (s.open_ m),.agg e.row,.one (.int .i64 t)] (.x (.one (.bool (zpZ m e t)))):=by
 have k1:=zt5 s m ho e he
 unfold zpZ
 generalize zrR m e=K at *
 obtain⟨an,kf⟩:=K
 dsimp only at *
 have k2:=zmX an.hs zUb
 generalize zmh an.hs zUb=W at *
 obtain⟨vs,vf⟩:=W
 dsimp only at *
 unfold zUb at k2
 have hrow:an.row=[.int .i64 an.st,.str an.re,.list 2 (an.hs.map Head.row),za7 an.ct]:=rfl
 rw[hrow] at k1
 have hrowe:e.row=[.str e.key,.int .i64 e.time,.int .i64 e.status,.str e.type,.str e.digest,.str e.file,.int .i64 e.lo,.int .i64 e.hi,.bool e.same]:=rfl
 rw[hrowe] at *
 unfold Sto.open_ Sto.cs zlh at *
 rw[List.cons_append,List.cons_append,List.cons_append,List.nil_append] at *
 refine zab.of mixed (fn:=Tryz.f60) (by kernel_rfl) (by kernel_rfl) rfl (by kernel_rfl) (by simp[Tryz.f60]) (fun hok=>?_)
 simp -implicitDefEqProofs
 refine zac.of k1 ?_
 by_cases hk:kf=0
 rotate_left
 ·have hk':(kf=0)=False:=eq_false hk
  rw[if_pos hk]
  simp -implicitDefEqProofs[hk']
 rw[if_neg (by simp[hk])]
 subst hk
 simp -implicitDefEqProofs
 refine zac.of k2 ?_
 cases vs with
 |nil=>simp -implicitDefEqProofs
 |cons v r =>
  have k3:=zf7 v
  have h0:(((v::r).length:Int)=0)=False:=eq_false (by simp;omega)
  have h1:((r.length:Int)+1=0)=False:=eq_false (by omega)
  simp -implicitDefEqProofs[h0,h1]
  refine zac.of k3 ?_
  cases hr:zrq v
  ·simp -implicitDefEqProofs[hr]
  ·simp -implicitDefEqProofs[hr]
theorem zlP(e:Entry)(t:Int)(h1:0≤e.time∧e.time≤253402300799)(h2:0≤t∧t≤253402300799):zab Tryz.prog 58 [.agg e.row,.one (.int .i64 t)] (.x (.one (.int .i64 (zj2 e.time t)))):=by
 have w1:IntKind.i64.wrap (e.time-t)=e.time-t:=zaq _ (by omega)
 have w2:IntKind.i64.wrap (t-e.time)=t-e.time:=zaq _ (by omega)
 have hrowe:e.row=[.str e.key,.int .i64 e.time,.int .i64 e.status,.str e.type,.str e.digest,.str e.file,.int .i64 e.lo,.int .i64 e.hi,.bool e.same]:=rfl
 rw[hrowe]
 unfold zj2
 refine zab.of mixed (fn:=Tryz.f58) (by kernel_rfl) (by kernel_rfl) rfl (by kernel_rfl) (by simp[Tryz.f58]) (fun hok=>?_)
 simp -implicitDefEqProofs[w1,w2]
def ztA(d:Int):Bool:=decide (0≤d)&&decide (d≤1000000000000)
theorem zm6(d:Int):zab Tryz.prog 57 [.one (.int .i64 d)] (.x (.one (.bool (ztA d)))):=by
 unfold ztA
 refine zab.of mixed (fn:=Tryz.f57) (by kernel_rfl) (by kernel_rfl) rfl (by kernel_rfl) (by simp[Tryz.f57]) (fun hok=>?_)
 simp -implicitDefEqProofs
theorem zjO(s:Sto)(m:zbW)(k:List UInt8)(t way:Int):zab Tryz.prog 59 [.one (s.open_ m),.one (.str k),.one (.int .i64 t),.one (.int .i64 way)] (.tup [.agg ((ze5 s.entries k t way).getD zeroE).row,.one (.bool (ze5 s.entries k t way).isSome)]):=by
 have k1:=zt7 s.entries k t way
 unfold entries at k1
 generalize ze5 s.entries k t way=o at *
 have hrow:∀e:Entry,e.row=[.str e.key,.int .i64 e.time,.int .i64 e.status,.str e.type,.str e.digest,.str e.file,.int .i64 e.lo,.int .i64 e.hi,.bool e.same]:=fun _=>rfl
 rw[hrow] at *
 unfold Sto.open_ Sto.cs zlh at *
 rw[List.cons_append,List.cons_append,List.cons_append,List.nil_append] at *
 refine zab.of mixed (fn:=Tryz.f59) (by kernel_rfl) (by kernel_rfl) rfl (by kernel_rfl) (by simp[Tryz.f59]) (fun hok=>?_)
 simp -implicitDefEqProofs
 refine zac.of k1 ?_
 simp -implicitDefEqProofs
theorem zyo{t way:Int}{b a:Option Entry}{e:Entry}(h:zdd t way b a=some e):b=some e∨a=some e:=by
 unfold zdd at h
 split at h
 ·exact .inr h
 split at h
 ·exact .inl h
 cases b with
 |none=>cases a with
  |none=>cases h
  |some a=>exact .inr h
 |some b=>cases a with
  |none=>exact .inl h
  |some a =>
   dsimp only at h
   split at h
   ·exact .inr h
   ·exact .inl h
theorem zjY{l:List Entry}{k:List UInt8}{t way:Int}{e:Entry}(h:ze5 l k t way=some e):e∈l∧(0≤t∧t≤253402300799)∧(0≤e.time∧e.time≤253402300799)∧zbB l=0:=by
 unfold ze5 at h
 split at h
 rotate_left
 ·cases h
 rename_i h0
 unfold zuD at h0
 split at h0
 ·rename_i h1;exact absurd h0 h1
 rename_i h1
 split at h0
 ·cases h0
 split at h0
 ·cases h0
 rename_i h3
 have hm:zbf t=true:=by simpa using h3
 obtain⟨hE,_⟩:=zwQ (Decidable.of_not_not h1)
 have hw:e∈zds l k:=by
  unfold zun at h
  rcases zyo h with h | h
  ·exact(ztR (zds l k) h).1
  ·exact(zHC (zds l k) h).1
 refine⟨(List.mem_filter.1 hw).1,?_,(zi0 k hE).1 e hw,hE⟩
 unfold zbf inB at hm
 rw[Bool.and_eq_true,decide_eq_true_iff,decide_eq_true_iff] at hm
 exact hm
def zdz(l:List Entry)(k:List UInt8)(t d:Int):Option Entry:=match ze5 l k t 1 with
 |some e=>if d<zj2 e.time t then none else some e
 |none=>none
theorem ziL(s:Sto)(m:zbW)(k:List UInt8)(t d:Int):zab Tryz.prog 27 [.one (s.open_ m),.one (.str k),.one (.int .i64 t),.one (.int .i64 d)] (.tup [.agg ((zdz s.entries k t d).getD zeroE).row,.one (.bool (zdz s.entries k t d).isSome)]):=by
 have k1:=zjO s m k t 1
 have hs:=fun e=>zjY (l:=s.entries) (k:=k) (t:=t) (way:=1) (e:=e)
 unfold zdz
 generalize ze5 s.entries k t 1=o at *
 have hrow:∀e:Entry,e.row=[.str e.key,.int .i64 e.time,.int .i64 e.status,.str e.type,.str e.digest,.str e.file,.int .i64 e.lo,.int .i64 e.hi,.bool e.same]:=fun _=>rfl
 unfold Sto.open_ Sto.cs zlh at *
 rw[List.cons_append,List.cons_append,List.cons_append,List.nil_append] at *
 cases o with
 |none =>
  dsimp only
  simp only[Option.getD_none,zbi] at k1 ⊢
  refine zab.of mixed (fn:=Tryz.f27) (by kernel_rfl) (by kernel_rfl) rfl (by kernel_rfl) (by simp[Tryz.f27]) (fun hok=>?_)
  simp -implicitDefEqProofs
  refine zac.of k1 ?_
  simp -implicitDefEqProofs
  refine zah.of (fun h=>by cases h) (r:=.x (.one (.int .i64 0))) rfl ?_
  simp -implicitDefEqProofs[zbi]
 |some e =>
  obtain⟨_,h1,h2,_⟩:=hs e rfl
  have k2:=zlP e t h2 h1
  rw[Option.getD_some,hrow] at k1
  rw[hrow] at k2
  dsimp only
  refine zab.of mixed (fn:=Tryz.f27) (by kernel_rfl) (by kernel_rfl) rfl (by kernel_rfl) (by simp[Tryz.f27]) (fun hok=>?_)
  simp -implicitDefEqProofs
  refine zac.of k1 ?_
  simp -implicitDefEqProofs
  refine zah.of (fun _=>k2) rfl ?_
  by_cases hd:d<zj2 e.time t
  ·have hd':(d<zj2 e.time t)=True:=eq_true hd
   rw[if_pos hd]
   simp -implicitDefEqProofs[hd',zbi]
  ·have hd':(d<zj2 e.time t)=False:=eq_false hd
   rw[if_neg hd]
   simp -implicitDefEqProofs[hd',hrow]
def zuU(s:Sto)(k:List UInt8)(t d:Int):Int:=
 if (zfB s).2≠0 then (zfB s).2 else if zuu k=false then 3 else if zbf t=false∨ztA d=false then 1 else 0
def zSM(s:Sto)(k:List UInt8)(t d:Int):CV:=if zuU s k t d=0 then s.open_ (zfB s).1 else .atom (.pointer none)
theorem znO(s:Sto)(hs:s.fit)(k:List UInt8)(t d:Int):zab Tryz.prog 24 [.agg s.cs,.one (.str k),.one (.int .i64 t),.one (.int .i64 d)] (.tup [.one (zSM s k t d),.one (.int .i64 (zuU s k t d))]):=by
 have k1:=zrZ s hs
 have k2:=isKey k
 have k3:=zhb t
 have k4:=zm6 d
 unfold zSM
 obtain⟨A,eA⟩:∃A,A=zuU s k t d:=⟨_,rfl⟩
 rw[←eA]
 unfold zuU at eA
 unfold ztL at k1
 generalize zfB s=O at *
 obtain⟨m,f⟩:=O
 dsimp only at *
 unfold Sto.open_ Sto.cs zlh at *
 rw[List.cons_append,List.cons_append,List.cons_append,List.nil_append] at *
 by_cases hf:f=0
 rotate_left
 ·rw[if_neg hf] at k1
  rw[if_pos hf] at eA
  subst eA
  rw[if_neg hf]
  have hf':(A=0)=False:=eq_false hf
  refine zab.of mixed (fn:=Tryz.f24) (by kernel_rfl) (by kernel_rfl) rfl (by kernel_rfl) (by simp[Tryz.f24]) (fun hok=>?_)
  simp -implicitDefEqProofs
  refine zac.of k1 ?_
  simp -implicitDefEqProofs[hf']
 rw[if_neg (by simp[hf])] at eA
 subst hf
 rw[if_pos rfl] at k1
 refine zab.of mixed (fn:=Tryz.f24) (by kernel_rfl) (by kernel_rfl) rfl (by kernel_rfl) (by simp[Tryz.f24]) (fun hok=>?_)
 simp -implicitDefEqProofs
 refine zac.of k1 ?_
 simp -implicitDefEqProofs
 refine zac.of k2 ?_
 cases h2:zuu k
 ·rw[if_pos h2] at eA
  subst eA
  simp -implicitDefEqProofs
 rw[if_neg (by simp[h2])] at eA
 simp -implicitDefEqProofs
 refine zac.of k3 ?_
 cases h3:zbf t
 ·rw[if_pos (.inl h3)] at eA
  subst eA
  simp -implicitDefEqProofs[h3]
  refine zah.of (fun h=>by cases h) (r:=.x (.one (.bool true))) rfl ?_
  simp -implicitDefEqProofs[h3]
 ·simp -implicitDefEqProofs[h3]
  refine zah.of (fun _=>k4) rfl ?_
  cases h4:ztA d
  ·rw[if_pos (.inr h4)] at eA
   subst eA
   simp -implicitDefEqProofs[h3,h4]
  ·rw[if_neg (by simp[h3,h4])] at eA
   subst eA
   simp -implicitDefEqProofs[h3,h4]
structure zww where
 key:List UInt8
 kind:Int
 state:Int
 time:Int
 drift:Int
def zww.row(x:zww):List CV:=[.str x.key,.int .i64 x.kind,.int .i64 x.state,.int .i64 x.time,.int .i64 x.drift]
def zFH:zww:=⟨[],0,0,0,0⟩
def zkB(b a:Option Entry):Bool:=match b,a with
 |some b,some a=>decide (b.digest=a.digest)
 |_,_=>false
def zsH(m:zbW)(t:Int)(e:Entry)(b a:Option Entry):Int:=
 if zj2 e.time t=0 then 1 else if zkB b a=true∧e.time<t then 2 else if zkB b a=true then 3 else if t<e.time∧zpZ m e t=true then 5 else 4
def zxK(s:Sto)(m:zbW)(k:List UInt8)(t d:Int):zww:=match zdz s.entries k t d with
 |some e=>⟨k,0,zsH m t e (ze5 s.entries k t 2) (ze5 s.entries k t 3),e.time,zj2 e.time t⟩
 |none=>⟨k,0,6,0,0⟩
theorem zil{l:List Entry}{k:List UInt8}{t d:Int}{e:Entry}(h:zdz l k t d=some e):ze5 l k t 1=some e∧zj2 e.time t≤d:=by
 unfold zdz at h
 split at h
 ·rename_i x hx
  split at h
  ·cases h
  ·rename_i hd
   cases h
   exact⟨hx,by omega⟩
 ·cases h
theorem zrd(s:Sto)(m:zbW)(ho:zxd s m)(k:List UInt8)(t d:Int):zab Tryz.prog 25 [.one (s.open_ m),.one (.str k),.one (.int .i64 t),.one (.int .i64 d)] (.x (.agg (zxK s m k t d).row)):=by
 have k1:=ziL s m k t d
 have k2:=zjO s m k t 2
 have k3:=zjO s m k t 3
 have hs:=fun e=>zil (l:=s.entries) (k:=k) (t:=t) (d:=d) (e:=e)
 have hl:=fun e he=>zoW s m ho e he t
 unfold zxK
 generalize zdz s.entries k t d=o at *
 generalize ze5 s.entries k t 2=b at *
 generalize ze5 s.entries k t 3=a at *
 have hrow:∀e:Entry,e.row=[.str e.key,.int .i64 e.time,.int .i64 e.status,.str e.type,.str e.digest,.str e.file,.int .i64 e.lo,.int .i64 e.hi,.bool e.same]:=fun _=>rfl
 unfold Sto.open_ Sto.cs zlh at *
 rw[List.cons_append,List.cons_append,List.cons_append,List.nil_append] at *
 cases o with
 |none =>
  dsimp only
  simp only[Option.getD_none,zbi] at k1
  unfold zww.row
  refine zab.of mixed (fn:=Tryz.f25) (by kernel_rfl) (by kernel_rfl) rfl (by kernel_rfl) (by simp[Tryz.f25]) (fun hok=>?_)
  simp -implicitDefEqProofs
  refine zac.of k1 ?_
  simp -implicitDefEqProofs[zbi]
 |some e =>
  obtain⟨hn,hd⟩:=hs e rfl
  obtain⟨he,h1,h2,_⟩:=zjY hn
  have k4:=zlP e t h2 h1
  have k5:=hl e he
  rw[Option.getD_some] at k1
  rw[hrow] at k1 k2 k3 k4 k5
  dsimp only
  unfold zww.row zsH
  generalize zpZ m e t=L at *
  generalize zj2 e.time t=A at *
  refine zab.of mixed (fn:=Tryz.f25) (by kernel_rfl) (by kernel_rfl) rfl (by kernel_rfl) (by simp[Tryz.f25]) (fun hok=>?_)
  simp -implicitDefEqProofs
  refine zac.of k1 ?_
  simp -implicitDefEqProofs
  refine ztD.l ⟨by kernel_rfl,?_⟩
  simp -implicitDefEqProofs
  refine zac.of k4 ?_
  simp -implicitDefEqProofs
  refine zac.of k2 ?_
  simp -implicitDefEqProofs
  refine zac.of k3 ?_
  by_cases hA:A=0
  ·subst hA
   rw[if_pos rfl]
   simp -implicitDefEqProofs
  rw[if_neg hA]
  have hA':(A=0)=False:=eq_false hA
  cases b with
  |none =>
   rw[if_neg (by simp[zkB]),if_neg (by simp[zkB])]
   by_cases hg:t<e.time
   ·have hg':(t<e.time)=True:=eq_true hg
    have hdg:decide (t<e.time)=true:=decide_eq_true hg
    simp -implicitDefEqProofs[hA',hg',hdg]
    refine zah.of (fun _=>k5) rfl ?_
    cases L
    ·rw[if_neg (by simp)]
     simp -implicitDefEqProofs[hA',hg',hdg]
    ·rw[if_pos ⟨hg,rfl⟩]
     simp -implicitDefEqProofs[hA',hg',hdg]
   ·have hg':(t<e.time)=False:=eq_false hg
    have hdg:decide (t<e.time)=false:=decide_eq_false hg
    rw[if_neg (by intro h;exact hg h.1)]
    simp -implicitDefEqProofs[hA',hg',hdg]
    refine zah.of (fun h=>by cases h) (r:=.x (.one (.bool true))) rfl ?_
    simp -implicitDefEqProofs[hA',hg',hdg]
  |some b=>cases a with
   |none =>
    rw[if_neg (by simp[zkB]),if_neg (by simp[zkB])]
    by_cases hg:t<e.time
    ·have hg':(t<e.time)=True:=eq_true hg
     have hdg:decide (t<e.time)=true:=decide_eq_true hg
     simp -implicitDefEqProofs[hA',hg',hdg]
     refine zah.of (fun _=>k5) rfl ?_
     cases L
     ·rw[if_neg (by simp)]
      simp -implicitDefEqProofs[hA',hg',hdg]
     ·rw[if_pos ⟨hg,rfl⟩]
      simp -implicitDefEqProofs[hA',hg',hdg]
    ·have hg':(t<e.time)=False:=eq_false hg
     have hdg:decide (t<e.time)=false:=decide_eq_false hg
     rw[if_neg (by intro h;exact hg h.1)]
     simp -implicitDefEqProofs[hA',hg',hdg]
     refine zah.of (fun h=>by cases h) (r:=.x (.one (.bool true))) rfl ?_
     simp -implicitDefEqProofs[hA',hg',hdg]
   |some a =>
    by_cases hd:b.digest=a.digest
    ·have hd':(b.digest=a.digest)=True:=eq_true hd
     have hb':(b.digest==a.digest)=true:=by simp[hd]
     by_cases hl:e.time<t
     ·have hl':(e.time<t)=True:=eq_true hl
      have hdl:decide (e.time<t)=true:=decide_eq_true hl
      rw[if_pos ⟨by simp[zkB,hd],hl⟩]
      simp -implicitDefEqProofs[hA',hd',hb',hl',hdl]
     ·have hl':(e.time<t)=False:=eq_false hl
      have hdl:decide (e.time<t)=false:=decide_eq_false hl
      rw[if_neg (fun h=>hl h.2),if_pos (by simp[zkB,hd])]
      simp -implicitDefEqProofs[hA',hd',hb',hl',hdl]
    ·have hd':(b.digest=a.digest)=False:=eq_false hd
     have hb':(b.digest==a.digest)=false:=by simp[hd]
     rw[if_neg (by simp[zkB,hd]),if_neg (by simp[zkB,hd])]
     by_cases hg:t<e.time
     ·have hg':(t<e.time)=True:=eq_true hg
      have hdg:decide (t<e.time)=true:=decide_eq_true hg
      simp -implicitDefEqProofs[hA',hd',hb',hg',hdg]
      refine zah.of (fun _=>k5) rfl ?_
      cases L
      ·rw[if_neg (by simp)]
       simp -implicitDefEqProofs[hA',hd',hb',hg',hdg]
      ·rw[if_pos ⟨hg,rfl⟩]
       simp -implicitDefEqProofs[hA',hd',hb',hg',hdg]
     ·have hg':(t<e.time)=False:=eq_false hg
      have hdg:decide (t<e.time)=false:=decide_eq_false hg
      rw[if_neg (by intro h;exact hg h.1)]
      simp -implicitDefEqProofs[hA',hd',hb',hg',hdg]
      refine zah.of (fun h=>by cases h) (r:=.x (.one (.bool true))) rfl ?_
      simp -implicitDefEqProofs[hA',hd',hb',hg',hdg]
theorem zwG{s:Sto}{k:List UInt8}{t d:Int}(h:zuU s k t d=0):zxd s (zfB s).1:=by
 refine zAB ?_
 unfold zuU at h
 split at h
 ·rename_i h1;exact absurd h h1
 ·rename_i h1;exact Decidable.of_not_not h1
def zrA(s:Sto)(k:List UInt8)(t d:Int):zww:=if zuU s k t d=0 then zxK s (zfB s).1 k t d else zFH
theorem zoZ(s:Sto)(hs:s.fit)(k:List UInt8)(t d:Int):zab Tryz.prog 8 [.agg s.cs,.one (.str k),.one (.int .i64 t),.one (.int .i64 d)] (.tup [.agg (zrA s k t d).row,.one (.int .i64 (zuU s k t d))]):=by
 have k1:=znO s hs k t d
 have ho:=zwG (s:=s) (k:=k) (t:=t) (d:=d)
 unfold zrA
 unfold zSM at k1
 generalize zuU s k t d=A at *
 by_cases hA:A=0
 ·have k2:=zrd s (zfB s).1 (ho hA) k t d
  subst hA
  rw[if_pos rfl] at k1 ⊢
  generalize (zfB s).1=m at *
  generalize zxK s m k t d=p at *
  have hrow:p.row=[.str p.key,.int .i64 p.kind,.int .i64 p.state,.int .i64 p.time,.int .i64 p.drift]:=rfl
  rw[hrow] at k2 ⊢
  unfold Sto.open_ at *
  unfold Sto.cs at *
  rw[List.cons_append,List.cons_append,List.cons_append,List.nil_append] at *
  refine zab.of mixed (fn:=Tryz.f8) (by kernel_rfl) (by kernel_rfl) rfl (by kernel_rfl) (by simp[Tryz.f8]) (fun hok=>?_)
  simp -implicitDefEqProofs
  refine zac.of k1 ?_
  simp -implicitDefEqProofs
  refine zac.of k2 ?_
  simp -implicitDefEqProofs
 ·rw[if_neg hA] at k1 ⊢
  have hA':(A=0)=False:=eq_false hA
  unfold zFH zww.row
  unfold Sto.cs at *
  refine zab.of mixed (fn:=Tryz.f8) (by kernel_rfl) (by kernel_rfl) rfl (by kernel_rfl) (by simp[Tryz.f8]) (fun hok=>?_)
  simp -implicitDefEqProofs
  refine zac.of k1 ?_
  simp -implicitDefEqProofs[hA']
def zkY(s:Sto)(k:List UInt8)(t d:Int):Option Entry:=if zuU s k t d=0 then zdz s.entries k t d else none
theorem zmY(s:Sto)(hs:s.fit)(k:List UInt8)(t d:Int):zab Tryz.prog 10 [.agg s.cs,.one (.str k),.one (.int .i64 t),.one (.int .i64 d)] (.tup [.agg ((zkY s k t d).getD zeroE).row,.one (.bool (zkY s k t d).isSome),.one (.int .i64 (zuU s k t d))]):=by
 have k1:=znO s hs k t d
 unfold zkY
 unfold zSM at k1
 generalize zuU s k t d=A at *
 by_cases hA:A=0
 ·have k2:=ziL s (zfB s).1 k t d
  subst hA
  rw[if_pos rfl] at k1
  rw[if_pos rfl]
  generalize (zfB s).1=m at *
  generalize zdz s.entries k t d=o at *
  have hrow:(o.getD zeroE).row=[.str (o.getD zeroE).key,.int .i64 (o.getD zeroE).time,.int .i64 (o.getD zeroE).status,.str (o.getD zeroE).type,.str (o.getD zeroE).digest,.str (o.getD zeroE).file,.int .i64 (o.getD zeroE).lo,.int .i64 (o.getD zeroE).hi,.bool (o.getD zeroE).same]:=rfl
  rw[hrow] at k2 ⊢
  unfold Sto.open_ at *
  unfold Sto.cs at *
  rw[List.cons_append,List.cons_append,List.cons_append,List.nil_append] at *
  refine zab.of mixed (fn:=Tryz.f10) (by kernel_rfl) (by kernel_rfl) rfl (by kernel_rfl) (by simp[Tryz.f10]) (fun hok=>?_)
  simp -implicitDefEqProofs
  refine zac.of k1 ?_
  simp -implicitDefEqProofs
  refine zac.of k2 ?_
  simp -implicitDefEqProofs
 ·rw[if_neg hA] at k1
  rw[if_neg hA]
  have hA':(A=0)=False:=eq_false hA
  unfold Sto.cs at *
  refine zab.of mixed (fn:=Tryz.f10) (by kernel_rfl) (by kernel_rfl) rfl (by kernel_rfl) (by simp[Tryz.f10]) (fun hok=>?_)
  simp -implicitDefEqProofs
  refine zac.of k1 ?_
  simp -implicitDefEqProofs[hA',zbi]
theorem zuT{x t:Int}(h:zj2 x t≠0)(h2:¬x<t):t<x:=by
 unfold zj2 at h
 omega
theorem zAe(s:Sto)(hs:s.fit)(k:List UInt8)(t d:Int):zab Tryz.prog 3 [.agg s.cs,.one (.str k),.one (.int .i64 t),.one (.int .i64 d)] (.x (.one (.bool true))):=by
 have k1:=zoZ s hs k t d
 have k2:=zmY s hs k t d
 unfold zrA at k1
 unfold zkY at k2
 unfold zxK at k1
 generalize zuU s k t d=A at *
 by_cases hA:A=0
 rotate_left
 ·rw[if_neg hA] at k1
  have hA':(A=0)=False:=eq_false hA
  unfold zFH zww.row at k1
  unfold Sto.cs at *
  refine zab.of mixed (fn:=Tryz.f3) (by kernel_rfl) (by kernel_rfl) rfl (by kernel_rfl) (by simp[Tryz.f3]) (fun hok=>?_)
  simp -implicitDefEqProofs
  refine zac.of k1 ?_
  simp -implicitDefEqProofs[hA']
  refine zah.of (fun _=>zdy) rfl ?_
  simp -implicitDefEqProofs
 subst hA
 rw[if_pos rfl] at k1
 rw[if_pos rfl] at k2
 generalize (zfB s).1=m at *
 have hs2:=fun e=>zil (l:=s.entries) (k:=k) (t:=t) (d:=d) (e:=e)
 generalize zdz s.entries k t d=o at *
 unfold Sto.cs at *
 cases o with
 |none =>
  dsimp only at k1
  unfold zww.row at k1
  rw[Option.getD_none] at k2
  refine zab.of mixed (fn:=Tryz.f3) (by kernel_rfl) (by kernel_rfl) rfl (by kernel_rfl) (by simp[Tryz.f3]) (fun hok=>?_)
  simp -implicitDefEqProofs
  refine zac.of k1 ?_
  simp -implicitDefEqProofs
  refine zac.of k2 ?_
  simp -implicitDefEqProofs
  refine zah.of (fun _=>zdy) rfl ?_
  simp -implicitDefEqProofs
 |some e =>
  obtain⟨hn,hd⟩:=hs2 e rfl
  obtain⟨he,h1,h2,_⟩:=zjY hn
  have w1:IntKind.i64.wrap (e.time-t)=e.time-t:=zaq _ (by omega)
  have w2:IntKind.i64.wrap (t-e.time)=t-e.time:=zaq _ (by omega)
  have hrow:e.row=[.str e.key,.int .i64 e.time,.int .i64 e.status,.str e.type,.str e.digest,.str e.file,.int .i64 e.lo,.int .i64 e.hi,.bool e.same]:=rfl
  dsimp only at k1
  unfold zww.row at k1
  rw[Option.getD_some,hrow] at k2
  have hst:∃S,S=zsH m t e (ze5 s.entries k t 2) (ze5 s.entries k t 3):=⟨_,rfl⟩
  obtain⟨S,eS⟩:=hst
  rw[←eS] at k1
  unfold zsH at eS
  have haw:zj2 e.time t=max (e.time-t) (t-e.time):=rfl
  rw[haw] at k1 eS
  have hmz:=fun h=>zuT (x:=e.time) (t:=t) h
  rw[haw] at hmz
  generalize hMx:max (e.time-t) (t-e.time)=X at *
  refine zab.of mixed (fn:=Tryz.f3) (by kernel_rfl) (by kernel_rfl) rfl (by kernel_rfl) (by simp[Tryz.f3]) (fun hok=>?_)
  simp -implicitDefEqProofs
  refine zac.of k1 ?_
  simp -implicitDefEqProofs
  refine zac.of k2 ?_
  by_cases hX:X=0
  ·rw[if_pos hX] at eS
   subst eS
   subst hX
   simp -implicitDefEqProofs[w1,w2,hMx]
   refine zac.of zdy ?_
   simp -implicitDefEqProofs
  have hX':(X=0)=False:=eq_false hX
  rw[if_neg hX] at eS
  by_cases h3:zkB (ze5 s.entries k t 2) (ze5 s.entries k t 3)=true∧e.time<t
  ·rw[if_pos h3] at eS
   subst eS
   have hl:(e.time<t)=True:=eq_true h3.2
   simp -implicitDefEqProofs[w1,w2,hMx,hX',hl]
   refine zah.of (fun _=>zdy) rfl ?_
   simp -implicitDefEqProofs
  rw[if_neg h3] at eS
  by_cases h4:zkB (ze5 s.entries k t 2) (ze5 s.entries k t 3)=true
  ·rw[if_pos h4] at eS
   subst eS
   have hl:(t<e.time)=True:=eq_true (hmz hX (fun h=>h3 ⟨h4,h⟩))
   simp -implicitDefEqProofs[w1,w2,hMx,hX',hl]
   refine zah.of (fun _=>zdy) rfl ?_
   simp -implicitDefEqProofs
  rw[if_neg h4] at eS
  by_cases h5:t<e.time∧zpZ m e t=true
  ·rw[if_pos h5] at eS
   subst eS
   have hl:(t<e.time)=True:=eq_true h5.1
   simp -implicitDefEqProofs[w1,w2,hMx,hX',hl]
   refine zah.of (fun _=>zdy) rfl ?_
   simp -implicitDefEqProofs
  ·rw[if_neg h5] at eS
   subst eS
   simp -implicitDefEqProofs[w1,w2,hMx,hX']
   refine zac.of zdy ?_
   simp -implicitDefEqProofs
end Go.Proofs.YtlcmnclbljedfaaGreatDoor
namespace Go.Proofs.YtlcmnclbljedfaaGreatDoor
open Go Go.Ab
variable [Amb]
set_option maxRecDepth 100000
theorem own:ownKnob Tryz.prog.godebug=none:=by kernel_rfl
theorem laidOut:laidOutB Tryz.prog=true:=by kernel_rfl
def zpy:KT:=.st [.s,.i .i64,.i .i64,.s,.s,.s,.st [.i .i64,.i .i64],.b]
def zk7:KT:=.sl 9 zpy
theorem zIx:KT.has Tryz.prog (.st [.i .i64,.i .i64]) 34:=
 ⟨_,Tryz.underlying34,by kernel_rfl,rfl,by kernel_rfl,Tryz.underlying3,rfl,by kernel_rfl,Tryz.underlying3,trivial⟩
theorem zB3:zpy.has Tryz.prog 36:=
 ⟨_,Tryz.underlying36,by kernel_rfl,rfl,by kernel_rfl,Tryz.underlying9,rfl,by kernel_rfl,Tryz.underlying3,rfl,by kernel_rfl,Tryz.underlying3,rfl,by kernel_rfl,Tryz.underlying9,rfl,by kernel_rfl,Tryz.underlying9,rfl,by kernel_rfl,Tryz.underlying9,
  rfl,by kernel_rfl,zIx,rfl,by kernel_rfl,Tryz.underlying4,trivial⟩
theorem ztV:zk7.has Tryz.prog 22:=⟨36,Tryz.underlying22,by kernel_rfl,rfl,by decide,zB3⟩
theorem zyi{cs:List CV}(h:zpy.fits cs):∃e:Entry,cs=e.row:=by
 simp only[zpy,KT.fits,KT.fits.fitsAll] at h
 obtain⟨_,_,rfl,⟨e0,rfl,_⟩,_,_,rfl,⟨e1,rfl,_⟩,_,_,rfl,⟨e2,rfl,_⟩,_,_,rfl,⟨e3,rfl,_⟩,_,_,rfl,⟨e4,rfl,_⟩,_,_,rfl,⟨e5,rfl,_⟩,
  _,_,rfl,⟨_,_,rfl,⟨e6,rfl,_⟩,_,_,rfl,⟨e7,rfl,_⟩,rfl⟩,_,_,rfl,⟨e8,rfl⟩,rfl⟩:=h
 exact⟨⟨e0,e1,e2,e3,e4,e5,e6,e7,e8⟩,rfl⟩
theorem rowsFit{xs:List (List CV)}(h:∀x∈xs,zpy.fits x):∃l:List Entry,xs=l.map Entry.row:=by
 induction xs with
 |nil=>exact⟨[],rfl⟩
 |cons x r ih =>
  obtain⟨l,rfl⟩:=ih (fun y hy=>h y (by simp[hy]))
  obtain⟨f,rfl⟩:=zyi (h x (by simp))
  exact⟨f::l,rfl⟩
theorem zGF{x:XV}(h:KT.zxR .s x):∃l,x=.one (.str l):=by
 cases x with
 |agg cs=>exact h.elim
 |one c =>
  obtain⟨l,hx,_⟩:=h
  injection hx with hx
  exact⟨l,by rw[hx]⟩
theorem zxk{x:XV}(h:KT.zxR (.i .i64) x):∃n,x=.one (.int .i64 n):=by
 cases x with
 |agg cs=>exact h.elim
 |one c =>
  obtain⟨l,hx,_⟩:=h
  injection hx with hx
  exact⟨l,by rw[hx]⟩
end Go.Proofs.YtlcmnclbljedfaaGreatDoor
namespace Go.Proofs.YtlcmnclbljedfaaGreatDoor
open Go Go.Ab
variable [Amb][zaY 0][zal Tryz.prog]
set_option maxRecDepth 100000
set_option maxHeartbeats 8000000
end Go.Proofs.YtlcmnclbljedfaaGreatDoor
namespace Go.Proofs.YtlcmnclbljedfaaGreatDoor
open Go Go.Ab
set_option maxRecDepth 100000
section
variable [Amb]
def zyw:KT:=.sl 1 (.i .u8)
theorem zAR:zyw.has Tryz.prog 41:=⟨5,Tryz.underlying41,by kernel_rfl,rfl,by decide,Tryz.underlying5⟩
theorem zsZ{α:Type}{row:α→List CV}{p:List CV→Prop}(hp:∀cs,p cs→∃e,cs=row e){xs:List (List CV)}(h:∀x∈xs,p x):∃l:List α,xs=l.map row:=by
 induction xs with
 |nil=>exact⟨[],rfl⟩
 |cons x r ih =>
  obtain⟨l,rfl⟩:=ih (fun y hy=>h y (by simp[hy]))
  obtain⟨f,rfl⟩:=hp x (h x (by simp))
  exact⟨f::l,rfl⟩
theorem zwc{cs:List CV}(h:zyw.fits cs):∃l:List UInt8,cs=[za7 l]:=by
 obtain⟨xs,rfl,hx⟩:=h
 obtain⟨l,rfl⟩:=zsZ (row:=byteRow) (p:=KT.fits (.i .u8)) (fun cs hc=>by
  obtain⟨n,rfl,hn⟩:=hc
  have hb:0≤n∧n<256:=by
   simp only[Lit.wf,decide_eq_true_eq,Bool.and_eq_true] at hn
   have h1:IntKind.u8.min=0:=by decide
   have h2:IntKind.u8.max=255:=by decide
   simp only[h1,h2] at hn
   omega
  refine⟨UInt8.ofNat n.toNat,?_⟩
  simp only[byteRow,List.cons.injEq,and_true,CV.int.injEq,true_and]
  have:(UInt8.ofNat n.toNat).toNat=n.toNat:=by
   simp only[UInt8.toNat_ofNat']
   omega
  rw[this]
  omega) hx
 exact⟨l,rfl⟩
end
def zw2(cs:Array Value):Prop:=∃m,cs[0]?=some (.int .i64 m)
@[reducible] def zNH (P : Program) : Amb := Amb.tabs P [("internal/strconv.uint64pow10", (· = zjW)), ("internal/bytealg.MaxLen", zw2)]
theorem zBR(P:Program):@zal (zNH P) P:=@zal.mk (zNH P) P (fun w h=>by
 obtain⟨cs,hc,rfl⟩:=h _ List.mem_cons_self
 exact hc)
theorem ztj{P:Program}{w:World}{n:String}{g:Nat}(hg:P.globalNamed n=some g){m:Int}:(∃cs,w.var? P n=some cs∧cs[0]?=some (.int .i64 m))↔w.cell? ⟨g,0,none⟩=some (.int .i64 m):=by
 unfold World.var? World.cell?
 rw[hg]
 simp only[Option.bind_some]
 constructor
 ·rintro⟨cs,h,h0⟩
  split at h
  ·rename_i hh
   cases h
   rw[hh]
   simpa using h0
  ·cases h
 ·intro h
  cases hh:w.heap[g]? with
  |none=>rw[hh] at h;cases h
  |some o =>
   rw[hh] at h
   cases o with
   |cells cs t f=>exact⟨cs,rfl,by simpa using h⟩
   |_=>simp at h
theorem zz0 {P : Program} (g : Nat) (hg : P.globalNamed "internal/bytealg.MaxLen" = some g) : @zaY (zNH P) g := @zaY.mk (zNH P) g (fun w h => by
 obtain ⟨cs, hc, m, hm⟩ := h ("internal/bytealg.MaxLen", zw2) (by simp)
 exact⟨m,(ztj hg).1 ⟨cs,hc,hm⟩⟩)
theorem zxh {W : World} {l : List (String × DataW Unit)} (j : Nat) (h : laidMetH Tryz.prog l W) (hp : (l.all fun x => x.2.handleName?.isNone) = true) (hj : l[j]? = some ("internal/strconv.uint64pow10", Lib.tabData .u64 Lib.pow10Tab)) (hW : W.ShapedOpen Tryz.prog) : (zNH Tryz.prog).holds W := by
 rw[MakeChecks.laidMetH_plain _ _ _ hp] at h
 have h1:=zsA (g:=1) (t:=331) (e:=156) (n:=20) (by kernel_rfl) (by kernel_rfl) Tryz.underlying331 Tryz.underlying156 (by kernel_rfl) (by kernel_rfl) j h hj
 obtain⟨m,hm⟩:=cell_of_shapedOpen_int (P:=Tryz.prog) (g:=0) (t:=3) (zero:=#[.int .i64 0]) (k:=.i64) hW (of_decide_eq_true (by kernel_rfl)) (by kernel_rfl) rfl (by kernel_rfl) (by kernel_rfl) Tryz.underlying3
 intro x hx
 simp only[List.mem_cons,List.not_mem_nil,or_false] at hx
 rcases hx with rfl | rfl
 ·exact⟨_,h1,rfl⟩
 · obtain ⟨cs, hc, h0⟩ := (ztj (P := Tryz.prog) (n := "internal/bytealg.MaxLen") (g := 0) (by kernel_rfl)).2 hm
   exact⟨cs,hc,m,h0⟩
theorem zjA{H:Type}{enc:TypeId×Value→H}{a:Assume}{C:Checked}{os:Os}{f:FuncId}{fn:Func}{s:ChangeSpec}{conds:List PathCond}{apart fresh handsOn again:Bool}{X:World→Array Value→Prop}
  (hX:∀(w w':World) (args:Array Value),w.heap=w'.heap→X w args→X w' args)
  (own:ownKnob C.prog.godebug=none)(started:os.Started)(noInit:C.prog.inits.idxOf? f=none)(hfn:C.prog.funcs[f]?=some fn)
  (witness:∃(w:World) (tape:Tape) (i:Input),w.os=os∧(w.forCall tape i).Shaped C.prog∧i.vars=[]∧Input.okWide C.prog (w.forCall tape i) .any w.heap.size f i ∧
   ((s.pre enc C.prog fn conds apart (w.forCall tape i).memory i.args∧X (w.forCall tape i).memory i.args)∧sizedMet enc C.prog fn (OpenSpec.ofChange s) apart (w.forCall tape i).memory i.args)∧a.holds C.prog (lone (Frame.enter C.prog f i.args .normal) [] (w.forCall tape i)))
  (contract:∀(W:World) (base:Nat) (args:Array Value) (ds gs:List (DataW H)) (before:List MemPlace),
   (∀(j:Nat) t v,fn.params[j]?=some t→args[j]?=some v→Value.okWide C.prog W .any base t v) →
   DataW.Whole enc C.prog fn.params.toList s.vars apart W args.toList ds gs before →
   conds.all (PathCond.test C.prog ⟨fn.params.toList,ds,s.plain.varTypes C.prog,gs⟩)=true →
   (DataW.weightsEach C.prog (fn.params.toList++s.plain.varTypes C.prog) (ds++gs)).all (·≤reachBytes)=true→X W args→W.ShapedOpen C.prog →
   Calls C.prog f args W fun e W'=>∃v,e=.returned v∧s.post enc C.prog fn apart fresh handsOn again W args v W') :
  ReturnsInHanded a C os f .any (fun w args=>(s.pre enc C.prog fn conds apart w args∧X w args)∧sizedMet enc C.prog fn (OpenSpec.ofChange s) apart w args) (s.post enc C.prog fn apart fresh handsOn again):=by
 refine returnsInHanded_of_calls own started noInit witness ?_
 intro w tape i _ hsh _ hok hpre _
 obtain⟨_,_,_,fn',hfn',_,_,_,_,hval⟩:=hok
 obtain rfl:fn'=fn:=Option.some.inj (hfn'.symm.trans hfn)
 obtain⟨⟨⟨ds,gs,before,hw,hc⟩,hx⟩,hz⟩:=hpre
 have hw':=DataW.Whole.of_heap (w':=w.forCall tape i) (by rfl) hw
 refine(contract (w.forCall tape i) w.heap.size i.args ds gs before hval hw' hc (hz.weights hw) (hX _ _ _ (by rfl) hx) hsh).mono fun e W' ⟨v,he,hp⟩=>?_
 subst he
 exact ChangeSpec.post_blind hp
end Go.Proofs.YtlcmnclbljedfaaGreatDoor
namespace Go.Proofs.YtlcmnclbljedfaaGreatDoor
open Go Go.Ab
variable [Amb]
set_option maxRecDepth 100000
theorem ziS{H:Type}{P:Program}{p:Nat→Bool}:∀{ts us:List TypeId} {ds gs:List (DataW H)},(DataW.weightsEach P (ts++us) (ds++gs)).all p=true→(DataW.weightsEach P ts ds).all p=true
 |[],_,_,_,_=>by rw[DataW.weightsEach];rfl;intros;simp_all
 |_::_,_,[],_,_=>by rw[DataW.weightsEach];rfl;intros;simp_all
 |t::ts,us,d::ds,gs,h=>by
  rw[List.cons_append,List.cons_append,DataW.weightsEach,List.all_append,Bool.and_eq_true] at h
  rw[DataW.weightsEach,List.all_append,Bool.and_eq_true]
  exact⟨h.1,ziS h.2⟩
end Go.Proofs.YtlcmnclbljedfaaGreatDoor
namespace Go.Proofs.YtlcmnclbljedfaaGreatDoor
open Go Go.Ab
set_option maxRecDepth 100000
section
variable [Amb]
def zTF:KT:=.st [.s,zyw]
def zBk:KT:=.st [.i .i64,.s]
def zzq:KT:=.st [zk7,.sl 2 zTF,.sl 2 zBk]
theorem zOm:zTF.has Tryz.prog 120:=⟨_,Tryz.underlying120,by kernel_rfl,rfl,by kernel_rfl,Tryz.underlying9,rfl,by kernel_rfl,zAR,trivial⟩
theorem zGh:zBk.has Tryz.prog 181:=⟨_,Tryz.underlying181,by kernel_rfl,rfl,by kernel_rfl,Tryz.underlying3,rfl,by kernel_rfl,Tryz.underlying9,trivial⟩
theorem zO4:zzq.has Tryz.prog 26:=
 ⟨_,Tryz.underlying26,by kernel_rfl,rfl,by kernel_rfl,ztV,rfl,by kernel_rfl,⟨120,Tryz.underlying23,by kernel_rfl,rfl,by decide,zOm⟩,rfl,by kernel_rfl,⟨181,Tryz.underlying24,by kernel_rfl,rfl,by decide,zGh⟩,trivial⟩
theorem zAj{cs:List CV}(h:zTF.fits cs):∃e:Fil,cs=e.row:=by
 simp only[zTF,KT.fits,KT.fits.fitsAll] at h
 obtain⟨_,_,rfl,⟨e0,rfl,_⟩,_,_,rfl,h1,rfl⟩:=h
 obtain⟨e1,rfl⟩:=zwc h1
 exact⟨⟨e0,e1⟩,rfl⟩
theorem zvR{cs:List CV}(h:zBk.zjE reachBytes cs):∃e:zhr,cs=e.row∧e.fit:=by
 simp only[zBk,KT.zjE,KT.zjE.fitsAllB] at h
 obtain⟨_,_,rfl,⟨e0,rfl,_⟩,_,_,rfl,⟨e1,rfl,_,l1⟩,rfl⟩:=h
 unfold reachBytes at l1
 exact⟨⟨e0,e1⟩,rfl,by unfold zhr.fit;simp only;omega⟩
theorem zBS{α:Type}{row:α→List CV}{p:List CV→Prop}{q:α→Prop}(hp:∀cs,p cs→∃e,cs=row e∧q e){xs:List (List CV)}(h:∀x∈xs,p x):∃l:List α,xs=l.map row∧∀e∈l,q e:=by
 induction xs with
 |nil=>exact⟨[],rfl,fun e he=>by cases he⟩
 |cons x r ih =>
  obtain⟨l,rfl,hl⟩:=ih (fun y hy=>h y (by simp[hy]))
  obtain⟨f,rfl,hf⟩:=hp x (h x (by simp))
  exact⟨f::l,rfl,fun e he=>by
   rcases List.mem_cons.1 he with rfl | he
   ·exact hf
   ·exact hl e he⟩
theorem zIY{x:XV}(h:zzq.zxR x)(g:zzq.zyx reachBytes x):∃s:Sto,x=.agg s.cs∧s.fit:=by
 cases x with
 |one c=>exact h.elim
 |agg cs =>
  have h':zzq.fits cs:=h
  have g':zzq.zjE reachBytes cs:=g
  simp only[zzq,zk7,KT.fits,KT.fits.fitsAll] at h'
  simp only[zzq,zk7,KT.zjE,KT.zjE.fitsAllB] at g'
  obtain⟨_,_,rfl,⟨xs,rfl,hx⟩,_,_,rfl,⟨ys,rfl,hy⟩,_,_,rfl,⟨zs,rfl,_⟩,rfl⟩:=h'
  obtain⟨a1,b1,e1,⟨xs',rfl,_⟩,a2,b2,rfl,⟨ys',rfl,_⟩,a3,b3,rfl,⟨zs',rfl,gz⟩,rfl⟩:=g'
  simp only[List.cons_append,List.nil_append,List.cons.injEq,CV.list.injEq,true_and,and_true] at e1
  obtain⟨_,_,rfl⟩:=e1
  obtain⟨E,rfl⟩:=rowsFit hx
  obtain⟨F,rfl⟩:=zsZ (row:=Fil.row) (fun cs hc=>zAj hc) hy
  obtain⟨R,rfl,hR⟩:=zBS (row:=zhr.row) (fun cs hc=>zvR hc) gz
  exact⟨⟨E,F,R⟩,rfl,hR⟩
variable [zaY 0][zal Tryz.prog]
theorem zvS(s:Sto)(k:List UInt8)(t d:Int)(hs:s.fit):zab Tryz.prog 3 [.agg s.cs,.one (.str k),.one (.int .i64 t),.one (.int .i64 d)] (.x (.one (.bool true))):=zAe s hs k t d
end
end Go.Proofs.YtlcmnclbljedfaaGreatDoor
