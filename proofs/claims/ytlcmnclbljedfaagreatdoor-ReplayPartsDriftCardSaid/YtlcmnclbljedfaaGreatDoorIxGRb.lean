/- A part of the proof: lemmas and contracts of functions. -/
import Derived.Test.YtlcmnclbljedfaaGreatDoorIxGRa
import Derived.Shelf.Lays
import Derived.Test.YtlcmnclbljedfaaGreatDoorProg
import Derived.KernelRfl
import Derived.Shelf.Strings.Cut
import Derived.WalkKit
import Derived.Deep.RegionLaw
import Derived.Lib.SliceRun
import Derived.Laws.IdiomCopy
set_option linter.all false
namespace Go.Proofs.YtlcmnclbljedfaaGreatDoor
open Go Go.Ab
variable [Amb][zal Tryz.prog]
set_option maxRecDepth 100000
set_option maxHeartbeats 4000000
def zII(c:UInt8):Bool:=(decide (32≤c.toNat)&&decide (c.toNat≤126)) || decide (c.toNat=9)
theorem zyG{c:UInt8}(h:(32≤c.toNat∧c.toNat≤126)∨c.toNat=9):zII c=true:=by
 unfold zII
 rcases h with h | h
 ·simp[h.1,h.2]
 ·simp[h]
theorem zo1{c:UInt8}(h:¬((32≤c.toNat∧c.toNat≤126)∨c.toNat=9)):zII c=false:=by
 unfold zII
 cases h1:decide (32≤c.toNat)<;>cases h2:decide (c.toNat≤126)<;>cases h3:decide (c.toNat=9) <;>
  simp only[decide_eq_true_eq,decide_eq_false_iff_not] at h1 h2 h3<;>first | rfl | (exfalso;omega)
def zsi:List UInt8:=[32,9]
def trimB(s:List UInt8):List UInt8:=Lib.trimS s zsi
def zsk(s:List UInt8):Bool:=decide (s.length≤1000)&&(decide (trimB s=s)&&s.all zII)
theorem zpR(s:List UInt8):zab Tryz.prog 154 [.one (.str s)] (.x (.one (.str (trimB s)))):=by
 have h:=zcP s zsi (by decide) (by decide)
 unfold trimB
 unfold zsi at *
 generalize Lib.trimS s [32,9]=T at h ⊢
 refine zab.of mixed (fn:=Tryz.f154) (by kernel_rfl) (by kernel_rfl) rfl (by kernel_rfl) (by simp[Tryz.f154]) (fun hok=>?_)
 simp -implicitDefEqProofs
 refine zac.of h ?_
 simp -implicitDefEqProofs
theorem zgM(s:List UInt8):zab Tryz.prog 200 [.one (.str s)] (.x (.one (.bool (zsk s)))):=by
 obtain⟨B,eB⟩:∃B,B=zsk s:=⟨_,rfl⟩
 rw[←eB]
 have hbad:∀i (h:i<s.length),zII s[i]=false→B=false:=fun i h hc=>by rw[eB];unfold zsk;rw[zoX h hc,Bool.and_false,Bool.and_false]
 have ht:=zpR s
 refine zab.of mixed (fn:=Tryz.f200) (by kernel_rfl) (by kernel_rfl) rfl (by kernel_rfl) (by simp[Tryz.f200]) (fun hok=>?_)
 by_cases h1:1000<s.length
 ·have hB:B=false:=by rw[eB];unfold zsk;rw[decide_eq_false (by omega),Bool.false_and]
  have h1':(1000<(s.length:Int))=True:=eq_true (by omega)
  simp -implicitDefEqProofs[h1',hB]
  refine zah.of (fun h=>by cases h) (r:=.x (.one (.str []))) rfl ?_
  simp -implicitDefEqProofs[h1',hB]
 have h1':(1000<(s.length:Int))=False:=eq_false (by omega)
 simp -implicitDefEqProofs[h1']
 refine zah.of (fun _=>ht) rfl ?_
 by_cases hT:trimB s=s
 rotate_left
 ·have hB:B=false:=by rw[eB];unfold zsk;rw[decide_eq_false hT,Bool.false_and,Bool.and_false]
  have b1:(trimB s==s)=false:=by simpa using hT
  have b2:(trimB s != s)=true:=by simpa using hT
  simp -implicitDefEqProofs[b1,b2,hB]
 have b1:(trimB s==s)=true:=by simpa using hT
 have b2:(trimB s != s)=false:=by simpa using hT
 simp -implicitDefEqProofs[b1,b2]
 refine zaK.of Nat (fun i=>[(0,.x (.one (.str s))),(14,.x (.one (.int .i64 s.length))),(15,.x (.one (.int .i64 i)))]) (zlp zII s) (fun i=>s.length-i) 0 zlp.zero ?_ ?_
 ·simp
 intro i hi
 have hle:=hi.1
 by_cases hlt:i<s.length
 ·have hlt':((i:Int)<(s.length:Int))=True:=eq_true (by omega)
  have hwr:IntKind.i64.wrap ((i:Int)+1)=(i:Int)+1:=zaq _ (by omega)
  have h255:=s[i].toNat_lt
  have hcl:(s[i].toNat≤8)∨(9≤s[i].toNat∧s[i].toNat≤9)∨(10≤s[i].toNat∧s[i].toNat≤31)∨(32≤s[i].toNat∧s[i].toNat≤126)∨(127≤s[i].toNat):=by omega
  rcases hcl with hcl | hcl | hcl | hcl | hcl
  ·-- 0..8
   have p0:((s[i].toNat:Int)<32)=True:=eq_true (by omega)
   have p1:(126<(s[i].toNat:Int))=False:=eq_false (by omega)
   have p2:((s[i].toNat:Int)=9)=False:=eq_false (by omega)
   have q:((s[i].toNat:Int) != 9)=true:=by rw[bne_iff_ne];omega
   have hB:=hbad i hlt (zo1 (by omega))
   simp -implicitDefEqProofs[hlt,hlt',q,hB,p0,p1,p2]
  ·-- 9..9
   have p0:((s[i].toNat:Int)<32)=True:=eq_true (by omega)
   have p1:(126<(s[i].toNat:Int))=False:=eq_false (by omega)
   have p2:((s[i].toNat:Int)=9)=True:=eq_true (by omega)
   have q:((s[i].toNat:Int) != 9)=false:=by rw[bne_eq_false_iff_eq];omega
   simp -implicitDefEqProofs[hlt,hlt',q,hwr,p0,p1,p2]
   exact zaz.of (i+1) (hi.step hlt (zyG (by omega))) (by omega) (by simp[hwr])
  ·-- 10..31
   have p0:((s[i].toNat:Int)<32)=True:=eq_true (by omega)
   have p1:(126<(s[i].toNat:Int))=False:=eq_false (by omega)
   have p2:((s[i].toNat:Int)=9)=False:=eq_false (by omega)
   have q:((s[i].toNat:Int) != 9)=true:=by rw[bne_iff_ne];omega
   have hB:=hbad i hlt (zo1 (by omega))
   simp -implicitDefEqProofs[hlt,hlt',q,hB,p0,p1,p2]
  ·-- 32..126
   have p0:((s[i].toNat:Int)<32)=False:=eq_false (by omega)
   have p1:(126<(s[i].toNat:Int))=False:=eq_false (by omega)
   have p2:((s[i].toNat:Int)=9)=False:=eq_false (by omega)
   have q:((s[i].toNat:Int) != 9)=true:=by rw[bne_iff_ne];omega
   simp -implicitDefEqProofs[hlt,hlt',q,hwr,p0,p1,p2]
   exact zaz.of (i+1) (hi.step hlt (zyG (by omega))) (by omega) (by simp[hwr])
  ·-- 127..255
   have p0:((s[i].toNat:Int)<32)=False:=eq_false (by omega)
   have p1:(126<(s[i].toNat:Int))=True:=eq_true (by omega)
   have p2:((s[i].toNat:Int)=9)=False:=eq_false (by omega)
   have q:((s[i].toNat:Int) != 9)=true:=by rw[bne_iff_ne];omega
   have hB:=hbad i hlt (zo1 (by omega))
   simp -implicitDefEqProofs[hlt,hlt',q,hB,p0,p1,p2]
 ·have hlt':((i:Int)<(s.length:Int))=False:=eq_false (by omega)
  have hB:B=true:=by rw[eB];unfold zsk;rw[hi.done hlt,decide_eq_true hT,decide_eq_true (by omega)];rfl
  simp -implicitDefEqProofs[hlt',hB]
structure Head where
 name:List UInt8
 value:List UInt8
def Head.row(h:Head):List CV:=[.str h.name,.str h.value]
abbrev ziE(l:List Head):XV:=.one (.list 2 (l.map Head.row))
def zuk(h:Head):Int:=if zs7 h.name=false then 5 else if zsk h.value=false then 3 else 0
def znM:List Head→Int
 |[]=>0
 |h::r=>if zuk h=0 then znM r else zuk h
def zd0(l:List Head):Int:=if 100<l.length then 2 else znM l
theorem zdf(l:List Head):zab Tryz.prog 132 [ziE l] (.x (.one (.int .i64 (zd0 l)))):=by
 obtain⟨F,eF⟩:∃F,F=zd0 l:=⟨_,rfl⟩
 rw[←eF]
 unfold zd0 at eF
 refine zab.of mixed (fn:=Tryz.f132) (by kernel_rfl) (by kernel_rfl) rfl (by kernel_rfl) (by simp[Tryz.f132]) (fun hok=>?_)
 by_cases h1:100<l.length
 ·have h1':(100<(l.length:Int))=True:=eq_true (by omega)
  rw[if_pos h1] at eF
  subst eF
  simp -implicitDefEqProofs[h1']
 have h1':(100<(l.length:Int))=False:=eq_false (by omega)
 rw[if_neg h1] at eF
 simp -implicitDefEqProofs[h1']
 refine zaK.of Nat (fun i=>[(8,.x (ziE l)),(9,.x (.one (.int .i64 l.length))),(10,.x (.one (.int .i64 i)))]) (fun i=>i≤l.length∧F=znM (l.drop i)) (fun i=>l.length-i) 0 ⟨Nat.zero_le _,eF⟩ ?_ ?_
 ·simp
 rintro i ⟨hi,hF⟩
 by_cases hlt:i<l.length
 ·have hlt':((i:Int)<(l.length:Int))=True:=eq_true (by omega)
  have hwr:IntKind.i64.wrap ((i:Int)+1)=(i:Int)+1:=zaq _ (by omega)
  rw[List.drop_eq_getElem_cons hlt,znM] at hF
  have hrow:l[i].row=[.str l[i].name,.str l[i].value]:=rfl
  have k1:=zgV l[i].name
  have k2:=zgM l[i].value
  have hf:zuk l[i]=if zs7 l[i].name=false then 5 else if zsk l[i].value=false then 3 else 0:=rfl
  generalize zs7 l[i].name=p at k1 hf
  generalize zsk l[i].value=q at k2 hf
  simp -implicitDefEqProofs[hlt,hlt',hrow]
  refine zac.of k1 ?_
  cases p
  ·rw[if_pos rfl] at hf
   rw[hf,if_neg (by decide)] at hF
   subst hF
   simp -implicitDefEqProofs
  ·rw[if_neg (by decide)] at hf
   simp -implicitDefEqProofs[hlt,hlt',hrow]
   refine zac.of k2 ?_
   cases q
   ·rw[if_pos rfl] at hf
    rw[hf,if_neg (by decide)] at hF
    subst hF
    simp -implicitDefEqProofs
   ·rw[if_neg (by decide)] at hf
    rw[hf,if_pos rfl] at hF
    simp -implicitDefEqProofs[hwr]
    exact zaz.of (i+1) ⟨by omega,hF⟩ (by omega) (by simp[hwr])
 ·have hlt':((i:Int)<(l.length:Int))=False:=eq_false (by omega)
  have hF:F=0:=by rw[hF,List.drop_of_length_le (by omega)];rfl
  subst hF
  simp -implicitDefEqProofs[hlt']
end Go.Proofs.YtlcmnclbljedfaaGreatDoor
namespace Go.Proofs.YtlcmnclbljedfaaGreatDoor
open Go Go.Ab
variable [Amb]
set_option maxRecDepth 100000
set_option maxHeartbeats 4000000
abbrev za7(b:List UInt8):CV:=.list 1 (zad b)
def crl:List UInt8→Option (List UInt8)
 |[]=>none
 |c::r=>if c=13∧r.head?=some 10 then some [] else if c=13∨c=10 then none else (crl r).map (c::·)
def zfz(b:List UInt8)(a:Nat):List UInt8:=(crl (b.drop a)).getD []
def zhG(b:List UInt8)(a:Nat):Nat:=match crl (b.drop a) with
 |some l=>a+l.length+2
 |none=>a
def znv(b:List UInt8)(a:Nat):Bool:=(crl (b.drop a)).isSome
theorem zoi:∀{b l:List UInt8},crl b=some l→l=b.take l.length∧l.length+2≤b.length
 |[],l,h=>by simp[crl] at h
 |c::r,l,h=>by
  unfold crl at h
  split at h
  ·rename_i hc
   injection h with h
   subst h
   cases r with
   |nil=>simp at hc
   |cons d r=>exact⟨rfl,by simp⟩
  ·split at h
   ·cases h
   ·cases hl:crl r with
    |none=>rw[hl] at h;cases h
    |some l' =>
     rw[hl] at h
     simp only[Option.map_some,Option.some.injEq] at h
     subst h
     obtain⟨h1,h2⟩:=zoi hl
     exact⟨by simp[←h1],by simp;omega⟩
def zf2(b:List UInt8)(a i:Nat):Prop:=a≤i∧i≤b.length∧∀k,crl (b.drop i)=k→crl (b.drop a)=k.map ((b.drop a).take (i-a)++·)
theorem zf2.zero{b:List UInt8}{a:Nat}(h:a≤b.length):zf2 b a a:=⟨Nat.le_refl _,h,fun k hk=>by rw[hk];cases k<;>simp⟩
theorem zju{b:List UInt8}{i:Nat}(h:i<b.length):b.drop i=b[i]::b.drop (i+1):=List.drop_eq_getElem_cons h
theorem take_succ'{b:List UInt8}{a i:Nat}(h1:a≤i)(h2:i<b.length):(b.drop a).take (i+1-a)=(b.drop a).take (i-a)++[b[i]]:=by
 rw[show i+1-a=(i-a)+1 by omega,List.take_add_one,List.getElem?_drop,show a+(i-a)=i by omega,List.getElem?_eq_getElem h2]
 rfl
theorem zf2.step{b:List UInt8}{a i:Nat}(h:zf2 b a i)(hlt:i<b.length)(h1:b[i]≠13)(h2:b[i]≠10):zf2 b a (i+1):=by
 obtain⟨k1,k2,k3⟩:=h
 refine⟨by omega,by omega,fun k hk=>?_⟩
 rw[k3 (k.map (b[i]::·)) ?_]
 ·rw[take_succ' k1 hlt]
  cases k<;>simp
 ·rw[zju hlt]
  unfold crl
  rw[if_neg (by rintro⟨h,_⟩;exact h1 h),if_neg (by rintro (h | h);exact h1 h;exact h2 h),hk]
theorem zf2.none{b:List UInt8}{a i:Nat}(h:zf2 b a i)(he:crl (b.drop i)=none):crl (b.drop a)=none:=by rw[h.2.2 Option.none he];rfl
theorem zf2.some{b:List UInt8}{a i:Nat}(h:zf2 b a i)(he:crl (b.drop i)=some []):crl (b.drop a)=some ((b.drop a).take (i-a)):=by rw[h.2.2 _ he];simp
theorem zRI(k:Nat)(hk:k<256)(c:UInt8):((c.toNat:Int)=(k:Int))=(c=UInt8.ofNat k):=by
 apply propext
 constructor
 ·intro h
  have:c.toNat=k:=by exact_mod_cast h
  rw[←this];simp
 ·rintro rfl
  simp[Nat.mod_eq_of_lt hk]
theorem zEh(c:UInt8):((c.toNat:Int)=13)=(c=13):=zRI 13 (by decide) c
theorem zCr(c:UInt8):((c.toNat:Int)=10)=(c=10):=zRI 10 (by decide) c
theorem zi5{b:List UInt8}{a i:Nat}(h:a≤i):cutAt (zad b) (a:Int) (i:Int)=zad ((b.drop a).take (i-a)):=by
 unfold cutAt zad
 rw[show ((i:Int)).toNat=i by omega,show ((a:Int)).toNat=a by omega,List.drop_take,List.map_take,List.map_drop]
theorem zdL(b:List UInt8)(a:Nat)(hb:b.length≤16777216)(ha:a≤b.length):zab Tryz.prog 197 [.one (za7 b),.one (.int .i64 a)] (.tup [.one (.str (zfz b a)),.one (.int .i64 (zhG b a)),.one (.bool (znv b a))]):=by
 obtain⟨S,eS⟩:∃S,S=zfz b a:=⟨_,rfl⟩
 obtain⟨M,eM⟩:∃M,M=zhG b a:=⟨_,rfl⟩
 obtain⟨B,eB⟩:∃B,B=znv b a:=⟨_,rfl⟩
 rw[←eS,←eM,←eB]
 have hno:crl (b.drop a)=none→S=[]∧M=a∧B=false:=fun h=>by subst eS eM eB;simp[zfz,zhG,znv,h]
 have hyes:∀l,crl (b.drop a)=some l→S=l∧M=a+l.length+2∧B=true:=fun l h=>by subst eS eM eB;simp[zfz,zhG,znv,h]
 refine zab.of mixed (fn:=Tryz.f197) (by kernel_rfl) (by kernel_rfl) rfl (by kernel_rfl) (by simp[Tryz.f197]) (fun hok=>?_)
 simp -implicitDefEqProofs +contextual[-Bool.and_eq_false_imp,Bool.and_eq_false_iff]
 refine zaK.of Nat (fun i=>[(0,.x (.one (za7 b))),(1,.x (.one (.int .i64 a))),(4,.x (.one (.str []))),(5,.x (.one (.int .i64 0))),(6,.x (.one (.bool false))),(7,.x (.one (.int .i64 i)))]) (fun i=>zf2 b a i) (fun i=>b.length-i) a (zf2.zero ha) ?_ ?_
 ·simp
 rintro i hi
 obtain⟨h1,h2,h3⟩:=id hi
 have hcut:cutAt (zad b) (a:Int) (i:Int)=zad ((b.drop a).take (i-a)):=zi5 h1
 by_cases hlt:i<b.length
 ·have hlt':((i:Int)<(b.length:Int))=True:=eq_true (by omega)
  have hwr:IntKind.i64.wrap ((i:Int)+1)=(i:Int)+1:=zaq _ (by omega)
  have hwr2:IntKind.i64.wrap ((i:Int)+2)=(i:Int)+2:=zaq _ (by omega)
  have hdr:=zju hlt
  have hat:∀h,(zad b)[i]'h=[.int .u8 b[i].toNat]:=fun h=>by simp[zad,byteRow]
  have hnone:b[i]=13∨b[i]=10→¬(b[i]=13∧(b.drop (i+1)).head?=some 10)→S=[]∧(M:Int)=(a:Int)∧B=false:=by
   intro hc hd
   obtain⟨k1,k2,k3⟩:=hno (hi.none (by rw[hdr];unfold crl;rw[if_neg hd,if_pos hc]))
   exact⟨k1,by rw[k2],k3⟩
  have hgo:¬b[i]=13→¬b[i]=10→zf2 b a (i+1):=fun c1 c2=>hi.step hlt c1 c2
  by_cases hn:i+1<b.length
  ·have hn':((i:Int)+1<(b.length:Int))=True:=eq_true (by omega)
   have hat2:∀h,(zad b)[i+1]'h=[.int .u8 b[i+1].toNat]:=fun h=>by simp[zad,byteRow]
   have hhd:(b.drop (i+1)).head?=some b[i+1]:=by rw[zju hn];rfl
   simp -implicitDefEqProofs[hlt,hlt',hwr,hwr2,hn,hn',hat,hat2,hcut,zEh,zCr]
   refine⟨fun c=>by first | omega | exact⟨c,by omega⟩,fun c1 c2=>?_,fun c=>⟨fun d=>hnone d (by rw[hhd];rintro⟨d1,d2⟩;exact c d1 (by simpa using d2)),fun c1 c2=>zaz.of (i+1) (hgo c1 c2) (by omega) ?_⟩⟩
   ·obtain⟨k1,k2,k3⟩:=hyes _ (hi.some (by rw[hdr];unfold crl;rw[if_pos ⟨c1,by rw[hhd,c2]⟩]))
    refine⟨⟨h1,h2⟩,k1,?_,k3⟩
    rw[k2,List.length_take,List.length_drop,Nat.min_eq_left (by omega)]
    omega
   ·simp
  ·have hn':((i:Int)+1<(b.length:Int))=False:=eq_false (by omega)
   have hhd:(b.drop (i+1)).head?=none:=by rw[List.drop_eq_nil_of_le (by omega)];rfl
   have hz:b[i+1]?=none:=List.getElem?_eq_none (by omega)
   simp -implicitDefEqProofs[hlt,hlt',hwr,hwr2,hn',hat,hz,zEh,zCr]
   exact⟨fun d=>hnone d (by rw[hhd];rintro⟨_,d2⟩;cases d2),fun c1 c2=>zaz.of (i+1) (hgo c1 c2) (by omega) (by simp)⟩
 ·have hlt':((i:Int)<(b.length:Int))=False:=eq_false (by omega)
  obtain⟨k1,k2,k3⟩:=hno (hi.none (by rw[List.drop_eq_nil_of_le (by omega)];rfl))
  simp -implicitDefEqProofs[hlt',k1,k2,k3]
structure RS where
 b:List UInt8
 at_:Nat
 kind:Int
 id:List UInt8
 of:List UInt8
 time:Int
 key:List UInt8
 heads:List Head
 length:Int
 digest:List UInt8
def hdC(l:List Head):CV:=if l=[] then .nil else .list 2 (l.map Head.row)
@[simp]theorem zRw(l:List Head):(hdC l).isAny=false:=by unfold hdC;split<;>rfl
def RS.cells(x:RS):List CV:=[za7 x.b,.int .i64 x.at_,.int .i64 x.kind,.str x.id,.str x.of,.int .i64 x.time,.str x.key,hdC x.heads,.nil,.int .i64 x.length,.str x.digest]
def RS.ok(x:RS):Prop:=x.b.length≤16777216∧x.at_≤x.b.length
def colonS:List UInt8:=[58,32]
theorem zdl{b:List UInt8}{a:Nat}(h:a≤b.length):zhG b a≤b.length:=by
 unfold zhG
 split
 ·rename_i l e
  have:=(zoi e).2
  simp at this;omega
 ·exact h
theorem zpu(b:List UInt8)(a:Nat):(zfz b a).length≤b.length:=by
 unfold zfz
 cases e:crl (b.drop a) with
 |none=>simp
 |some l=>have:=(zoi e).2;simp at this ⊢;omega
def zra(x:RS)(w:List UInt8):Bool:=znv x.b x.at_&&decide (zfz x.b x.at_=w)
def zfm(x:RS)(w:List UInt8):RS:=if zra x w=true then { x with at_:=zhG x.b x.at_ } else x
theorem zqU(x:RS)(w:List UInt8)(hx:x.ok):zat Tryz.prog 172 [.box x.cells,.x (.one (.str w))] (.x (.one (.bool (zra x w)))) [.box (zfm x w).cells,.dead]:=by
 have k:=zdL x.b x.at_ hx.1 hx.2
 obtain⟨X,eX⟩:∃X,X=zfm x w:=⟨_,rfl⟩
 obtain⟨B,eB⟩:∃B,B=zra x w:=⟨_,rfl⟩
 rw[←eX,←eB]
 unfold zfm at eX
 rw[←eB] at eX
 unfold zra at eB
 generalize zfz x.b x.at_=S at k eB
 generalize zhG x.b x.at_=N at k eX
 generalize znv x.b x.at_=L at k eB
 unfold RS.cells at *
 refine zat.of mixed (fn:=Tryz.f172) (by kernel_rfl) (by kernel_rfl) rfl (by kernel_rfl) (by kernel_rfl) rfl (by simp[Tryz.f172]) (fun hok=>?_)
 simp -implicitDefEqProofs
 refine zac.of k ?_
 cases L
 ·simp only[Bool.false_and] at eB
  subst eB
  rw[if_neg (by decide)] at eX
  subst eX
  simp -implicitDefEqProofs
 ·by_cases hS:S=w
  ·have hS':(S==w)=true:=by simpa using hS
   simp only[Bool.true_and,decide_eq_true hS] at eB
   subst eB
   rw[if_pos rfl] at eX
   subst eX
   simp -implicitDefEqProofs[hS]
  ·simp only[Bool.true_and,decide_eq_false hS] at eB
   subst eB
   rw[if_neg (by decide)] at eX
   subst eX
   simp -implicitDefEqProofs[hS]
def isB(x:RS)(w:List UInt8):Bool:=zdp (x.b.drop x.at_) (w++colonS)
theorem zE4(x:RS)(w:List UInt8)(hx:x.ok)(M:Nat)(eM:M=min x.b.length (x.at_+w.length+2)):zdp ((x.b.drop x.at_).take (M-x.at_)) (w++colonS)=isB x w:=by
 have h2:=hx.2
 unfold isB zdp
 rw[Bool.eq_iff_iff,List.isPrefixOf_iff_prefix,List.isPrefixOf_iff_prefix]
 constructor
 ·exact fun h=>h.trans (List.take_prefix _ _)
 ·intro h
  rw[List.prefix_take_iff]
  refine⟨h,?_⟩
  have:=h.length_le
  simp[colonS] at this ⊢
  omega
theorem zqz(x:RS)(w:List UInt8)(hx:x.ok)(hw:w.length≤100):zat Tryz.prog 174 [.box x.cells,.x (.one (.str w))] (.x (.one (.bool (isB x w)))) [.box x.cells,.dead]:=by
 obtain⟨M,eM⟩:∃M,M=min x.b.length (x.at_+w.length+2):=⟨_,rfl⟩
 have k:=strings_HasPrefix ((x.b.drop x.at_).take (M-x.at_)) (w++colonS)
 have e:zdp ((x.b.drop x.at_).take (M-x.at_)) (w++colonS)=isB x w:=by
  have h2:=hx.2
  unfold isB zdp
  rw[Bool.eq_iff_iff,List.isPrefixOf_iff_prefix,List.isPrefixOf_iff_prefix]
  constructor
  ·exact fun h=>h.trans (List.take_prefix _ _)
  ·intro h
   rw[List.prefix_take_iff]
   refine⟨h,?_⟩
   have:=h.length_le
   simp[colonS] at this ⊢
   omega
 rw[e] at k
 generalize isB x w=B at k
 have h2:=hx.2
 have h1:=hx.1
 have hw1:IntKind.i64.wrap ((x.at_:Int)+(w.length:Int))=(x.at_:Int)+(w.length:Int):=zaq _ (by omega)
 have hw2:IntKind.i64.wrap ((x.at_:Int)+(w.length:Int)+2)=(x.at_:Int)+(w.length:Int)+2:=zaq _ (by omega)
 have hmin:min (x.b.length:Int) ((x.at_:Int)+(w.length:Int)+2)=(M:Int):=by omega
 have hcut:cutAt (zad x.b) (x.at_:Int) (M:Int)=zad ((x.b.drop x.at_).take (M-x.at_)):=zi5 (by omega)
 unfold RS.cells at *
 refine zat.of mixed (fn:=Tryz.f174) (by kernel_rfl) (by kernel_rfl) rfl (by kernel_rfl) (by kernel_rfl) rfl (by simp[Tryz.f174]) (fun hok=>?_)
 simp -implicitDefEqProofs[hw1,hw2,hmin,hcut]
 refine⟨by omega,by unfold maxLen;omega,zac.of k ?_⟩
 simp -implicitDefEqProofs
theorem zge(s p:List UInt8):zab Tryz.prog 239 [.one (.str s),.one (.str p)] (.tup [.one (.str (if zdp s p=true then s.drop p.length else s)),.one (.bool (zdp s p))]):=by
 refine zab.of mixed (fn:=Tryz.f239) (by kernel_rfl) (by kernel_rfl) rfl (by kernel_rfl) (by simp[Tryz.f239]) (fun hok=>?_)
 simp -implicitDefEqProofs
 refine zac.of (stringslite_HasPrefix s p) ?_
 cases h:zdp s p
 ·simp -implicitDefEqProofs
 ·have hl:p.length≤s.length:=(List.isPrefixOf_iff_prefix.1 h).length_le
  have g1:((p.length:Int)≤(s.length:Int))=True:=eq_true (by omega)
  simp -implicitDefEqProofs[g1,hl]
theorem zeP(s p:List UInt8):zab Tryz.prog 156 [.one (.str s),.one (.str p)] (.tup [.one (.str (if zdp s p=true then s.drop p.length else s)),.one (.bool (zdp s p))]):=by
 refine zab.of mixed (fn:=Tryz.f156) (by kernel_rfl) (by kernel_rfl) rfl (by kernel_rfl) (by simp[Tryz.f156]) (fun hok=>?_)
 simp -implicitDefEqProofs
 refine zac.of (zge s p) ?_
 simp -implicitDefEqProofs
theorem znA(s:List UInt8)(cs:List CV)(off:Nat)(h:off<cs.length)(ht:ztt ((cs.drop off).take 1)=false)(b:Nat):zat Tryz.prog 171 [.x (.one (.str s)),.ptr2 2 off,.gbox b cs] (.x (.one (.bool true))) [.dead,.dead,.gbox b (zae cs off [.str s])]:=by
 refine zat.of mixed (fn:=Tryz.f171) (by kernel_rfl) (by kernel_rfl) rfl (by kernel_rfl) (by kernel_rfl) (by simp[zaU,zau]) (by simp[Tryz.f171]) (fun hok=>?_)
 simp -implicitDefEqProofs[ht]
 exact h
theorem zA6(s:List UInt8)(x:RS)(b:Nat):zat Tryz.prog 175 [.x (.one (.str s)),.ptr2 2 0,.gbox b x.cells] (.x (.one (.bool (decide (s≠[]))))) [.dead,.dead,.gbox b { x with of:=s }.cells]:=by
 unfold RS.cells
 refine zat.of mixed (fn:=Tryz.f175) (by kernel_rfl) (by kernel_rfl) rfl (by kernel_rfl) (by kernel_rfl) (by simp[zaU,zau]) (by simp[Tryz.f175]) (fun hok=>?_)
 cases s with
 |nil=>simp -implicitDefEqProofs
 |cons c r=>simp -implicitDefEqProofs
def zfr:List (List UInt8):=[[105,110,102,111],[114,101,113,117,101,115,116],[97,110,115,119,101,114],[114,101,118,105,115,105,116],[112,105,101,99,101]]
theorem zgi:zab Tryz.prog 78 [] (.x (strs zfr)):=by
 refine zab.of mixed (fn:=Tryz.f78) (by kernel_rfl) (by kernel_rfl) rfl (by kernel_rfl) (by simp[Tryz.f78]) (fun hok=>?_)
 simp -implicitDefEqProofs[zfr]
def zBT(x:RS)(w:List UInt8)(F:List UInt8→Bool):Bool:=znv x.b x.at_&&(zdp (zfz x.b x.at_) (w++colonS)&&F ((zfz x.b x.at_).drop (w.length+2)))
def zje(x:RS)(w:List UInt8)(F:List UInt8→Bool)(G:List UInt8→RS):RS:=
 if znv x.b x.at_=true∧zdp (zfz x.b x.at_) (w++colonS)=true then
  (if F ((zfz x.b x.at_).drop (w.length+2))=true then { G ((zfz x.b x.at_).drop (w.length+2)) with at_:=zhG x.b x.at_ } else G ((zfz x.b x.at_).drop (w.length+2)))
 else x
theorem zcF(x:RS)(w:List UInt8)(g off:Nat)(F:List UInt8→Bool)(G:List UInt8→RS)(hx:x.ok)(hw:w.length≤100)
  (hg:∀s,s.length≤x.b.length→∀b,zat Tryz.prog g [.x (.one (.str s)),.ptr2 2 off,.gbox b x.cells] (.x (.one (.bool (F s)))) [.dead,.dead,.gbox b (G s).cells]) :
  zat Tryz.prog 173 [.box x.cells,.x (.one (.str w)),.cloR g [.inr (0,off+1000000)]] (.x (.one (.bool (zBT x w F)))) [.box (zje x w F G).cells,.dead,.dead]:=by
 have k:=zdL x.b x.at_ hx.1 hx.2
 have k2:=zeP (zfz x.b x.at_) (w++colonS)
 have hg':=hg ((zfz x.b x.at_).drop (w.length+2)) (by have:=zpu x.b x.at_;simp;omega)
 have hlen:(w++colonS).length=w.length+2:=by simp[colonS]
 rw[hlen] at k2
 obtain⟨X,eX⟩:∃X,X=zje x w F G:=⟨_,rfl⟩
 obtain⟨B,eB⟩:∃B,B=zBT x w F:=⟨_,rfl⟩
 rw[←eX,←eB]
 unfold zje at eX
 unfold zBT at eB
 generalize zfz x.b x.at_=S at k k2 hg' eB eX
 generalize zhG x.b x.at_=N at k eX
 generalize znv x.b x.at_=L at k eB eX
 generalize zdp S (w++colonS)=H at k2 eB eX
 unfold colonS at k2
 refine zat.of mixed (fn:=Tryz.f173) (by kernel_rfl) (by kernel_rfl) rfl (by kernel_rfl) (by kernel_rfl) rfl (by simp[Tryz.f173]) (fun hok=>?_)
 unfold RS.cells at hg' ⊢
 simp -implicitDefEqProofs
 refine zac.of k ?_
 simp -implicitDefEqProofs
 refine⟨by unfold maxLen;omega,zac.of k2 ?_⟩
 cases L
 ·rw[if_neg (by simp)] at eX
  simp only[Bool.false_and] at eB
  subst eX;subst eB
  simp -implicitDefEqProofs
 ·cases H
  ·rw[if_neg (by simp)] at eX
   simp only[Bool.false_and,Bool.and_false] at eB
   subst eX;subst eB
   simp -implicitDefEqProofs
  ·rw[if_pos (by simp)] at eX
   simp only[Bool.true_and] at eB
   simp -implicitDefEqProofs
   refine zo5.of (outs:=[.dead,.dead]) hg' ?_
   generalize G (S.drop (w.length+2))=Y at eX ⊢
   cases hF:F (S.drop (w.length+2))<;>rw[hF] at eX eB<;>subst eB
   ·rw[if_neg (by decide)] at eX
    subst eX
    simp -implicitDefEqProofs
   ·rw[if_pos rfl] at eX
    subst eX
    simp -implicitDefEqProofs
def zpV(k:Nat)(s:List UInt8):Bool:=s.all zdV&&(decide (1≤s.length)&&(decide (s.length≤k)&&!zN9 s))
theorem zyB(k:Nat)(b:UInt8)(r:List UInt8):zpV k (b::r)=((b::r).all zdV&&(decide (r.length+1≤k)&&(decide (b≠48) || decide (r=[])))):=by
 unfold zpV zN9
 rw[List.length_cons,List.head?_cons]
 have h1:decide (1≤r.length+1)=true:=by simp
 rw[h1,Bool.true_and]
 congr 2
 cases r with
 |nil=>simp
 |cons x y=>simp
theorem zcX(k:Nat)(hk:k≤100000)(s:List UInt8):zab Tryz.prog 180 [.one (.str s),.one (.int .i64 k)] (.x (.one (.bool (zpV k s)))):=by
 refine zab.of mixed (fn:=Tryz.f180) (by kernel_rfl) (by kernel_rfl) rfl (by kernel_rfl) (by simp[Tryz.f180]) (fun hok=>?_)
 cases s with
 |nil =>
  simp -implicitDefEqProofs
  refine zah.of (fun h=>by cases h) (r:=.x (.one (.str []))) rfl ?_
  simp -implicitDefEqProofs
  rfl
 |cons b r =>
  rw[zyB]
  by_cases hl:r.length+1≤k
  ·have hl':((r.length:Int)+1≤(k:Int))=True:=eq_true (by omega)
   simp -implicitDefEqProofs[hl,hl']
   refine zah.of (fun _=>zcP (b::r) zpr (by decide) (by decide)) rfl ?_
   by_cases hd:(b::r).all zdV=true
   ·have ht:=(zlk (b::r)).2 hd
    rw[hd]
    by_cases hb:b=48
    ·subst hb
     simp -implicitDefEqProofs[hl,hl',ht]
     cases r<;>simp
    ·have hb':((b.toNat:Int)=48)=False:=eq_false fun h=>hb (by rw[←UInt8.toNat_inj];simp;omega)
     have hp:(1≤(r.length:Int)+1)=True:=eq_true (by omega)
     simp -implicitDefEqProofs[hl,hl',ht,hb,hb',hp]
   ·have ht:¬Lib.trimS (b::r) zpr=[]:=fun h=>hd ((zlk (b::r)).1 h)
    rw[Bool.eq_false_iff.2 hd]
    simp -implicitDefEqProofs[hl,hl',ht]
  ·have hl':((r.length:Int)+1≤(k:Int))=False:=eq_false (by omega)
   simp -implicitDefEqProofs[hl,hl']
   refine zah.of (fun h=>by cases h) (r:=.x (.one (.str []))) rfl ?_
   simp -implicitDefEqProofs[hl,hl']
theorem zfu{k:Nat}{s:List UInt8}(h:zpV k s=true):Lib.atoi s=some (ze7 s:Int)∧s.length≤k∧s.all zdV=true:=by
 simp only[zpV,Bool.and_eq_true,decide_eq_true_eq] at h
 exact⟨by rw[zwZ h.1 (by rintro rfl;simp at h)],h.2.2.1,h.1⟩
def zps(s:List UInt8):Nat:=match zfr.findIdx? (·==s) with
 |some i=>i+1
 |none=>0
theorem zuS(s:List UInt8)(x:RS)(b:Nat):zat Tryz.prog 176 [.x (.one (.str s)),.ptr2 2 0,.gbox b x.cells] (.x (.one (.bool (decide (0<zps s))))) [.dead,.dead,.gbox b { x with kind:=zps s }.cells]:=by
 have k:zab Tryz.prog 147 [strs zfr,.one (.str s)] (.x (.one (.int .i64 ((zps s:Int)-1)))):=by
  have k:=zfV zfr s
  unfold zps
  cases h:zfr.findIdx? (·==s) with
  |none=>rw[h] at k;exact k
  |some i=>rw[h] at k;simpa using k
 have hb:zps s≤5:=by
  unfold zps
  cases h:zfr.findIdx? (·==s) with
  |none=>simp
  |some i =>
   have:=(List.findIdx?_eq_some_iff_getElem.1 h).1
   simp[zfr] at this ⊢
   omega
 generalize zps s=K at *
 have hw:IntKind.i64.wrap ((K:Int)-1+1)=(K:Int):=by rw[zaq _ (by omega)];omega
 unfold RS.cells
 refine zat.of mixed (fn:=Tryz.f176) (by kernel_rfl) (by kernel_rfl) rfl (by kernel_rfl) (by kernel_rfl) (by simp[zaU,zau]) (by simp[Tryz.f176]) (fun hok=>?_)
 simp -implicitDefEqProofs
 refine ztD.l ⟨by kernel_rfl,?_⟩
 simp -implicitDefEqProofs
 refine zac.of zgi ?_
 simp -implicitDefEqProofs
 refine zac.of k ?_
 simp -implicitDefEqProofs
 have hw':IntKind.i64.wrap (K:Int)=(K:Int):=zaq _ (by omega)
 rw[hw']
 exact⟨by omega,rfl⟩
theorem zui(dt:List UInt8→Int)(dok:List UInt8→Bool)(hD:∀s,zab Tryz.prog 106 [.one (.str s)] (.tup [.one (.int .i64 (dt s)),.one (.int .i64 (if dok s=true then 0 else 10))]))(s:List UInt8)(x:RS)(b:Nat) :
  zat Tryz.prog 177 [.x (.one (.str s)),.ptr2 2 0,.gbox b x.cells] (.x (.one (.bool (dok s)))) [.dead,.dead,.gbox b { x with time:=dt s }.cells]:=by
 have k:=hD s
 generalize dt s=T at *
 generalize dok s=O at *
 unfold RS.cells
 refine zat.of mixed (fn:=Tryz.f177) (by kernel_rfl) (by kernel_rfl) rfl (by kernel_rfl) (by kernel_rfl) (by simp[zaU,zau]) (by simp[Tryz.f177]) (fun hok=>?_)
 simp -implicitDefEqProofs
 refine zac.of k ?_
 cases O
 ·simp -implicitDefEqProofs
 ·simp -implicitDefEqProofs
theorem zqQ(s:List UInt8)(x:RS)(b:Nat):zat Tryz.prog 179 [.x (.one (.str s)),.ptr2 2 0,.gbox b x.cells] (.x (.one (.bool (zpV 9 s)))) [.dead,.dead,.gbox b (if zpV 9 s=true then { x with length:=ze7 s } else x).cells]:=by
 have k:=zcX 9 (by omega) s
 unfold RS.cells
 refine zat.of mixed (fn:=Tryz.f179) (by kernel_rfl) (by kernel_rfl) rfl (by kernel_rfl) (by kernel_rfl) (by simp[zaU,zau]) (by simp[Tryz.f179]) (fun hok=>?_)
 simp -implicitDefEqProofs
 refine zac.of k ?_
 cases h:zpV 9 s
 ·simp -implicitDefEqProofs
 ·obtain⟨h1,h2,_⟩:=zfu h
  have k2:=zc1 s _ (by omega) h1
  simp -implicitDefEqProofs
  refine ztD.l ⟨by kernel_rfl,?_⟩
  simp -implicitDefEqProofs
  refine zac.of k2 ?_
  simp -implicitDefEqProofs
theorem zlu(s:List UInt8):zab Tryz.prog 183 [.one (.str s)] (.x (.one (.bool (zhX s)))):=by
 have e:=ziX s zog
 simp only[ztm] at e
 have k:=zcP s zog (by decide) (by decide)
 refine zab.of mixed (fn:=Tryz.f183) (by kernel_rfl) (by kernel_rfl) rfl (by kernel_rfl) (by simp[Tryz.f183]) (fun hok=>?_)
 unfold zhX
 by_cases h:s.length=16
 ·have h':((s.length:Int)==16)=true:=by rw[h];rfl
  have h2:(s.length==16)=true:=by simpa using h
  simp -implicitDefEqProofs[h]
  refine zah.of (fun _=>k) rfl ?_
  by_cases hT:Lib.trimS s zog=[]
  ·rw[hT,e.1 hT]
   simp -implicitDefEqProofs[h]
  ·have hf:s.all zJz=false:=by
    cases hb:s.all zJz with
    |true=>exact absurd (e.2 hb) hT
    |false=>rfl
   rw[hf]
   simp -implicitDefEqProofs[h,hT]
 ·have h':((s.length:Int)==16)=false:=by simp;omega
  have h2:(s.length==16)=false:=by simpa using h
  simp -implicitDefEqProofs[h']
  refine zah.of (fun h=>by cases h) (r:=.x (.one (.str []))) rfl ?_
  simp -implicitDefEqProofs[h]
theorem zqO(s:List UInt8)(x:RS)(b:Nat):zat Tryz.prog 182 [.x (.one (.str s)),.ptr2 2 0,.gbox b x.cells] (.x (.one (.bool (zhX s)))) [.dead,.dead,.gbox b { x with digest:=s }.cells]:=by
 have k:=zlu s
 unfold RS.cells
 refine zat.of mixed (fn:=Tryz.f182) (by kernel_rfl) (by kernel_rfl) rfl (by kernel_rfl) (by kernel_rfl) (by simp[zaU,zau]) (by simp[Tryz.f182]) (fun hok=>?_)
 simp -implicitDefEqProofs
 refine zac.of k ?_
 simp -implicitDefEqProofs
theorem zhR:zmG Tryz.prog 170 171:=by
 refine zmG.of mixed (fn:=Tryz.f170) (t:=2) (by kernel_rfl) rfl rfl (by kernel_rfl) (by simp[Tryz.f170]) rfl (fun v=>?_)
 simp -implicitDefEqProofs
 exact⟨.inr rfl,1,by simp,by simp⟩
def zIN:List UInt8:=[75,69,80,84,47,49]
def idS:List UInt8:=[105,100]
def ofS:List UInt8:=[111,102]
def zB1:List UInt8:=[107,105,110,100]
def zA9:List UInt8:=[100,97,116,101]
def keyS:List UInt8:=[107,101,121]
def lengthS:List UInt8:=[108,101,110,103,116,104]
def zph:List UInt8:=[100,105,103,101,115,116]
def zjq(r:Bool×RS)(f:RS→Bool×RS):Bool×RS:=match r with
 |(true,x)=>f x
 |(false,x)=>(false,x)
@[simp]theorem za9(x:RS)(f:RS→Bool×RS):zjq (true,x) f=f x:=rfl
@[simp]theorem za2(x:RS)(f:RS→Bool×RS):zjq (false,x) f=(false,x):=rfl
def zen(w:List UInt8)(x:RS):Bool×RS:=(zra x w,zfm x w)
def zgb(w:List UInt8)(F:List UInt8→Bool)(G:RS→List UInt8→RS)(x:RS):Bool×RS:=(zBT x w F,zje x w F (G x))
def idR:RS→Bool×RS:=zgb idS (fun _=>true) fun x s=>{ x with id:=s }
def ofR(x:RS):Bool×RS:=if isB x ofS=true then zgb ofS (fun s=>decide (s≠[])) (fun x s=>{ x with of:=s }) x else (true,x)
def zuA:RS→Bool×RS:=zgb zB1 (fun s=>decide (0<zps s)) fun x s=>{ x with kind:=zps s }
def zur(dt:List UInt8→Int)(dok:List UInt8→Bool):RS→Bool×RS:=zgb zA9 dok fun x s=>{ x with time:=dt s }
def zLv:RS→Bool×RS:=zgb keyS (fun _=>true) fun x s=>{ x with key:=s }
def zjJ:RS→Bool×RS:=zgb lengthS (zpV 9) fun x s=>if zpV 9 s=true then { x with length:=ze7 s } else x
def zjM:RS→Bool×RS:=zgb zph zhX fun x s=>{ x with digest:=s }
theorem zmc{x:RS}(h:x.ok)(w:List UInt8):(zen w x).2.ok:=by
 show (zfm x w).ok
 unfold zfm
 split
 ·exact⟨h.1,zdl h.2⟩
 ·exact h
theorem zeM{x:RS}(h:x.ok)(w:List UInt8)(F:List UInt8→Bool)(G:RS→List UInt8→RS)(hG:∀s,(G x s).b=x.b∧(G x s).at_=x.at_):(zgb w F G x).2.ok:=by
 show (zje x w F (G x)).ok
 unfold zje
 split
 ·obtain⟨g1,g2⟩:=hG ((zfz x.b x.at_).drop (w.length+2))
  split
  ·exact⟨by simp only[g1];exact h.1,by simp only[g1];exact zdl h.2⟩
  ·exact⟨by rw[g1];exact h.1,by rw[g1,g2];exact h.2⟩
 ·exact h
@[simp]theorem zKM(x:RS):ztt x.cells=false:=by simp[RS.cells,ztt]
theorem zqo(x:RS)(w:List UInt8):(zen w x).2.heads=x.heads:=by
 show (zfm x w).heads=_
 unfold zfm
 split<;>rfl
theorem zer(x:RS)(w:List UInt8)(F:List UInt8→Bool)(G:RS→List UInt8→RS)(hG:∀s,(G x s).heads=x.heads):(zgb w F G x).2.heads=x.heads:=by
 show (zje x w F (G x)).heads=_
 unfold zje
 split
 ·split
  ·exact hG _
  ·exact hG _
 ·rfl
def RS.ok0(x:RS):Prop:=x.ok∧x.heads=[]
def zf4(dt:List UInt8→Int)(dok:List UInt8→Bool)(hR:RS→Bool×RS)(x:RS):Bool×RS:=
 zjq (zen zIN x) fun x=>zjq (idR x) fun x=>zjq (ofR x) fun x=>zjq (zuA x) fun x=>zjq (zur dt dok x) fun x=>zjq (zLv x) fun x=>zjq (hR x) fun x=>zjq (zjJ x) fun x=>zjq (zjM x) fun x=>zen [] x
theorem zqL(dt:List UInt8→Int)(dok:List UInt8→Bool)(hD:∀s,zab Tryz.prog 106 [.one (.str s)] (.tup [.one (.int .i64 (dt s)),.one (.int .i64 (if dok s=true then 0 else 10))]))
  (hR:RS→Bool×RS)(hH:∀x:RS,x.ok0→zat Tryz.prog 178 [.box x.cells] (.x (.one (.bool (hR x).1))) [.box (hR x).2.cells]∧(hR x).2.ok)(x:RS)(hx:x.ok0) :
  zat Tryz.prog 96 [.box x.cells] (.x (.one (.bool (zf4 dt dok hR x).1))) [.box (zf4 dt dok hR x).2.cells]:=by
 have kw:∀(w:List UInt8) (y:RS),y.ok→zat Tryz.prog 172 [.box y.cells,.x (.one (.str w))] (.x (.one (.bool (zen w y).1))) [.box (zen w y).2.cells,.dead]:=fun w y hy=>zqU y w hy
 have kid:∀(y:RS),y.ok0→zat Tryz.prog 173 [.box y.cells,.x (.one (.str idS)),.cloR 171 [.inr (0,3+1000000)]] (.x (.one (.bool (idR y).1))) [.box (idR y).2.cells,.dead,.dead]:=fun y hy=>zcF y idS _ 3 _ _ hy.1 (by decide) (fun s _ b=>znA s y.cells 3 (by simp[RS.cells]) (by simp[RS.cells]) b)
 have kkey:∀(y:RS),y.ok0→zat Tryz.prog 173 [.box y.cells,.x (.one (.str keyS)),.cloR 171 [.inr (0,6+1000000)]] (.x (.one (.bool (zLv y).1))) [.box (zLv y).2.cells,.dead,.dead]:=fun y hy=>zcF y keyS _ 6 _ _ hy.1 (by decide) (fun s _ b=>znA s y.cells 6 (by simp[RS.cells]) (by simp[RS.cells]) b)
 have kof:∀(y:RS),y.ok0→zat Tryz.prog 173 [.box y.cells,.x (.one (.str ofS)),.cloR 175 [.inr (0,0+1000000)]] (.x (.one (.bool (zgb ofS (fun s=>decide (s≠[])) (fun x s=>{ x with of:=s }) y).1))) [.box (zgb ofS (fun s=>decide (s≠[])) (fun x s=>{ x with of:=s }) y).2.cells,.dead,.dead]:=fun y hy=>zcF y ofS _ 0 _ _ hy.1 (by decide) (fun s _ b=>zA6 s y b)
 have kkind:∀(y:RS),y.ok0→zat Tryz.prog 173 [.box y.cells,.x (.one (.str zB1)),.cloR 176 [.inr (0,0+1000000)]] (.x (.one (.bool (zuA y).1))) [.box (zuA y).2.cells,.dead,.dead]:=fun y hy=>zcF y zB1 _ 0 _ _ hy.1 (by decide) (fun s _ b=>zuS s y b)
 have kdate:∀(y:RS),y.ok0→zat Tryz.prog 173 [.box y.cells,.x (.one (.str zA9)),.cloR 177 [.inr (0,0+1000000)]] (.x (.one (.bool (zur dt dok y).1))) [.box (zur dt dok y).2.cells,.dead,.dead]:=fun y hy=>zcF y zA9 _ 0 _ _ hy.1 (by decide) (fun s _ b=>zui dt dok hD s y b)
 have klen:∀(y:RS),y.ok→zat Tryz.prog 173 [.box y.cells,.x (.one (.str lengthS)),.cloR 179 [.inr (0,0+1000000)]] (.x (.one (.bool (zjJ y).1))) [.box (zjJ y).2.cells,.dead,.dead]:=fun y hy=>zcF y lengthS _ 0 _ _ hy (by decide) (fun s _ b=>zqQ s y b)
 have kdig:∀(y:RS),y.ok→zat Tryz.prog 173 [.box y.cells,.x (.one (.str zph)),.cloR 182 [.inr (0,0+1000000)]] (.x (.one (.bool (zjM y).1))) [.box (zjM y).2.cells,.dead,.dead]:=fun y hy=>zcF y zph _ 0 _ _ hy (by decide) (fun s _ b=>zqO s y b)
 have kis:=fun (y:RS) (hy:y.ok0)=>zqz y ofS hy.1 (by decide)
 have ok00:∀(w:List UInt8) (y:RS),y.ok0→(zen w y).2.ok0:=fun w y hy=>⟨zmc hy.1 w,by rw[zqo];exact hy.2⟩
 have ok0:∀(w:List UInt8) (y:RS),y.ok→(zen w y).2.ok:=fun w y hy=>zmc hy w
 have ok1:∀y:RS,y.ok0→(idR y).2.ok0:=fun y hy=>⟨zeM hy.1 _ _ _ fun s=>⟨rfl,rfl⟩,(zer y _ _ _ fun s=>rfl).trans hy.2⟩
 have ok2:∀y:RS,y.ok0→(zgb ofS (fun s=>decide (s≠[])) (fun x s=>{ x with of:=s }) y).2.ok0:=fun y hy=>⟨zeM hy.1 _ _ _ fun s=>⟨rfl,rfl⟩,(zer y _ _ _ fun s=>rfl).trans hy.2⟩
 have ok3:∀y:RS,y.ok0→(zuA y).2.ok0:=fun y hy=>⟨zeM hy.1 _ _ _ fun s=>⟨rfl,rfl⟩,(zer y _ _ _ fun s=>rfl).trans hy.2⟩
 have ok4:∀y:RS,y.ok0→(zur dt dok y).2.ok0:=fun y hy=>⟨zeM hy.1 _ _ _ fun s=>⟨rfl,rfl⟩,(zer y _ _ _ fun s=>rfl).trans hy.2⟩
 have ok5:∀y:RS,y.ok0→(zLv y).2.ok0:=fun y hy=>⟨zeM hy.1 _ _ _ fun s=>⟨rfl,rfl⟩,(zer y _ _ _ fun s=>rfl).trans hy.2⟩
 have ok6:∀y:RS,y.ok→(zjJ y).2.ok:=fun y hy=>zeM hy _ _ _ fun s=>by split<;>exact⟨rfl,rfl⟩
 have ok7:∀y:RS,y.ok→(zjM y).2.ok:=fun y hy=>zeM hy _ _ _ fun s=>⟨rfl,rfl⟩
 unfold zIN idS ofS zB1 zA9 keyS lengthS zph at *
 obtain⟨R,eR⟩:∃R,R=zf4 dt dok hR x:=⟨_,rfl⟩
 rw[←eR]
 unfold zf4 ofR at eR
 unfold zIN ofS at eR
 refine @zat.of _ (zpP [(2,[1,0,1,1,1,1,1,1,1,1,2,0,1,1]),(6,[1,1,0,1,1,1,0,1,1,1,1,1,1,1,1,2,0,1,1,1,0,1,1,1,1,0,1,1,1,1,0,1,1,1,0,1,1])]) _ _ _ _ _ _ mixed (fn:=Tryz.f96) (by kernel_rfl) (by kernel_rfl) rfl (by kernel_rfl) (by kernel_rfl) rfl (by simp[Tryz.f96]) (fun hok=>?_)
 simp -implicitDefEqProofs
 have c1:=kw [75,69,80,84,47,49] x hx.1
 have o1:=ok00 [75,69,80,84,47,49] x hx
 generalize zen [75,69,80,84,47,49] x=r1 at c1 o1 eR
 obtain⟨B1,x1⟩:=r1
 dsimp only at c1 o1
 refine zb0.of c1 ?_
 cases B1
 ·rw[za2] at eR
  subst eR
  simp -implicitDefEqProofs
 rw[za9] at eR
 simp -implicitDefEqProofs
 have c2:=kid x1 o1
 have o2:=ok1 x1 o1
 generalize idR x1=r2 at c2 o2 eR
 obtain⟨B2,x2⟩:=r2
 dsimp only at c2 o2
 refine AMk.of zhR ?_
 simp -implicitDefEqProofs
 refine zb0.of c2 ?_
 cases B2
 ·rw[za2] at eR
  subst eR
  simp -implicitDefEqProofs
 rw[za9] at eR
 simp -implicitDefEqProofs
 have c3:=kis x2 o2
 generalize isB x2 [111,102]=I at c3 eR
 refine zb0.of c3 ?_
 cases I
 ·rw[if_neg (by decide),za9] at eR
  simp -implicitDefEqProofs
  have c4:=kkind x2 o2
  have o4:=ok3 x2 o2
  generalize zuA x2=r4 at c4 o4 eR
  obtain⟨B4,x4⟩:=r4
  dsimp only at c4 o4
  refine zb0.of c4 ?_
  cases B4
  ·rw[za2] at eR
   subst eR
   simp -implicitDefEqProofs
  rw[za9] at eR
  simp -implicitDefEqProofs
  have c5:=kdate x4 o4
  have o5:=ok4 x4 o4
  generalize zur dt dok x4=r5 at c5 o5 eR
  obtain⟨B5,x5⟩:=r5
  dsimp only at c5 o5
  refine zb0.of c5 ?_
  cases B5
  ·rw[za2] at eR
   subst eR
   simp -implicitDefEqProofs
  rw[za9] at eR
  simp -implicitDefEqProofs
  have c6:=kkey x5 o5
  have o6:=ok5 x5 o5
  generalize zLv x5=r6 at c6 o6 eR
  obtain⟨B6,x6⟩:=r6
  dsimp only at c6 o6
  refine AMk.of zhR ?_
  simp -implicitDefEqProofs
  refine zb0.of c6 ?_
  cases B6
  ·rw[za2] at eR
   subst eR
   simp -implicitDefEqProofs
  rw[za9] at eR
  simp -implicitDefEqProofs
  obtain⟨c7,o7⟩:=hH x6 o6
  generalize hR x6=r7 at c7 o7 eR
  obtain⟨B7,x7⟩:=r7
  dsimp only at c7 o7
  refine zb0.of c7 ?_
  cases B7
  ·rw[za2] at eR
   subst eR
   simp -implicitDefEqProofs
  rw[za9] at eR
  simp -implicitDefEqProofs
  have c8:=klen x7 o7
  have o8:=ok6 x7 o7
  generalize zjJ x7=r8 at c8 o8 eR
  obtain⟨B8,x8⟩:=r8
  dsimp only at c8 o8
  refine zb0.of c8 ?_
  cases B8
  ·rw[za2] at eR
   subst eR
   simp -implicitDefEqProofs
  rw[za9] at eR
  simp -implicitDefEqProofs
  have c9:=kdig x8 o8
  have o9:=ok7 x8 o8
  generalize zjM x8=r9 at c9 o9 eR
  obtain⟨B9,x9⟩:=r9
  dsimp only at c9 o9
  refine zb0.of c9 ?_
  cases B9
  ·rw[za2] at eR
   subst eR
   simp -implicitDefEqProofs
  rw[za9] at eR
  simp -implicitDefEqProofs
  have c10:=kw [] x9 o9
  have o10:=ok0 [] x9 o9
  generalize zen [] x9=r10 at c10 o10 eR
  obtain⟨B10,x10⟩:=r10
  dsimp only at c10 o10
  refine zb0.of c10 ?_
  subst eR
  simp -implicitDefEqProofs
 ·rw[if_pos rfl] at eR
  simp -implicitDefEqProofs
  have c3:=kof x2 o2
  have o3:=ok2 x2 o2
  generalize zgb [111,102] (fun s=>decide (s≠[])) (fun x s=>{ x with of:=s }) x2=r3 at c3 o3 eR
  obtain⟨B3,x3⟩:=r3
  dsimp only at c3 o3
  refine zb0.of c3 ?_
  cases B3
  ·rw[za2] at eR
   subst eR
   simp -implicitDefEqProofs
  rw[za9] at eR
  simp -implicitDefEqProofs
  have c4:=kkind x3 o3
  have o4:=ok3 x3 o3
  generalize zuA x3=r4 at c4 o4 eR
  obtain⟨B4,x4⟩:=r4
  dsimp only at c4 o4
  refine zb0.of c4 ?_
  cases B4
  ·rw[za2] at eR
   subst eR
   simp -implicitDefEqProofs
  rw[za9] at eR
  simp -implicitDefEqProofs
  have c5:=kdate x4 o4
  have o5:=ok4 x4 o4
  generalize zur dt dok x4=r5 at c5 o5 eR
  obtain⟨B5,x5⟩:=r5
  dsimp only at c5 o5
  refine zb0.of c5 ?_
  cases B5
  ·rw[za2] at eR
   subst eR
   simp -implicitDefEqProofs
  rw[za9] at eR
  simp -implicitDefEqProofs
  have c6:=kkey x5 o5
  have o6:=ok5 x5 o5
  generalize zLv x5=r6 at c6 o6 eR
  obtain⟨B6,x6⟩:=r6
  dsimp only at c6 o6
  refine AMk.of zhR ?_
  simp -implicitDefEqProofs
  refine zb0.of c6 ?_
  cases B6
  ·rw[za2] at eR
   subst eR
   simp -implicitDefEqProofs
  rw[za9] at eR
  simp -implicitDefEqProofs
  obtain⟨c7,o7⟩:=hH x6 o6
  generalize hR x6=r7 at c7 o7 eR
  obtain⟨B7,x7⟩:=r7
  dsimp only at c7 o7
  refine zb0.of c7 ?_
  cases B7
  ·rw[za2] at eR
   subst eR
   simp -implicitDefEqProofs
  rw[za9] at eR
  simp -implicitDefEqProofs
  have c8:=klen x7 o7
  have o8:=ok6 x7 o7
  generalize zjJ x7=r8 at c8 o8 eR
  obtain⟨B8,x8⟩:=r8
  dsimp only at c8 o8
  refine zb0.of c8 ?_
  cases B8
  ·rw[za2] at eR
   subst eR
   simp -implicitDefEqProofs
  rw[za9] at eR
  simp -implicitDefEqProofs
  have c9:=kdig x8 o8
  have o9:=ok7 x8 o8
  generalize zjM x8=r9 at c9 o9 eR
  obtain⟨B9,x9⟩:=r9
  dsimp only at c9 o9
  refine zb0.of c9 ?_
  cases B9
  ·rw[za2] at eR
   subst eR
   simp -implicitDefEqProofs
  rw[za9] at eR
  simp -implicitDefEqProofs
  have c10:=kw [] x9 o9
  have o10:=ok0 [] x9 o9
  generalize zen [] x9=r10 at c10 o10 eR
  obtain⟨B10,x10⟩:=r10
  dsimp only at c10 o10
  refine zb0.of c10 ?_
  subst eR
  simp -implicitDefEqProofs
end Go.Proofs.YtlcmnclbljedfaaGreatDoor
namespace Go.Proofs.YtlcmnclbljedfaaGreatDoor
open Go
set_option maxRecDepth 100000
def zJd:Go.Shelf.Ren:=⟨fun x=>if x=145 then 198 else if x=217 then 267 else if x=219 then 282 else if x=220 then 257 else if x=224 then 265 else if x=225 then 304 else if x=266 then 309 else if x=267 then 322 else if x=314 then 334 else x,fun x=>if x=3 then 3 else if x=4 then 4 else if x=5 then 5 else if x=9 then 9 else if x=46 then 165 else if x=51 then 233 else if x=59 then 249 else if x=146 then 320 else x,fun x=>if x=1 then 0 else x⟩
theorem zIC:Go.Proofs.Lays.n145 Tryz.prog zJd where
 mixed:=by kernel_rfl
 f145:=Tryz.func198.trans (congrArg some (by kernel_rfl))
 f217:=Tryz.func267.trans (congrArg some (by kernel_rfl))
 f219:=Tryz.func282.trans (congrArg some (by kernel_rfl))
 f220:=Tryz.func257.trans (congrArg some (by kernel_rfl))
 f224:=Tryz.func265.trans (congrArg some (by kernel_rfl))
 f225:=Tryz.func304.trans (congrArg some (by kernel_rfl))
 f266:=Tryz.func309.trans (congrArg some (by kernel_rfl))
 f267:=Tryz.func322.trans (congrArg some (by kernel_rfl))
 f314:=Tryz.func334.trans (congrArg some (by kernel_rfl))
 t3:=Tryz.underlying3
 a3:=Tryz.isAgg3
 z3:=Tryz.sizeOf3
 v3:=Tryz.zeroValue3
 t4:=Tryz.underlying4
 a4:=Tryz.isAgg4
 z4:=Tryz.sizeOf4
 v4:=Tryz.zeroValue4
 t5:=Tryz.underlying5
 a5:=Tryz.isAgg5
 z5:=Tryz.sizeOf5
 v5:=Tryz.zeroValue5
 t9:=Tryz.underlying9
 a9:=Tryz.isAgg9
 z9:=Tryz.sizeOf9
 v9:=Tryz.zeroValue9
 t46:=Tryz.underlying165
 a46:=Tryz.isAgg165
 z46:=Tryz.sizeOf165
 v46:=Tryz.zeroValue165
 t51:=Tryz.underlying233
 a51:=Tryz.isAgg233
 z51:=Tryz.sizeOf233
 v51:=Tryz.zeroValue233
 t59:=Tryz.underlying249
 a59:=Tryz.isAgg249
 z59:=Tryz.sizeOf249
 v59:=Tryz.zeroValue249
 t146:=Tryz.underlying320
 a146:=Tryz.isAgg320
 z146:=Tryz.sizeOf320
 v146:=Tryz.zeroValue320
 g1:=by kernel_rfl
end Go.Proofs.YtlcmnclbljedfaaGreatDoor
namespace Go.Proofs.YtlcmnclbljedfaaGreatDoor
open Go Go.Ab
class zaY[Amb](g:Nat):Prop where
 int:∀w,Amb.holds w→∃m,w.cell? ⟨g,0,none⟩=some (.int .i64 m)
variable [Amb][zaY 0]
set_option maxRecDepth 100000
set_option maxHeartbeats 4000000
theorem znw{f:FuncId}{args:List XV}{r:RV}(vs:List Value)(hc:zea Tryz.prog f)(ha:zsl args=some vs)(hb:∀v,r.blk v=none)
  (h:(∀x∈args,x.ok)→∀w,Amb.holds w→Calls Tryz.prog f vs.toArray w fun e w'=>∃v,e=.returned v∧RowKit.Below w.heap.size w w'∧∀S,zkq w' S r v):zab Tryz.prog f args r:=by
 refine⟨hc,fun w S us hS hargs=>?_⟩
 have e:us=vs.toArray:=by
  have:=zoj (us:=us.toList) (by rw[Array.length_toList];exact hargs.1) (fun j x hj=>by simpa using hargs.2 j x hj) ha
  rw[←this]
 have hok:=zow hargs
 subst e
 refine(h hok w hS.amb).mono ?_
 rintro e w' ⟨v,rfl,hb2,hr⟩
 exact⟨v,rfl,hb2,hr _,fun b hbb=>by rw[hb] at hbb;cases hbb⟩
theorem zqr(s:List UInt8)(hs:s.length≤16777216):zab Tryz.prog 198 [.one (.str s),.one (.str colonS)] (.tup [.one (.str (Lib.cut s colonS).1),.one (.str (Lib.cut s colonS).2.1),.one (.bool (Lib.cut s colonS).2.2)]):=by
 refine znw [.string ⟨s.toArray⟩,.string ⟨colonS.toArray⟩] (zbm Tryz.f198 (by kernel_rfl) (by kernel_rfl) rfl) rfl (fun _=>rfl) (fun _ w hw=>?_)
 obtain⟨m,hm⟩:=zaY.int (g:=0) w hw
 refine(Any.strings_Cut zIC ⟨s.toArray⟩ ⟨colonS.toArray⟩ m w (by simp only[ByteArray.size,List.size_toArray];omega) hm).mono ?_
 rintro e w' ⟨rfl,n,rfl⟩
 have h1:(Lib.cut s colonS).1.length≤maxLen∧(Lib.cut s colonS).2.1.length≤maxLen:=by
  unfold Lib.cut
  split<;>(unfold maxLen;simp;try omega)
 refine⟨_,rfl,⟨rfl,rfl,rfl,Nat.le_refl _,fun k _=>rfl⟩,fun S=>⟨_,rfl,rfl,fun j x hj=>?_⟩⟩
 match j,hj with
 |0,hj=>cases hj;exact⟨_,rfl,zaH.str _ h1.1⟩
 |1,hj=>cases hj;exact⟨_,rfl,zaH.str _ h1.2⟩
 |2,hj=>cases hj;exact⟨_,rfl,zaH.bool _⟩
 |j+3,hj=>simp at hj
theorem zne(s:List UInt8)(c:UInt8):zab Tryz.prog 238 [.one (.str s),.one (.str [c])] (.x (.one (.int .i64 (if c∈s then ((zhq c s).length:Int) else -1)))):=by
 refine zab.of mixed (fn:=Tryz.f238) (by kernel_rfl) (by kernel_rfl) rfl (by kernel_rfl) (by simp[Tryz.f238]) (fun hok=>?_)
 simp -implicitDefEqProofs
 refine zac.of (zeG s c) ?_
 simp -implicitDefEqProofs
theorem zjy(s:List UInt8)(c:UInt8):zab Tryz.prog 155 [.one (.str s),.one (.str [c])] (.x (.one (.bool (decide (c∈s))))):=by
 refine zab.of mixed (fn:=Tryz.f155) (by kernel_rfl) (by kernel_rfl) rfl (by kernel_rfl) (by simp[Tryz.f155]) (fun hok=>?_)
 simp -implicitDefEqProofs
 refine zac.of (zne s c) ?_
 by_cases h:c∈s
 ·simp -implicitDefEqProofs[h]
 ·simp -implicitDefEqProofs[h]
def zqS(s:List UInt8):Option Head:=if (Lib.cut s colonS).2.2=true∧(Lib.cut s colonS).1≠[]∧58∉(Lib.cut s colonS).1 then some ⟨(Lib.cut s colonS).1,(Lib.cut s colonS).2.1⟩ else none
def headD(s:List UInt8):Head:=(zqS s).getD ⟨[],[]⟩
theorem zhA(s:List UInt8)(hs:s.length≤16777216):zab Tryz.prog 247 [.one (.str s)] (.tup [.agg (headD s).row,.one (.bool (zqS s).isSome)]):=by
 have k:=zqr s hs
 have k2:=zjy (Lib.cut s colonS).1 58
 unfold headD zqS
 generalize Lib.cut s colonS=T at *
 obtain⟨n,v,b⟩:=T
 dsimp only at *
 unfold colonS at k
 refine zab.of mixed (fn:=Tryz.f247) (by kernel_rfl) (by kernel_rfl) rfl (by kernel_rfl) (by simp[Tryz.f247]) (fun hok=>?_)
 simp -implicitDefEqProofs
 refine zac.of k ?_
 cases b
 ·simp -implicitDefEqProofs
  refine zah.of (fun h=>by cases h) (r:=.x (.one (.bool false))) rfl ?_
  simp -implicitDefEqProofs[Head.row]
 ·cases n with
  |nil =>
   simp -implicitDefEqProofs
   refine zah.of (fun h=>by cases h) (r:=.x (.one (.bool false))) rfl ?_
   simp -implicitDefEqProofs[Head.row]
  |cons c r =>
   simp -implicitDefEqProofs
   refine zah.of (fun _=>k2) rfl ?_
   by_cases h:(58:UInt8)∈c::r
   ·have hd:decide ((58:UInt8)∈c::r)=true:=by simpa using h
    rw[hd,if_neg (by simp[h])]
    simp -implicitDefEqProofs[Head.row]
   ·have hd:decide ((58:UInt8)∈c::r)=false:=by simpa using h
    rw[hd,if_pos ⟨rfl,by simp,h⟩]
    simp -implicitDefEqProofs[Head.row]
def zvr:Nat→RS→Bool×RS
 |0,x=>(false,x)
 |n+1,x=>if isB x lengthS=true then (true,x) else if znv x.b x.at_=true∧(zqS (zfz x.b x.at_)).isSome=true then zvr n { x with heads:=x.heads++[headD (zfz x.b x.at_)],at_:=zhG x.b x.at_ } else (false,x)
def ztk(x:RS):Bool×RS:=zvr (x.b.length+1) x
theorem zjF{b:List UInt8}{a:Nat}(h:znv b a=true):a<zhG b a:=by
 unfold znv at h
 unfold zhG
 cases e:crl (b.drop a) with
 |none=>rw[e] at h;cases h
 |some l=>simp only;omega
theorem znq:∀(n m:Nat) (y:RS),y.ok→y.b.length<n+y.at_→y.b.length<m+y.at_→zvr n y=zvr m y
 |0,_,y,h,h1,_=>by have:=h.2;omega
 |_+1,0,y,h,_,h2=>by have:=h.2;omega
 |n+1,m+1,y,h,h1,h2=>by
  unfold zvr
  split
  ·rfl
  ·split
   ·rename_i hc
    have hg:=zjF hc.1
    exact znq n m _ ⟨h.1,zdl h.2⟩ (by simp only;omega) (by simp only;omega)
   ·rfl
theorem zyH:∀(n:Nat) (y:RS),y.ok→(zvr n y).2.ok
 |0,y,h=>h
 |n+1,y,h=>by
  unfold zvr
  split
  ·exact h
  ·split
   ·exact zyH n _ ⟨h.1,zdl h.2⟩
   ·exact h
theorem zxf{y:RS}(h:y.ok):ztk y=if isB y lengthS=true then (true,y) else if znv y.b y.at_=true∧(zqS (zfz y.b y.at_)).isSome=true then ztk { y with heads:=y.heads++[headD (zfz y.b y.at_)],at_:=zhG y.b y.at_ } else (false,y):=by
 conv=>lhs;unfold ztk zvr
 split
 ·rfl
 ·split
  ·rename_i hc
   have hg:=zjF hc.1
   exact znq _ _ _ ⟨h.1,zdl h.2⟩ (by simp only;omega) (by simp only;omega)
  ·rfl
theorem ztK(x:RS)(w:List UInt8)(hx:x.ok)(hw:w.length≤100):zab Tryz.prog 174 [.one (.ref x.cells),.one (.str w)] (.x (.one (.bool (isB x w)))):=by
 obtain⟨M,eM⟩:∃M,M=min x.b.length (x.at_+w.length+2):=⟨_,rfl⟩
 have k:=strings_HasPrefix ((x.b.drop x.at_).take (M-x.at_)) (w++colonS)
 rw[zE4 x w hx M eM] at k
 generalize isB x w=B at k
 have h2:=hx.2
 have h1:=hx.1
 have hw1:IntKind.i64.wrap ((x.at_:Int)+(w.length:Int))=(x.at_:Int)+(w.length:Int):=zaq _ (by omega)
 have hw2:IntKind.i64.wrap ((x.at_:Int)+(w.length:Int)+2)=(x.at_:Int)+(w.length:Int)+2:=zaq _ (by omega)
 have hmin:min (x.b.length:Int) ((x.at_:Int)+(w.length:Int)+2)=(M:Int):=by omega
 have hcut:cutAt (zad x.b) (x.at_:Int) (M:Int)=zad ((x.b.drop x.at_).take (M-x.at_)):=zi5 (by omega)
 unfold RS.cells at *
 refine zab.of mixed (fn:=Tryz.f174) (by kernel_rfl) (by kernel_rfl) rfl (by kernel_rfl) (by simp[Tryz.f174]) (fun hok=>?_)
 simp -implicitDefEqProofs[hw1,hw2,hmin,hcut]
 refine⟨by omega,by unfold maxLen;omega,zac.of k ?_⟩
 simp -implicitDefEqProofs
def zlI(y:RS):List (Nat×AV):=match y.heads with
 |[]=>[(0,.box [za7 y.b,.int .i64 y.at_,.int .i64 y.kind,.str y.id,.str y.of,.int .i64 y.time,.str y.key,.nil,.nil,.int .i64 y.length,.str y.digest]),(999999,.res [(0,7)])]
 |h::r=>[(0,.box [za7 y.b,.int .i64 y.at_,.int .i64 y.kind,.str y.id,.str y.of,.int .i64 y.time,.str y.key,.any,.nil,.int .i64 y.length,.str y.digest]),(44,.own 84 2 ((h::r).map Head.row)),(1000007,.link 0 7 44),(999999,.res [(0,7)])]
theorem zq0(x:RS)(hx:x.ok0):zat Tryz.prog 178 [.box x.cells] (.x (.one (.bool (ztk x).1))) [.box (ztk x).2.cells]:=by
 obtain⟨R,eR⟩:∃R,R=ztk x:=⟨_,rfl⟩
 rw[←eR]
 obtain⟨R1,R2⟩:=R
 dsimp only
 have hc:x.cells=[za7 x.b,.int .i64 x.at_,.int .i64 x.kind,.str x.id,.str x.of,.int .i64 x.time,.str x.key,.nil,.nil,.int .i64 x.length,.str x.digest]:=by unfold RS.cells hdC;rw[if_pos hx.2]
 rw[hc]
 refine @zat.ofL _ (zpP [(6,[6,6,1,1,1,1,1,1,1,4,6,1,1,1,5,1,1,0])]) [(0,7)] [(0,7)] _ _ _ _ _ _ (by simp) mixed (fn:=Tryz.f178) (by kernel_rfl) (by kernel_rfl) rfl (by kernel_rfl) (by kernel_rfl) rfl (by simp[Tryz.f178]) (fun hok=>?_)
 simp -implicitDefEqProofs
 refine zaK.of RS zlI (fun y=>(y.ok∧y.heads.length≤y.at_)∧(R1,R2)=ztk y) (fun y=>y.b.length-y.at_) x ⟨⟨hx.1,by rw[hx.2];simp⟩,eR⟩ ?_ ?_
 ·unfold zlI
  rw[hx.2]
  simp
 rintro y ⟨⟨hy,hhl⟩,hR⟩
 rw[zxf hy] at hR
 have k1:=zqz y lengthS hy (by decide)
 have k1':=ztK y lengthS hy (by decide)
 have k2:=zdL y.b y.at_ hy.1 hy.2
 have k3:=zhA (zfz y.b y.at_) (by have:=zpu y.b y.at_;have:=hy.1;omega)
 have hgt:=zjF (b:=y.b) (a:=y.at_)
 have hok:∀l:List Head,({ y with heads:=l,at_:=zhG y.b y.at_ }:RS).ok:=fun l=>⟨hy.1,zdl hy.2⟩
 have hle:=zdl hy.2
 unfold lengthS at k1 k1' hR
 unfold RS.cells at k1 k1'
 generalize isB y [108,101,110,103,116,104]=I at hR k1 k1'
 generalize zfz y.b y.at_=S at *
 generalize zhG y.b y.at_=N at *
 generalize znv y.b y.at_=L at *
 have hrow:(headD S).row=[.str (headD S).name,.str (headD S).value]:=rfl
 generalize headD S=H at *
 generalize (zqS S).isSome=Q at *
 unfold zlI
 cases hh:y.heads with
 |nil =>
  dsimp only
  have hdc:hdC y.heads=.nil:=by rw[hh];rfl
  rw[hdc] at k1
  simp -implicitDefEqProofs
  refine zb0.of k1 ?_
  cases I
  ·rw[if_neg (by decide)] at hR
   simp -implicitDefEqProofs
   refine zac.of k2 ?_
   simp -implicitDefEqProofs
   refine zac.of k3 ?_
   cases L
   ·rw[if_neg (by simp)] at hR
    obtain⟨rfl,rfl⟩:=Prod.mk.inj hR
    simp -implicitDefEqProofs[hrow]
    unfold RS.cells;rw[hdc]
   ·cases Q
    ·rw[if_neg (by simp)] at hR
     obtain⟨rfl,rfl⟩:=Prod.mk.inj hR
     simp -implicitDefEqProofs[hrow]
     unfold RS.cells;rw[hdc]
    ·rw[if_pos ⟨rfl,rfl⟩] at hR
     simp -implicitDefEqProofs[MARK,hrow]
     exact zaz.of { y with heads:=y.heads++[H],at_:=N } ⟨⟨hok _,by have:=hgt rfl;simp only[hh,List.nil_append,List.length_singleton];omega⟩,hR⟩ (by have:=hgt rfl;have:=hy.2;simp only;omega) (by simp[zlI,hh,Head.row,hrow])
  ·rw[if_pos rfl] at hR
   obtain⟨rfl,rfl⟩:=Prod.mk.inj hR
   simp -implicitDefEqProofs
   unfold RS.cells;rw[hdc]
 |cons h r =>
  dsimp only
  have hdc:hdC y.heads=.list 2 ((h::r).map Head.row):=by rw[hh];rfl
  rw[hdc] at k1'
  simp -implicitDefEqProofs
  refine zac.of k1' ?_
  cases I
  ·rw[if_neg (by decide)] at hR
   simp -implicitDefEqProofs
   refine zac.of k2 ?_
   simp -implicitDefEqProofs
   refine zac.of k3 ?_
   cases L
   ·rw[if_neg (by simp)] at hR
    obtain⟨rfl,rfl⟩:=Prod.mk.inj hR
    simp -implicitDefEqProofs[hrow]
    unfold RS.cells;rw[hdc];rfl
   ·cases Q
    ·rw[if_neg (by simp)] at hR
     obtain⟨rfl,rfl⟩:=Prod.mk.inj hR
     simp -implicitDefEqProofs[hrow]
     unfold RS.cells;rw[hdc];rfl
    ·rw[if_pos ⟨rfl,rfl⟩] at hR
     simp -implicitDefEqProofs[MARK,hrow]
     have hlen:y.heads.length=r.length+1:=by rw[hh];rfl
     have h16:=hy.1
     have h17:=hy.2
     refine⟨⟨by omega,by unfold maxLen;omega⟩,?_⟩
     exact zaz.of { y with heads:=y.heads++[H],at_:=N } ⟨⟨hok _,by have:=hgt rfl;simp only[List.length_append,List.length_singleton];omega⟩,hR⟩ (by have:=hgt rfl;simp only;omega) (by simp[zlI,hh,Head.row,hrow])
  ·rw[if_pos rfl] at hR
   obtain⟨rfl,rfl⟩:=Prod.mk.inj hR
   simp -implicitDefEqProofs
   unfold RS.cells;rw[hdc];rfl
end Go.Proofs.YtlcmnclbljedfaaGreatDoor
namespace Go.Proofs.YtlcmnclbljedfaaGreatDoor
open Go Go.Ab
variable [Amb]
set_option maxRecDepth 100000
set_option maxHeartbeats 4000000
def zFl(n:Int)(c:UInt8):Int:=IntKind.u64.wrap (bitsOf .xor .u64 n c.toNat*1099511628211)
def zyr(b:List UInt8):Int:=b.foldl zFl 14695981039346656037
theorem zqX(b:List UInt8)(c:UInt8):zyr (b++[c])=zFl (zyr b) c:=by simp[zyr]
theorem zuK(n:Int)(c:UInt8):0≤zFl n c∧zFl n c<18446744073709551616:=by
 unfold zFl
 generalize bitsOf .xor .u64 n c.toNat*1099511628211=z
 simp only[IntKind.wrap,IntKind.signed,IntKind.bits]
 simp only[Bool.false_and,Bool.false_eq_true,if_false]
 omega
theorem zt1(b:List UInt8):0≤zyr b∧zyr b<18446744073709551616:=by
 rcases List.eq_nil_or_concat b with rfl | ⟨r,c,rfl⟩
 ·decide
 ·rw[List.concat_eq_append,zqX];exact zuK _ _
theorem zVs(c:UInt8):IntKind.u64.wrap (c.toNat:Int)=(c.toNat:Int):=by
 have:=c.toNat_lt
 simp only[IntKind.wrap,IntKind.signed,IntKind.bits]
 simp only[Bool.false_and,Bool.false_eq_true,if_false]
 omega
theorem zpz(b:List UInt8)(hb:b.length≤4611686018427387904):zab Tryz.prog 88 [.one (za7 b)] (.x (.one (.int .u64 (zyr b)))):=by
 refine zab.of mixed (fn:=Tryz.f88) (by kernel_rfl) (by kernel_rfl) rfl (by kernel_rfl) (by simp[Tryz.f88]) (fun hok=>?_)
 simp -implicitDefEqProofs
 have hR:=zbs b
 refine zaK.of Nat (fun i=>[(0,.x (.one (za7 b))),(3,.x (.one (.int .u64 (zyr (b.take i))))),(6,.x (.one (.int .i64 b.length))),(7,.x (.one (.int .i64 i)))]) (fun i=>i≤b.length) (fun i=>b.length-i) 0 (Nat.zero_le _) ?_ ?_
 ·simp[zyr,hR]
 intro i hi
 by_cases hlt:i<b.length
 ·have hlt':((i:Int)<(b.length:Int))=True:=eq_true (by omega)
  have hwr:IntKind.i64.wrap ((i:Int)+1)=(i:Int)+1:=zaq _ (by omega)
  have hat:∀h,(zad b)[i]'h=byteRow b[i]:=fun h=>by rw[zrI]
  have hst:zyr (b.take (i+1))=zFl (zyr (b.take i)) b[i]:=by rw[List.take_succ_eq_append_getElem hlt,zqX]
  have hwb:=zVs b[i]
  simp -implicitDefEqProofs[hlt,hlt',hR,hat,hwb]
  refine zaz.of (i+1) hlt (by omega) ?_
  simp[hst,hwr,zFl]
 ·have hlt':((i:Int)<(b.length:Int))=False:=eq_false (by omega)
  have hi':i=b.length:=by omega
  subst hi'
  simp -implicitDefEqProofs[hlt']
def zTK(n:Int):UInt8:=([48,49,50,51,52,53,54,55,56,57,97,98,99,100,101,102]:List UInt8).getD n.toNat 0
def hexD:Nat→Int→List UInt8
 |0,_=>[]
 |k+1,n=>zTK (n / 16 ^ k % 16)::hexD k n
theorem zoP(k:Nat)(n:Int):(hexD k n).length=k:=by
 induction k with
 |zero=>rfl
 |succ k ih=>simp[hexD,ih]
theorem zUo(m:Int)(h0:0≤m)(h1:m<18446744073709551616):bitsOf .and .u64 m 15=m % 16:=by
 obtain⟨M,rfl⟩:∃M:Nat,m=M:=⟨m.toNat,by omega⟩
 have hM:M<2 ^ 64:=by omega
 have e:(BitVec.ofInt 64 (M:Int) &&& BitVec.ofInt 64 15).toNat=M % 16:=by
  have e2:(BitVec.ofInt 64 (15:Int)).toNat=2 ^ 4-1:=by decide
  rw[BitVec.toNat_and,e2,BitVec.ofInt_natCast,BitVec.toNat_ofNat,Nat.mod_eq_of_lt hM,Nat.and_two_pow_sub_one_eq_mod]
 show IntKind.u64.wrap ((BitVec.ofInt 64 (M:Int) &&& BitVec.ofInt 64 15).toNat:Int)=_
 rw[e]
 have:=Nat.mod_lt M (show 16 > 0 by decide)
 simp only[IntKind.wrap,IntKind.signed,IntKind.bits,Bool.false_and,Bool.false_eq_true,if_false]
 omega
theorem zwy(n:Int)(h0:0≤n)(i:Nat):0≤n / 16 ^ i∧n / 16 ^ i≤n∧n / 16 ^ (i+1)=(n / 16 ^ i) / 16:=by
 have hp:(0:Int)<16 ^ i:=Int.pow_pos (by decide)
 refine⟨Int.ediv_nonneg h0 (by omega),Int.ediv_le_self _ h0,?_⟩
 rw[Int.pow_succ,Int.ediv_ediv,if_neg (by omega)]
 omega
theorem zwW(n:Int)(h0:0≤n)(h1:n<18446744073709551616):zab Tryz.prog 87 [.one (.int .u64 n)] (.x (.one (.str (hexD 16 n)))):=by
 refine zab.of mixed (fn:=Tryz.f87) (by kernel_rfl) (by kernel_rfl) rfl (by kernel_rfl) (by simp[Tryz.f87]) (fun hok=>?_)
 simp -implicitDefEqProofs
 refine zaK.of Nat (fun i=>[(0,.x (.one (.int .u64 (n / 16 ^ i)))),(3,.own 5 1 (zad (List.replicate (16-i) 0++hexD i n))),(7,.x (.one (.int .i64 16))),(8,.x (.one (.int .i64 i)))]) (fun i=>i≤16) (fun i=>16-i) 0 (Nat.zero_le _) ?_ ?_
 ·simp[hexD,zad,byteRow]
 intro i hi
 by_cases hlt:i<16
 ·have hlt':((i:Int)<16)=True:=eq_true (by omega)
  have hwr:IntKind.i64.wrap ((i:Int)+1)=(i:Int)+1:=zaq _ (by omega)
  have hwr2:IntKind.i64.wrap (15-(i:Int))=((15-i:Nat):Int):=by rw[show (15:Int)-i=((15-i:Nat):Int) by omega];exact zaq _ (by omega)
  obtain⟨d0,d1,d2⟩:=zwy n h0 i
  have hand:=zUo (n / 16 ^ i) d0 (by omega)
  have hl:=zoP i n
  obtain⟨D,eD⟩:∃D,D=n / 16 ^ i % 16:=⟨_,rfl⟩
  have hD0:(0≤D)=True:=eq_true (by omega)
  have hD1:(D<16)=True:=eq_true (by omega)
  have hst:hexD (i+1) n=zTK D::hexD i n:=by rw[eD];rfl
  rw[←eD] at hand
  have hrl:(zad (List.replicate (16-i) 0++hexD i n)).length=16:=by simp[zad,hl];omega
  have hlt2:15-i<16:=by omega
  have hlt3:(((15-i:Nat):Int)<16)=True:=eq_true (by omega)
  have hD2:D.toNat<16:=by omega
  obtain⟨C,eC⟩:∃C,C=zTK D:=⟨_,rfl⟩
  have hC:([48,49,50,51,52,53,54,55,56,57,97,98,99,100,101,102]:List UInt8)[D.toNat]?=some C:=by
   rw[eC];unfold zTK;rw[List.getD_eq_getElem?_getD,List.getElem?_eq_getElem (by simpa using hD2)];rfl
  have hC':∀h,([48,49,50,51,52,53,54,55,56,57,97,98,99,100,101,102]:List UInt8)[D.toNat]'h=C:=fun h=>by
   have:=List.getElem?_eq_getElem h
   rw[this] at hC
   injection hC
  have hset:zad (List.replicate (15-i) 0++C::hexD i n)=(zad (List.replicate (16-i) 0++hexD i n)).set (15-i) (byteRow C):=by
   rw[zgm]
   congr 1
   rw[show 16-i=(15-i)+1 by omega,List.replicate_succ',List.append_assoc,List.set_append_right _ _ (by simp)]
   simp
  have hat:∀h,(zad (List.replicate (16-i) 0++hexD i n))[15-i]'h=byteRow ((List.replicate (16-i) 0++hexD i n)[15-i]'(by simpa[zad] using h)):=fun h=>by rw[zrI]
  have hfd:(n / 16 ^ i).fdiv 16=n / 16 ^ (i+1):=by rw[d2,Int.fdiv_eq_ediv_of_nonneg _ (by decide)]
  simp -implicitDefEqProofs[hlt,hlt',hwr2,hand,hD0,hD1,hrl,hlt2,hlt3,hat,hC',byteRow]
  refine zaz.of (i+1) hlt (by omega) ?_
  rw[←eC] at hst
  simp[hst,hwr,hset,byteRow,IntKind.bits,hfd,show 16-(i+1)=15-i by omega]
 ·have hlt':((i:Int)<16)=False:=eq_false (by omega)
  have hi':i=16:=by omega
  subst hi'
  have hok1:=zkU (hexD 16 n)
  have hb1:=ziH (hexD 16 n)
  have hl:=zoP 16 n
  have hrl:(zad (hexD 16 n)).length=16:=by simp[zad,hl]
  simp -implicitDefEqProofs[hlt',hok1,hb1,hl,hrl]
def zz6(b:List UInt8):List UInt8:=hexD 16 (zyr b)
theorem zzI(b:List UInt8):(zz6 b).length=16:=zoP _ _
theorem zgx(b:List UInt8)(hb:b.length≤4611686018427387904):zab Tryz.prog 44 [.one (za7 b)] (.x (.one (.str (zz6 b)))):=by
 refine zab.of mixed (fn:=Tryz.f44) (by kernel_rfl) (by kernel_rfl) rfl (by kernel_rfl) (by simp[Tryz.f44]) (fun hok=>?_)
 simp -implicitDefEqProofs
 refine zac.of (zpz b hb) ?_
 obtain⟨h0,h1⟩:=zt1 b
 simp -implicitDefEqProofs
 refine zac.of (zwW _ h0 h1) ?_
 simp -implicitDefEqProofs[zz6]
theorem zoh(l:List UInt8)(hb:l.length≤16777216):zab Tryz.prog 97 [.one (za7 l)] (.x (.one (za7 l))):=by
 cases l with
 |nil =>
  refine zab.zjP (pre:=[]) (post:=[]) ?_ ?_
  ·refine zab.of mixed (fn:=Tryz.f97) (by kernel_rfl) (by kernel_rfl) rfl (by kernel_rfl) (by simp[Tryz.f97]) (fun hok=>?_)
   simp -implicitDefEqProofs +contextual[-Bool.and_eq_false_imp,Bool.and_eq_false_iff,zad]
  ·refine zab.of mixed (fn:=Tryz.f97) (by kernel_rfl) (by kernel_rfl) rfl (by kernel_rfl) (by simp[Tryz.f97]) (fun hok=>?_)
   simp -implicitDefEqProofs +contextual[-Bool.and_eq_false_imp,Bool.and_eq_false_iff,zad]
 |cons x r =>
  refine zab.of mixed (fn:=Tryz.f97) (by kernel_rfl) (by kernel_rfl) rfl (by kernel_rfl) (by simp[Tryz.f97]) (fun hok=>?_)
  simp -implicitDefEqProofs +contextual[-Bool.and_eq_false_imp,Bool.and_eq_false_iff,zad,byteRow]
  simp at hb
  unfold maxLen
  omega
def zd4(w v:List UInt8):List UInt8:=w++[58,32]++v++[13,10]
theorem ziP(w v:List UInt8):(zd4 w v).length=w.length+v.length+4:=by simp[zd4];omega
theorem zor(w v:List UInt8)(xs:List (List CV))(h:xs.length+(w.length+v.length+4)≤1099511627776):zfT Tryz.prog 77 [.x (.one (.str w)),.x (.one (.str v)),.box [.any]] [(5,1,xs)] [(2,0)] (.tup []) [.dead,.dead,.box [.any]] [(5,1,xs++zad (zd4 w v))]:=by
 refine zfT.of [(2,0)] (by simp) mixed (fn:=Tryz.f77) (by kernel_rfl) (by kernel_rfl) rfl (by kernel_rfl) (by kernel_rfl) rfl (by simp[Tryz.f77]) rfl rfl (fun _=>rfl) (fun g hok=>?_)
 have hw:zd4 w v=w++58::32::(v++[13,10]):=by simp[zd4]
 simp -implicitDefEqProofs[MARK,hw]
 unfold maxLen
 omega
theorem zbl(acc w v acc':List UInt8)(e:acc'=acc++zd4 w v)(h:acc'.length≤1099511627776):zfT Tryz.prog 77 [.x (.one (.str w)),.x (.one (.str v)),.box [.any]] [(5,1,zad acc)] [(2,0)] (.tup []) [.dead,.dead,.box [.any]] [(5,1,zad acc')]:=by
 have hl:acc'.length=acc.length+(w.length+v.length+4):=by rw[e,List.length_append,ziP]
 have k:=zor w v (zad acc) (by rw[zbs];omega)
 have:zad acc++zad (zd4 w v)=zad acc':=by rw[e];simp[zad]
 rw[this] at k
 exact k
end Go.Proofs.YtlcmnclbljedfaaGreatDoor
namespace Go.Proofs.YtlcmnclbljedfaaGreatDoor
open Go Go.Ab
variable [Amb][zal Tryz.prog]
set_option maxRecDepth 100000
set_option maxHeartbeats 4000000
structure Rec where
 kind:Int
 id:List UInt8
 of:List UInt8
 time:Int
 key:List UInt8
 heads:List Head
 block:List UInt8
def Rec.row(r:Rec):List CV:=[.int .i64 r.kind,.str r.id,.str r.of,.int .i64 r.time,.str r.key,.list 2 (r.heads.map Head.row),za7 r.block]
def zFW:List UInt8:=[75,69,80,84,47,49,13,10]
def zbU(l:List Head):List UInt8:=l.flatMap fun h=>zd4 h.name h.value
def zq4(k:Int):List UInt8:=zfr.getD (k-1).toNat []
def wr1(r:Rec):List UInt8:=zFW++zd4 [105,100] r.id
def wr2(r:Rec):List UInt8:=if r.of=[] then wr1 r else wr1 r++zd4 [111,102] r.of
def wr3(r:Rec):List UInt8:=wr2 r++zd4 [107,105,110,100] (zq4 r.kind)
def wr4(r:Rec):List UInt8:=wr3 r++zd4 [100,97,116,101] (zgo r.time)
def wr5(r:Rec):List UInt8:=wr4 r++zd4 [107,101,121] r.key
def wr6(r:Rec):List UInt8:=wr5 r++zbU r.heads
def wr7(r:Rec):List UInt8:=wr6 r++zd4 [108,101,110,103,116,104] (zrK r.block.length)
def wr8(r:Rec):List UInt8:=wr7 r++zd4 [100,105,103,101,115,116] (zz6 r.block)
def ztW(r:Rec):List UInt8:=wr8 r++([13,10]++(r.block++[13,10,13,10]))
def Rec.fits(r:Rec):Prop:=1≤r.kind∧r.kind≤5∧zbf r.time=true∧(ztW r).length≤1099511627776
theorem zn4:∀l:List Head,l.length≤(zbU l).length
 |[]=>Nat.le_refl _
 |h::r=>by
  have:=zn4 r
  unfold zbU at this ⊢
  simp only[List.flatMap_cons,List.length_append,List.length_cons,ziP]
  omega
theorem zpO(r:Rec)(hr:r.fits):zab Tryz.prog 38 [.one .nil,.agg r.row] (.own 5 1 (zad (ztW r))):=by
 obtain⟨hk1,hk2,hm,hlen⟩:=hr
 have l8:(wr8 r).length+r.block.length+6≤1099511627776:=by unfold ztW at hlen;simp at hlen;omega
 have l7:(wr7 r).length≤(wr8 r).length:=by unfold wr8;simp
 have l6:(wr6 r).length≤(wr7 r).length:=by unfold wr7;simp
 have l5:(wr5 r).length≤(wr6 r).length:=by unfold wr6;simp
 have l4:(wr4 r).length≤(wr5 r).length:=by unfold wr5;simp
 have l3:(wr3 r).length≤(wr4 r).length:=by unfold wr4;simp
 have l2:(wr2 r).length≤(wr3 r).length:=by unfold wr3;simp
 have l1:(wr1 r).length≤(wr2 r).length:=by unfold wr2;split<;>simp
 refine @zab.ofL _ (grows [3,5,6,8,9,13,15,16] [(6,[1,1,1,1,1,1,1,0]),(17,[1,4,7,7,0,0])]) [(2,0)] [] _ _ _ _ _ (by simp) mixed (fn:=Tryz.f38) (by kernel_rfl) (by kernel_rfl) rfl (by kernel_rfl) (by simp[Tryz.f38]) (fun hok=>?_)
 unfold Rec.row
 simp -implicitDefEqProofs[MARK]
 refine zg0.of (zbl zFW [105,100] r.id (wr1 r) rfl (by omega)) ?_
 intro g1
 obtain⟨K,eK⟩:∃K:Nat,r.kind=(K:Int)+1:=⟨(r.kind-1).toNat,by omega⟩
 have hK5:K<5:=by omega
 have hKw:IntKind.i64.wrap (r.kind-1)=(K:Int):=by rw[eK,show (K:Int)+1-1=K by omega];exact zaq _ (by omega)
 have hK0:((K:Int)<(zfr.length:Int))=True:=eq_true (by show (K:Int)<5;omega)
 have hKl:zfr[K]?=some (zq4 r.kind):=by
  unfold zq4
  rw[List.getD_eq_getElem?_getD,eK,show ((K:Int)+1-1).toNat=K by omega,List.getElem?_eq_getElem (show K<zfr.length from hK5)]
  rfl
 have hheads:r.heads.length≤1099511627776:=by
  have:=zn4 r.heads
  have:(zbU r.heads).length≤(wr6 r).length:=by unfold wr6;simp
  omega
 have kd:=zkG r.time
 rw[if_pos hm,if_pos hm] at kd
 by_cases ho:r.of=[]
 ·have e3:wr3 r=wr1 r++zd4 [107,105,110,100] (zq4 r.kind):=by unfold wr3 wr2;rw[if_pos ho]
  have hor:(r.of=[])=True:=eq_true ho
  simp -implicitDefEqProofs[MARK,hor]
  refine zac.of zgi ?_
  simp -implicitDefEqProofs[MARK,hKw,hK0,hKl]
  refine zg0.of (zbl (wr1 r) [107,105,110,100] (zq4 r.kind) (wr3 r) e3 (by omega)) ?_
  intro g2
  simp -implicitDefEqProofs[MARK]
  refine zac.of kd ?_
  simp -implicitDefEqProofs[MARK]
  refine zg0.of (zbl (wr3 r) [100,97,116,101] (zgo r.time) (wr4 r) rfl (by omega)) ?_
  intro g3
  simp -implicitDefEqProofs[MARK]
  refine zg0.of (zbl (wr4 r) [107,101,121] r.key (wr5 r) rfl (by omega)) ?_
  intro g4
  simp -implicitDefEqProofs[MARK]
  refine zaK.of (Nat×Value) (fun x=>[(2,.box [.any]),(3,.box r.row),(5,.cloR 77 [.inr (2,0)]),(12,.gown x.2 5 1 (zad (wr5 r++zbU (r.heads.take x.1)))),(46,.x (.one (.list 2 (r.heads.map Head.row)))),(47,.x (.one (.int .i64 r.heads.length))),(48,.x (.one (.int .i64 x.1))),(999999,.res [(2,0)]),(1002000,.link 2 0 12)])
   (fun x=>x.1≤r.heads.length) (fun x=>r.heads.length-x.1) (0,g4 0) (Nat.zero_le _) ?_ ?_
  ·simp[zbU,Rec.row]
  rintro⟨i,v⟩ hi
  dsimp only at hi ⊢
  by_cases hlt:i<r.heads.length
  ·have hlt':((i:Int)<(r.heads.length:Int))=True:=eq_true (by omega)
   have hwr:IntKind.i64.wrap ((i:Int)+1)=(i:Int)+1:=zaq _ (by omega)
   have hrow:∀h:Head,h.row=[.str h.name,.str h.value]:=fun _=>rfl
   have hst:zbU (r.heads.take (i+1))=zbU (r.heads.take i)++zd4 r.heads[i].name r.heads[i].value:=by
    unfold zbU;rw[List.take_succ_eq_append_getElem hlt,List.flatMap_append];simp
   have hpre:(wr5 r++zbU (r.heads.take (i+1))).length≤(wr6 r).length:=by
    unfold wr6 zbU
    have:(r.heads.take (i+1)).flatMap (fun h=>zd4 h.name h.value) <+: r.heads.flatMap (fun h=>zd4 h.name h.value):=by
     conv=>rhs;rw[←List.take_append_drop (i+1) r.heads]
     rw[List.flatMap_append]
     exact List.prefix_append _ _
    have:=this.length_le
    simp only[List.length_append]
    omega
   unfold Rec.row
   simp -implicitDefEqProofs[MARK,hlt,hlt',hrow]
   refine zg0.of (zbl (wr5 r++zbU (r.heads.take i)) r.heads[i].name r.heads[i].value (wr5 r++zbU (r.heads.take (i+1))) (by rw[hst,List.append_assoc]) (by omega)) ?_
   intro g5
   simp -implicitDefEqProofs[MARK]
   refine zaz.of (i+1,g5 0) hlt (by simp only;omega) ?_
   simp[hwr]
  have hlt':((i:Int)<(r.heads.length:Int))=False:=eq_false (by omega)
  have hi':i=r.heads.length:=by omega
  subst hi'
  have hRl:=zbs r.block
  have hT:wr5 r++zbU (r.heads.take r.heads.length)=wr6 r:=by rw[List.take_length];rfl
  have kI:=strconv_Itoa (r.block.length:Int) (by unfold I64;omega)
  rw[hT]
  unfold Rec.row
  simp -implicitDefEqProofs[MARK,hlt']
  refine zac.of kI ?_
  simp -implicitDefEqProofs[MARK]
  refine zg0.of (zbl (wr6 r) [108,101,110,103,116,104] (zrK r.block.length) (wr7 r) rfl (by omega)) ?_
  intro g6
  simp -implicitDefEqProofs[MARK]
  refine zac.of (zgx r.block (by omega)) ?_
  simp -implicitDefEqProofs[MARK]
  refine zg0.of (zbl (wr7 r) [100,105,103,101,115,116] (zz6 r.block) (wr8 r) rfl (by omega)) ?_
  intro g7
  have hl8:(zad (wr8 r)).length=(wr8 r).length:=zbs _
  simp -implicitDefEqProofs[MARK,hRl,hl8]
  exact⟨by omega,⟨by omega,by unfold maxLen;omega⟩,by omega,by simp[ztW,zad]⟩
 ·have e2:wr2 r=wr1 r++zd4 [111,102] r.of:=by unfold wr2;rw[if_neg ho]
  have hor:(r.of=[])=False:=eq_false ho
  simp -implicitDefEqProofs[MARK,hor]
  refine zg0.of (zbl (wr1 r) [111,102] r.of (wr2 r) e2 (by omega)) ?_
  intro g1b
  simp -implicitDefEqProofs[MARK]
  refine zac.of zgi ?_
  simp -implicitDefEqProofs[MARK,hKw,hK0,hKl]
  refine zg0.of (zbl (wr2 r) [107,105,110,100] (zq4 r.kind) (wr3 r) rfl (by omega)) ?_
  intro g2
  simp -implicitDefEqProofs[MARK]
  refine zac.of kd ?_
  simp -implicitDefEqProofs[MARK]
  refine zg0.of (zbl (wr3 r) [100,97,116,101] (zgo r.time) (wr4 r) rfl (by omega)) ?_
  intro g3
  simp -implicitDefEqProofs[MARK]
  refine zg0.of (zbl (wr4 r) [107,101,121] r.key (wr5 r) rfl (by omega)) ?_
  intro g4
  simp -implicitDefEqProofs[MARK]
  refine zaK.of (Nat×Value) (fun x=>[(2,.box [.any]),(3,.box r.row),(5,.cloR 77 [.inr (2,0)]),(12,.gown x.2 5 1 (zad (wr5 r++zbU (r.heads.take x.1)))),(46,.x (.one (.list 2 (r.heads.map Head.row)))),(47,.x (.one (.int .i64 r.heads.length))),(48,.x (.one (.int .i64 x.1))),(999999,.res [(2,0)]),(1002000,.link 2 0 12)])
   (fun x=>x.1≤r.heads.length) (fun x=>r.heads.length-x.1) (0,g4 0) (Nat.zero_le _) ?_ ?_
  ·simp[zbU,Rec.row]
  rintro⟨i,v⟩ hi
  dsimp only at hi ⊢
  by_cases hlt:i<r.heads.length
  ·have hlt':((i:Int)<(r.heads.length:Int))=True:=eq_true (by omega)
   have hwr:IntKind.i64.wrap ((i:Int)+1)=(i:Int)+1:=zaq _ (by omega)
   have hrow:∀h:Head,h.row=[.str h.name,.str h.value]:=fun _=>rfl
   have hst:zbU (r.heads.take (i+1))=zbU (r.heads.take i)++zd4 r.heads[i].name r.heads[i].value:=by
    unfold zbU;rw[List.take_succ_eq_append_getElem hlt,List.flatMap_append];simp
   have hpre:(wr5 r++zbU (r.heads.take (i+1))).length≤(wr6 r).length:=by
    unfold wr6 zbU
    have:(r.heads.take (i+1)).flatMap (fun h=>zd4 h.name h.value) <+: r.heads.flatMap (fun h=>zd4 h.name h.value):=by
     conv=>rhs;rw[←List.take_append_drop (i+1) r.heads]
     rw[List.flatMap_append]
     exact List.prefix_append _ _
    have:=this.length_le
    simp only[List.length_append]
    omega
   unfold Rec.row
   simp -implicitDefEqProofs[MARK,hlt,hlt',hrow]
   refine zg0.of (zbl (wr5 r++zbU (r.heads.take i)) r.heads[i].name r.heads[i].value (wr5 r++zbU (r.heads.take (i+1))) (by rw[hst,List.append_assoc]) (by omega)) ?_
   intro g5
   simp -implicitDefEqProofs[MARK]
   refine zaz.of (i+1,g5 0) hlt (by simp only;omega) ?_
   simp[hwr]
  have hlt':((i:Int)<(r.heads.length:Int))=False:=eq_false (by omega)
  have hi':i=r.heads.length:=by omega
  subst hi'
  have hRl:=zbs r.block
  have hT:wr5 r++zbU (r.heads.take r.heads.length)=wr6 r:=by rw[List.take_length];rfl
  have kI:=strconv_Itoa (r.block.length:Int) (by unfold I64;omega)
  rw[hT]
  unfold Rec.row
  simp -implicitDefEqProofs[MARK,hlt']
  refine zac.of kI ?_
  simp -implicitDefEqProofs[MARK]
  refine zg0.of (zbl (wr6 r) [108,101,110,103,116,104] (zrK r.block.length) (wr7 r) rfl (by omega)) ?_
  intro g6
  simp -implicitDefEqProofs[MARK]
  refine zac.of (zgx r.block (by omega)) ?_
  simp -implicitDefEqProofs[MARK]
  refine zg0.of (zbl (wr7 r) [100,105,103,101,115,116] (zz6 r.block) (wr8 r) rfl (by omega)) ?_
  intro g7
  have hl8:(zad (wr8 r)).length=(wr8 r).length:=zbs _
  simp -implicitDefEqProofs[MARK,hRl,hl8]
  exact⟨by omega,⟨by omega,by unfold maxLen;omega⟩,by omega,by simp[ztW,zad]⟩
def zJs:List (List UInt8):=[[105,100],[111,102],[107,105,110,100],[100,97,116,101],[107,101,121],[108,101,110,103,116,104],[100,105,103,101,115,116]]
theorem zny:zab Tryz.prog 133 [] (.x (strs zJs)):=by
 refine zab.of mixed (fn:=Tryz.f133) (by kernel_rfl) (by kernel_rfl) rfl (by kernel_rfl) (by simp[Tryz.f133]) (fun hok=>?_)
 simp -implicitDefEqProofs[zJs]
def ownB(h:Head):Bool:=decide (zbd h.name∈zJs)
def zlx(r:Rec):Int:=
 if r.kind<1∨5<r.kind then 4 else if nameB r.id=false∨(r.of≠[]∧nameB r.of=false) then 5 else if r.of=r.id∨(r.of=[]∧(r.kind=4∨r.kind=5))∨(r.of≠[]∧r.kind=1) then 12
 else if zbf r.time=false then 1 else if zuu r.key=false then 3 else if 30<r.heads.length then 2 else if zd0 r.heads≠0 then zd0 r.heads else if r.heads.any ownB=true then 12
 else if 200000<r.block.length then 2 else if r.kind=4∧r.block≠[] then 3 else 0
theorem zb6(r:Rec):zab Tryz.prog 76 [.agg r.row] (.x (.one (.int .i64 (zlx r)))):=by
 obtain⟨F,eF⟩:∃F,F=zlx r:=⟨_,rfl⟩
 rw[←eF]
 unfold zlx at eF
 have k1:=isName r.id
 have k2:=isName r.of
 have k3:=zhb r.time
 have k4:=isKey r.key
 have k5:=zdf r.heads
 have hRl:=zbs r.block
 have hob:∀h,ownB h=decide (zbd h.name∈zJs):=fun _=>rfl
 obtain⟨A,eA⟩:∃A,A=r.heads.any ownB:=⟨_,rfl⟩
 have hA1:∀i (h:i<r.heads.length),ownB r.heads[i]=true→A=true:=fun i h hb=>by rw[eA,List.any_eq_true];exact⟨_,List.getElem_mem h,hb⟩
 have hA2:(∀i (h:i<r.heads.length),ownB r.heads[i]=false)→A=false:=fun h=>by
  rw[eA,List.any_eq_false];intro x hx;obtain⟨i,hi,rfl⟩:=List.getElem_of_mem hx;simp[h i hi]
 rw[←eA] at eF
 unfold Rec.row
 generalize nameB r.id=N1 at k1 eF
 generalize nameB r.of=N2 at k2 eF
 generalize zbf r.time=N3 at k3 eF
 generalize zuu r.key=N4 at k4 eF
 generalize zd0 r.heads=N5 at k5 eF
 clear eA
 obtain⟨kind,id,of,time,key,heads,block⟩:=r
 dsimp only at *
 refine zab.of mixed (fn:=Tryz.f76) (by kernel_rfl) (by kernel_rfl) rfl (by kernel_rfl) (by simp[Tryz.f76]) (fun hok=>?_)
 by_cases h1:kind<1
 ·rw[if_pos (.inl h1)] at eF
  subst eF
  have h1':(kind<1)=True:=eq_true h1
  simp -implicitDefEqProofs[h1']
 have h1':(kind<1)=False:=eq_false h1
 by_cases h2:5<kind
 ·rw[if_pos (.inr h2)] at eF
  subst eF
  have h2':(5<kind)=True:=eq_true h2
  simp -implicitDefEqProofs[h1',h2']
 have h2':(5<kind)=False:=eq_false h2
 rw[if_neg (by omega)] at eF
 simp -implicitDefEqProofs[h1',h2']
 refine zac.of k1 ?_
 cases N1
 ·rw[if_pos (.inl rfl)] at eF
  subst eF
  simp -implicitDefEqProofs
  refine zah.of (fun h=>by cases h) (r:=.x (.one (.bool false))) rfl ?_
  simp -implicitDefEqProofs
 cases of with
 |nil =>
  rw[if_neg (by simp)] at eF
  simp -implicitDefEqProofs
  refine zah.of (fun h=>by cases h) (r:=.x (.one (.bool false))) rfl ?_
  by_cases hid:id=[]
  ·rw[if_pos (.inl hid.symm)] at eF
   subst eF
   have hid':(id=[])=True:=eq_true hid
   have hid2:([]=id)=True:=eq_true hid.symm
   simp -implicitDefEqProofs[hid',hid2]
  have hid':(id=[])=False:=eq_false hid
  have hid2:([]=id)=False:=eq_false (fun h=>hid h.symm)
  by_cases hk4:kind=4∨kind=5
  ·rw[if_pos (.inr (.inl ⟨rfl,hk4⟩))] at eF
   subst eF
   rcases hk4 with hk4 | hk4
   ·have hk4':(kind=4)=True:=eq_true hk4
    simp -implicitDefEqProofs[hid',hid2,hk4']
   ·have hk4':(kind=4)=False:=eq_false (by omega)
    have hk5':(kind=5)=True:=eq_true hk4
    simp -implicitDefEqProofs[hid',hid2,hk4',hk5']
  have hk4':(kind=4)=False:=eq_false (by omega)
  have hk5':(kind=5)=False:=eq_false (by omega)
  rw[if_neg (by rintro (h | ⟨_,h⟩ | ⟨h,_⟩);exact hid h.symm;exact hk4 h;exact h rfl)] at eF
  simp -implicitDefEqProofs[hid',hid2,hk4',hk5']
  refine zac.of k3 ?_
  cases N3
  ·rw[if_pos rfl] at eF
   subst eF
   simp -implicitDefEqProofs
  rw[if_neg (by decide)] at eF
  simp -implicitDefEqProofs
  refine zac.of k4 ?_
  cases N4
  ·rw[if_pos rfl] at eF
   subst eF
   simp -implicitDefEqProofs
  rw[if_neg (by decide)] at eF
  by_cases h30:30<heads.length
  ·rw[if_pos h30] at eF
   subst eF
   have h30':(30<(heads.length:Int))=True:=eq_true (by omega)
   simp -implicitDefEqProofs[h30']
  rw[if_neg h30] at eF
  have h30':(30<(heads.length:Int))=False:=eq_false (by omega)
  simp -implicitDefEqProofs[h30']
  refine zac.of k5 ?_
  by_cases hN5:N5=0
  ·rw[if_neg (by simpa using hN5)] at eF
   subst hN5
   simp -implicitDefEqProofs
   refine zaK.of Nat (fun i=>[(1,.box [.int .i64 kind,.str id,.str [],.int .i64 time,.str key,.list 2 (heads.map Head.row),za7 block]),(80,.x (.one (.list 2 (heads.map Head.row)))),(81,.x (.one (.int .i64 heads.length))),(82,.x (.one (.int .i64 i)))])
    (fun i=>i≤heads.length∧∀j (h:j<heads.length),j<i→ownB heads[j]=false) (fun i=>heads.length-i) 0 ⟨Nat.zero_le _,fun j h h'=>by omega⟩ ?_ ?_
   ·simp
   rintro i ⟨hi,hp⟩
   by_cases hlt:i<heads.length
   ·have hlt':((i:Int)<(heads.length:Int))=True:=eq_true (by omega)
    have hwr:IntKind.i64.wrap ((i:Int)+1)=(i:Int)+1:=zaq _ (by omega)
    have hrow:∀h:Head,h.row=[.str h.name,.str h.value]:=fun _=>rfl
    simp -implicitDefEqProofs[hlt,hlt',hrow]
    refine zac.of zny ?_
    simp -implicitDefEqProofs
    refine zac.of (zdi heads[i].name) ?_
    simp -implicitDefEqProofs
    have k6:=zcz zJs (zbd heads[i].name)
    rw[←hob] at k6
    refine zac.of k6 ?_
    cases hc:ownB heads[i]
    ·simp -implicitDefEqProofs
     refine zaz.of (i+1) ⟨hlt,fun j h hj=>?_⟩ (by omega) ?_
     ·rcases Nat.lt_or_ge j i with h' | h'
      ·exact hp j h h'
      ·obtain rfl:j=i:=by omega
       exact hc
     ·simp[hwr]
    ·rw[if_pos (hA1 i hlt hc)] at eF
     subst eF
     simp -implicitDefEqProofs
   have hlt':((i:Int)<(heads.length:Int))=False:=eq_false (by omega)
   have hA:A=false:=hA2 (fun j h=>hp j h (by omega))
   rw[if_neg (by rw[hA];decide)] at eF
   by_cases hB:200000<block.length
   ·rw[if_pos hB] at eF
    subst eF
    have hB':(200000<(block.length:Int))=True:=eq_true (by omega)
    simp -implicitDefEqProofs[hlt',hRl,hB']
   rw[if_neg hB] at eF
   have hB':(200000<(block.length:Int))=False:=eq_false (by omega)
   by_cases hk:kind=4
   ·have hk':(kind=4)=True:=eq_true hk
    by_cases hb0:block=[]
    ·rw[if_neg (by simp[hb0])] at eF
     subst eF
     have hb0':(block=[])=True:=eq_true hb0
     simp -implicitDefEqProofs[hlt',hRl,hB',hk',hb0']
    ·rw[if_pos ⟨hk,hb0⟩] at eF
     subst eF
     have hb0':(block=[])=False:=eq_false hb0
     simp -implicitDefEqProofs[hlt',hRl,hB',hk',hb0']
   ·rw[if_neg (by rintro⟨h,_⟩;exact hk h)] at eF
    subst eF
    have hk':(kind=4)=False:=eq_false hk
    simp -implicitDefEqProofs[hlt',hRl,hB',hk']
  ·rw[if_pos hN5] at eF
   subst eF
   have hN5':(F=0)=False:=eq_false hN5
   simp -implicitDefEqProofs[hN5']
 |cons oc ol =>
  simp -implicitDefEqProofs
  refine zah.of (fun _=>k2) rfl ?_
  cases N2
  ·rw[if_pos (.inr ⟨by simp,rfl⟩)] at eF
   subst eF
   simp -implicitDefEqProofs
  rw[if_neg (by simp)] at eF
  by_cases hid:oc::ol=id
  ·rw[if_pos (.inl hid)] at eF
   subst eF
   have hid':(oc::ol=id)=True:=eq_true hid
   simp -implicitDefEqProofs[hid']
  have hid':(oc::ol=id)=False:=eq_false hid
  by_cases hk1:kind=1
  ·rw[if_pos (.inr (.inr ⟨by simp,hk1⟩))] at eF
   subst eF
   have hk1':(kind=1)=True:=eq_true hk1
   simp -implicitDefEqProofs[hid',hk1']
  have hk1':(kind=1)=False:=eq_false hk1
  rw[if_neg (by rintro (h | ⟨h,_⟩ | ⟨_,h⟩);exact hid h;cases h;exact hk1 h)] at eF
  simp -implicitDefEqProofs[hid',hk1']
  refine zac.of k3 ?_
  cases N3
  ·rw[if_pos rfl] at eF
   subst eF
   simp -implicitDefEqProofs
  rw[if_neg (by decide)] at eF
  simp -implicitDefEqProofs
  refine zac.of k4 ?_
  cases N4
  ·rw[if_pos rfl] at eF
   subst eF
   simp -implicitDefEqProofs
  rw[if_neg (by decide)] at eF
  by_cases h30:30<heads.length
  ·rw[if_pos h30] at eF
   subst eF
   have h30':(30<(heads.length:Int))=True:=eq_true (by omega)
   simp -implicitDefEqProofs[h30']
  rw[if_neg h30] at eF
  have h30':(30<(heads.length:Int))=False:=eq_false (by omega)
  simp -implicitDefEqProofs[h30']
  refine zac.of k5 ?_
  by_cases hN5:N5=0
  ·rw[if_neg (by simpa using hN5)] at eF
   subst hN5
   simp -implicitDefEqProofs
   refine zaK.of Nat (fun i=>[(1,.box [.int .i64 kind,.str id,.str (oc::ol),.int .i64 time,.str key,.list 2 (heads.map Head.row),za7 block]),(80,.x (.one (.list 2 (heads.map Head.row)))),(81,.x (.one (.int .i64 heads.length))),(82,.x (.one (.int .i64 i)))])
    (fun i=>i≤heads.length∧∀j (h:j<heads.length),j<i→ownB heads[j]=false) (fun i=>heads.length-i) 0 ⟨Nat.zero_le _,fun j h h'=>by omega⟩ ?_ ?_
   ·simp
   rintro i ⟨hi,hp⟩
   by_cases hlt:i<heads.length
   ·have hlt':((i:Int)<(heads.length:Int))=True:=eq_true (by omega)
    have hwr:IntKind.i64.wrap ((i:Int)+1)=(i:Int)+1:=zaq _ (by omega)
    have hrow:∀h:Head,h.row=[.str h.name,.str h.value]:=fun _=>rfl
    simp -implicitDefEqProofs[hlt,hlt',hrow]
    refine zac.of zny ?_
    simp -implicitDefEqProofs
    refine zac.of (zdi heads[i].name) ?_
    simp -implicitDefEqProofs
    have k6:=zcz zJs (zbd heads[i].name)
    rw[←hob] at k6
    refine zac.of k6 ?_
    cases hc:ownB heads[i]
    ·simp -implicitDefEqProofs
     refine zaz.of (i+1) ⟨hlt,fun j h hj=>?_⟩ (by omega) ?_
     ·rcases Nat.lt_or_ge j i with h' | h'
      ·exact hp j h h'
      ·obtain rfl:j=i:=by omega
       exact hc
     ·simp[hwr]
    ·rw[if_pos (hA1 i hlt hc)] at eF
     subst eF
     simp -implicitDefEqProofs
   have hlt':((i:Int)<(heads.length:Int))=False:=eq_false (by omega)
   have hA:A=false:=hA2 (fun j h=>hp j h (by omega))
   rw[if_neg (by rw[hA];decide)] at eF
   by_cases hB:200000<block.length
   ·rw[if_pos hB] at eF
    subst eF
    have hB':(200000<(block.length:Int))=True:=eq_true (by omega)
    simp -implicitDefEqProofs[hlt',hRl,hB']
   rw[if_neg hB] at eF
   have hB':(200000<(block.length:Int))=False:=eq_false (by omega)
   by_cases hk:kind=4
   ·have hk':(kind=4)=True:=eq_true hk
    by_cases hb0:block=[]
    ·rw[if_neg (by simp[hb0])] at eF
     subst eF
     have hb0':(block=[])=True:=eq_true hb0
     simp -implicitDefEqProofs[hlt',hRl,hB',hk',hb0']
    ·rw[if_pos ⟨hk,hb0⟩] at eF
     subst eF
     have hb0':(block=[])=False:=eq_false hb0
     simp -implicitDefEqProofs[hlt',hRl,hB',hk',hb0']
   ·rw[if_neg (by rintro⟨h,_⟩;exact hk h)] at eF
    subst eF
    have hk':(kind=4)=False:=eq_false hk
    simp -implicitDefEqProofs[hlt',hRl,hB',hk']
  ·rw[if_pos hN5] at eF
   subst eF
   have hN5':(F=0)=False:=eq_false hN5
   simp -implicitDefEqProofs[hN5']
end Go.Proofs.YtlcmnclbljedfaaGreatDoor
namespace Go.Proofs.YtlcmnclbljedfaaGreatDoor
open Go Go.Ab
variable [Amb][zaY 0][zal Tryz.prog]
set_option maxRecDepth 100000
set_option maxHeartbeats 4000000
def rs0(b:List UInt8)(a:Nat):RS:=⟨b,a,0,[],[],0,[],[],0,[]⟩
def RS.good(b:List UInt8)(x:RS):Prop:=x.ok∧x.b=b∧0≤x.length∧x.length<1000000000
theorem zcg{b:List UInt8}{r:Bool×RS}{f:RS→Bool×RS}(h:r.2.good b)(hf:∀x:RS,x.good b→(f x).2.good b):(zjq r f).2.good b:=by
 obtain⟨c,x⟩:=r
 cases c
 ·exact h
 ·exact hf x h
theorem zlt{b:List UInt8}(w:List UInt8){x:RS}(h:x.good b):(zen w x).2.good b:=by
 have h0:=zmc h.1 w
 have:(zen w x).2.b=x.b∧(zen w x).2.length=x.length:=by
  show (zfm x w).b=_∧(zfm x w).length=_
  unfold zfm
  split<;>exact⟨rfl,rfl⟩
 exact⟨h0,this.1.trans h.2.1,by rw[this.2];exact h.2.2.1,by rw[this.2];exact h.2.2.2⟩
theorem zdr{b:List UInt8}(w:List UInt8)(F:List UInt8→Bool)(G:RS→List UInt8→RS){x:RS}(h:x.good b)(hG:∀s,(G x s).b=x.b∧(G x s).at_=x.at_)
  (hl:∀s,0≤(G x s).length∧(G x s).length<1000000000):(zgb w F G x).2.good b:=by
 have h0:=zeM h.1 w F G hG
 have:(zgb w F G x).2.b=x.b∧0≤(zgb w F G x).2.length∧(zgb w F G x).2.length<1000000000:=by
  show (zje x w F (G x)).b=_∧0≤(zje x w F (G x)).length∧(zje x w F (G x)).length<_
  unfold zje
  split
  ·split
   ·exact⟨(hG _).1,hl _⟩
   ·exact⟨(hG _).1,hl _⟩
  ·exact⟨rfl,h.2.2⟩
 exact⟨h0,this.1.trans h.2.1,this.2⟩
theorem zpL{b:List UInt8}:∀(n:Nat) {y:RS},y.good b→(zvr n y).2.good b
 |0,y,h=>h
 |n+1,y,h=>by
  unfold zvr
  split
  ·exact h
  ·split
   ·exact zpL n ⟨⟨h.1.1,zdl h.1.2⟩,h.2⟩
   ·exact h
theorem zA1{s:List UInt8}(h:zpV 9 s=true):ze7 s<1000000000:=by
 obtain⟨_,h1,h2⟩:=zfu h
 have:=zgh s h2
 have hp:(10:Nat) ^ s.length≤10 ^ 9:=Nat.pow_le_pow_right (by decide) h1
 omega
theorem zlF{b:List UInt8}{x:RS}(h:x.good b):(zf4 rdV zrq ztk x).2.good b:=by
 unfold zf4
 refine zcg (zlt _ h) fun x h=>zcg (zdr _ _ _ h (fun _=>⟨rfl,rfl⟩) (fun _=>h.2.2)) fun x h=>zcg ?_ fun x h=>zcg (zdr _ _ _ h (fun _=>⟨rfl,rfl⟩) (fun _=>h.2.2)) fun x h =>
  zcg (zdr _ _ _ h (fun _=>⟨rfl,rfl⟩) (fun _=>h.2.2)) fun x h=>zcg (zdr _ _ _ h (fun _=>⟨rfl,rfl⟩) (fun _=>h.2.2)) fun x h=>zcg (zpL _ h) fun x h =>
  zcg (zdr _ _ _ h (fun s=>by split<;>exact⟨rfl,rfl⟩) (fun s=>?_)) fun x h=>zcg (zdr _ _ _ h (fun _=>⟨rfl,rfl⟩) (fun _=>h.2.2)) fun x h=>zlt _ h
 ·unfold ofR
  split
  ·exact zdr _ _ _ h (fun _=>⟨rfl,rfl⟩) (fun _=>h.2.2)
  ·exact h
 ·split
  ·rename_i hn
   have:=zA1 hn
   exact⟨by simp,by simp only;omega⟩
  ·exact h.2.2
def zm9:Rec:=⟨0,[],[],0,[],[],[]⟩
def RS.zEv(x:RS)(k:List UInt8):Rec:=⟨x.kind,x.id,x.of,x.time,x.key,x.heads,k⟩
def zOI:List UInt8:=[13,10,13,10]
def zku(b:List UInt8)(a:Nat):Rec×Nat×Int:=
 let r:=zf4 rdV zrq ztk (rs0 b a)
 if r.1=false then (zm9,r.2.at_,10)
 else if b.length<r.2.at_+r.2.length.toNat+4 then (zm9,b.length,10)
 else if (b.drop (r.2.at_+r.2.length.toNat)).take 4≠zOI then (zm9,r.2.at_+r.2.length.toNat,10)
 else if zz6 ((b.drop r.2.at_).take r.2.length.toNat)≠r.2.digest then (zm9,r.2.at_,15)
 else if zlx (r.2.zEv ((b.drop r.2.at_).take r.2.length.toNat))≠0 then (zm9,a,zlx (r.2.zEv ((b.drop r.2.at_).take r.2.length.toNat)))
 else (r.2.zEv ((b.drop r.2.at_).take r.2.length.toNat),r.2.at_+r.2.length.toNat+4,0)
def zUv(r:Rec×Nat×Int):RV:=.tup [.agg r.1.row,.one (.int .i64 r.2.1),.one (.int .i64 r.2.2)]
theorem zHU(l:List Head):leC (hdC l) (.list 2 (l.map Head.row)):=by
 unfold hdC
 split
 ·rename_i h;subst h;exact .inr ⟨rfl,2,rfl⟩
 ·exact .inl rfl
@[simp]theorem zVr(l:List Head):okC (.list 2 (l.map Head.row)) (hdC l)=True:=by
 unfold hdC
 split
 ·rename_i h;subst h;simp
 ·simp
theorem zia(x:RS)(k:List UInt8):zab Tryz.prog 76 [.agg [.int .i64 x.kind,.str x.id,.str x.of,.int .i64 x.time,.str x.key,hdC x.heads,za7 k]] (.x (.one (.int .i64 (zlx (x.zEv k))))):=
 zab.le1 (cs':=(x.zEv k).row) ⟨.inl rfl,.inl rfl,.inl rfl,.inl rfl,.inl rfl,zHU _,.inl rfl,trivial⟩ (zb6 _)
theorem znk(b:List UInt8)(a:Nat)(hb:b.length≤16777216)(ha:a≤b.length):zab Tryz.prog 48 [.one (za7 b),.one (.int .i64 a)] (zUv (zku b a)):=by
 have hok0:(rs0 b a).ok0:=⟨⟨hb,ha⟩,rfl⟩
 have k1:=zqL rdV zrq zf7 ztk (fun x hx=>⟨zq0 x hx,zyH _ _ hx.1⟩) (rs0 b a) hok0
 have hg:(zf4 rdV zrq ztk (rs0 b a)).2.good b:=zlF ⟨hok0.1,rfl,by simp[rs0],by simp[rs0]⟩
 obtain⟨R,eR⟩:∃R,R=zku b a:=⟨_,rfl⟩
 rw[←eR]
 unfold zku at eR
 have hc0:(rs0 b a).cells=[za7 b,.int .i64 a,.int .i64 0,.str [],.str [],.int .i64 0,.str [],.nil,.nil,.int .i64 0,.str []]:=by simp[RS.cells,rs0,hdC]
 rw[hc0] at k1
 generalize zf4 rdV zrq ztk (rs0 b a)=r at *
 obtain⟨B,x⟩:=r
 dsimp only at *
 obtain⟨⟨_,hx2⟩,hxb,hl0,hl1⟩:=hg
 obtain⟨L,eL⟩:∃L:Nat,x.length=(L:Int):=⟨x.length.toNat,by omega⟩
 rw[eL,Int.toNat_natCast] at eR
 have hx2':x.at_≤b.length:=by rw[←hxb];exact hx2
 have hRl:=zbs b
 have hw1:IntKind.i64.wrap ((x.at_:Int)+(L:Int))=(x.at_:Int)+(L:Int):=zaq _ (by omega)
 have hw2:IntKind.i64.wrap ((x.at_:Int)+(L:Int)+4)=(x.at_:Int)+(L:Int)+4:=zaq _ (by omega)
 unfold zUv
 refine zab.of mixed (fn:=Tryz.f48) (by kernel_rfl) (by kernel_rfl) rfl (by kernel_rfl) (by simp[Tryz.f48]) (fun hok=>?_)
 simp -implicitDefEqProofs
 refine zb0.of k1 ?_
 unfold RS.cells
 rw[eL,hxb]
 cases B
 ·rw[if_pos rfl] at eR
  subst eR
  simp -implicitDefEqProofs
  refine ztD.r ⟨[13],by kernel_rfl,?_⟩
  simp -implicitDefEqProofs[zm9,Rec.row]
 rw[if_neg (by decide)] at eR
 by_cases h1:b.length<x.at_+L+4
 ·have h1':((b.length:Int)<(x.at_:Int)+(L:Int)+4)=True:=eq_true (by omega)
  rw[if_pos h1] at eR
  subst eR
  simp -implicitDefEqProofs[hw1,hw2,h1',zm9,Rec.row,hRl]
 rw[if_neg h1] at eR
 have h1':((b.length:Int)<(x.at_:Int)+(L:Int)+4)=False:=eq_false (by omega)
 have hcut:cutAt (zad b) ((x.at_:Int)+(L:Int)) ((x.at_:Int)+(L:Int)+4)=zad ((b.drop (x.at_+L)).take 4):=by
  have:=zi5 (b:=b) (a:=x.at_+L) (i:=x.at_+L+4) (by omega)
  rw[show x.at_+L+4-(x.at_+L)=4 by omega] at this
  exact_mod_cast this
 have hcut2:cutAt (zad b) (x.at_:Int) ((x.at_:Int)+(L:Int))=zad ((b.drop x.at_).take L):=by
  have:=zi5 (b:=b) (a:=x.at_) (i:=x.at_+L) (by omega)
  rw[show x.at_+L-x.at_=L by omega] at this
  exact_mod_cast this
 have g1:(0≤(x.at_:Int)+(L:Int))=True:=eq_true (by omega)
 have g2:((x.at_:Int)+(L:Int)+4≤(b.length:Int))=True:=eq_true (by omega)
 have g3:((x.at_:Int)+(L:Int)≤(x.at_:Int)+(L:Int)+4)=True:=eq_true (by omega)
 have g4:((x.at_:Int)+(L:Int)≤(b.length:Int))=True:=eq_true (by omega)
 have g5:((x.at_:Int)≤(x.at_:Int)+(L:Int))=True:=eq_true (by omega)
 generalize hT:(b.drop (x.at_+L)).take 4=T at *
 by_cases h2:T=zOI
 ·rw[if_neg (by simpa using h2)] at eR
  subst h2
  have k2:=zoh ((b.drop x.at_).take L) (by simp;omega)
  have k3:=zgx ((b.drop x.at_).take L) (by simp;omega)
  have k4:=zia x ((b.drop x.at_).take L)
  have hbl:((b.drop x.at_).take L).length=L:=by simp;omega
  generalize (b.drop x.at_).take L=W at *
  unfold zOI at hcut
  have hs1:=ziH [13,10,13,10]
  have hs2:=zkU [13,10,13,10]
  simp -implicitDefEqProofs[hw1,hw2,h1',hRl,hcut,hcut2,g1,g2,g3,g4,g5,hs1,hs2]
  refine zac.of k2 ?_
  simp -implicitDefEqProofs
  refine zac.of k3 ?_
  by_cases h3:zz6 W=x.digest
  ·rw[if_neg (by simpa using h3)] at eR
   simp -implicitDefEqProofs[h3]
   refine zac.of k4 ?_
   generalize zlx (x.zEv W)=F at *
   by_cases h4:F=0
   ·rw[if_neg (by simpa using h4)] at eR
    subst eR
    subst h4
    simp -implicitDefEqProofs[RS.zEv,Rec.row,hw2]
   ·rw[if_pos h4] at eR
    subst eR
    simp -implicitDefEqProofs[h4,zm9,Rec.row]
  ·rw[if_pos h3] at eR
   subst eR
   simp -implicitDefEqProofs[h3]
   refine ztD.r ⟨[13],by kernel_rfl,?_⟩
   simp -implicitDefEqProofs[zm9,Rec.row]
 ·rw[if_pos h2] at eR
  subst eR
  have hs1:=ziH T
  have hs2:=zkU T
  unfold zOI at h2
  simp -implicitDefEqProofs[hw1,hw2,h1',hRl,hcut,g1,g2,g3,hs1,hs2,h2,zm9,Rec.row]
end Go.Proofs.YtlcmnclbljedfaaGreatDoor
namespace Go.Proofs.YtlcmnclbljedfaaGreatDoor
open Go Go.Ab
variable [Amb]
theorem zec:∀a:List UInt8,ltB a a=false
 |[]=>rfl
 |a::x=>by
  have ih:=zec x
  unfold ltB at ih ⊢
  simp[Op.bytesLess,ih]
theorem zgj:∀{a b c:List UInt8},ltB a b=true→ltB b c=true→ltB a c=true
 |a,b,[],_,h2=>by unfold ltB at h2;cases b<;>simp[Op.bytesLess] at h2
 |a,[],c::z,h1,_=>by unfold ltB at h1;cases a<;>simp[Op.bytesLess] at h1
 |[],b::y,c::z,_,_=>by simp[ltB,Op.bytesLess]
 |a::x,b::y,c::z,h1,h2=>by
  have ih:=@zgj x y z
  unfold ltB at h1 h2 ih ⊢
  simp only[Op.bytesLess,Bool.or_eq_true,decide_eq_true_eq,Bool.and_eq_true,beq_iff_eq] at h1 h2 ⊢
  rcases h1 with h1 | ⟨rfl,h1⟩
  ·rcases h2 with h2 | ⟨rfl,h2⟩
   ·exact .inl (UInt8.lt_trans h1 h2)
   ·exact .inl h1
  ·rcases h2 with h2 | ⟨rfl,h2⟩
   ·exact .inl h2
   ·exact .inr ⟨rfl,ih h1 h2⟩
theorem zmR:∀{a b:List UInt8},ltB a b=false→ltB b a=false→a=b
 |[],[],_,_=>rfl
 |[],b::y,h,_=>by simp[ltB,Op.bytesLess] at h
 |a::x,[],_,h=>by simp[ltB,Op.bytesLess] at h
 |a::x,b::y,h1,h2=>by
  have ih:=@zmR x y
  unfold ltB at h1 h2 ih
  simp only[Op.bytesLess,Bool.or_eq_false_iff,decide_eq_false_iff_not] at h1 h2
  have hab:a=b:=UInt8.le_antisymm (UInt8.not_lt.1 h2.1) (UInt8.not_lt.1 h1.1)
  subst hab
  simp only[BEq.rfl,Bool.true_and] at h1 h2
  rw[ih h1.2 h2.2]
theorem zyn{a b:List UInt8}(h:ltB a b=true):ltB b a=false:=by
 cases hb:ltB b a with
 |false=>rfl
 |true=>have:=zgj h hb;rw[zec] at this;cases this
theorem zpl{a b:List UInt8}:Lib.compareBytes a b<0↔ltB a b=true:=by
 rw[zrv]
 split
 ·simp[*]
 ·rename_i h
  split<;>simp[h]
theorem zlr{a b:List UInt8}:Lib.compareBytes a b=0↔a=b:=by
 rw[zrv]
 split
 ·rename_i h
  simp
  rintro rfl
  rw[zec] at h;cases h
 ·split<;>simp[*]
theorem zts{a b:Int}:zk2 a b<0↔a<b:=by unfold zk2;split<;>(try split)<;>omega
theorem zwi{a b:Int}:zk2 a b=0↔a=b:=by unfold zk2;split<;>(try split)<;>omega
theorem ztO{a b c d:Int}:zbS [a,b,c,d]<0↔a<0∨(a=0∧(b<0∨(b=0∧(c<0∨(c=0∧d<0))))):=by
 simp only[zbS]
 split<;>(try split)<;>(try split)<;>(try split)<;>omega
def Before(a b:Entry):Prop:=ltB a.key b.key=true∨(a.key=b.key∧(a.time<b.time∨(a.time=b.time∧(ltB a.file b.file=true∨(a.file=b.file∧a.lo<b.lo)))))
theorem zBj{a b:Entry}:zPb a b<0↔Before a b:=by
 unfold zPb cmpL Before
 rw[ztO,zpl,zlr,zts,zwi,zpl,zlr,zts]
theorem Before.trans{a b c:Entry}(h1:Before a b)(h2:Before b c):Before a c:=by
 unfold Before at *
 rcases h1 with h1 | ⟨e1,h1⟩
 ·rcases h2 with h2 | ⟨e2,_⟩
  ·exact .inl (zgj h1 h2)
  ·exact .inl (e2▸h1)
 ·rcases h2 with h2 | ⟨e2,h2⟩
  ·exact .inl (e1▸h2)
  ·refine .inr ⟨e1.trans e2,?_⟩
   rcases h1 with h1 | ⟨t1,h1⟩
   ·rcases h2 with h2 | ⟨t2,_⟩<;>exact .inl (by omega)
   ·rcases h2 with h2 | ⟨t2,h2⟩
    ·exact .inl (by omega)
    ·refine .inr ⟨t1.trans t2,?_⟩
     rcases h1 with h1 | ⟨f1,h1⟩
     ·rcases h2 with h2 | ⟨f2,_⟩
      ·exact .inl (zgj h1 h2)
      ·exact .inl (f2▸h1)
     ·rcases h2 with h2 | ⟨f2,h2⟩
      ·exact .inl (f1▸h2)
      ·exact .inr ⟨f1.trans f2,by omega⟩
abbrev Sorted(l:List Entry):Prop:=l.Pairwise Before
theorem zgy:∀{l:List Entry} {p:Option Entry},zhL p l=0→Sorted l∧(∀q,p=some q→∀x∈l,Before q x)∧∀x∈l,zgk x=0
 |[],p,_=>⟨.nil,fun q _ x hx=>(by cases hx),fun x hx=>(by cases hx)⟩
 |e::r,none,h=>by
  simp only[zhL] at h
  split at h
  ·rename_i he
   obtain⟨h1,h2,h3⟩:=zgy h
   exact⟨.cons (h2 e rfl) h1,fun q hq=>(by cases hq),fun x hx=>by rcases List.mem_cons.1 hx with rfl | hx;exact he;exact h3 x hx⟩
  ·exact absurd h (by assumption)
 |e::r,some q,h=>by
  simp only[zhL] at h
  split at h
  ·rename_i he
   split at h
   ·cases h
   ·split at h
    ·cases h
    ·rename_i h4 h5
     obtain⟨h1,h2,h3⟩:=zgy h
     have hqe:Before q e:=zBj.1 (by omega)
     refine⟨.cons (h2 e rfl) h1,fun q' hq=>?_,fun x hx=>by rcases List.mem_cons.1 hx with rfl | hx;exact he;exact h3 x hx⟩
     injection hq with hq
     subst hq
     intro x hx
     rcases List.mem_cons.1 hx with rfl | hx
     ·exact hqe
     ·exact hqe.trans (h2 e rfl x hx)
  ·exact absurd h (by assumption)
theorem zgJ{l:List Entry}(h:zbB l=0):Sorted l∧∀x∈l,zgk x=0:=by
 unfold zbB at h
 split at h
 ·cases h
 ·obtain⟨h1,_,h2⟩:=zgy h;exact⟨h1,h2⟩
theorem Before.key{a b:Entry}(h:Before a b):ltB b.key a.key=false:=by
 rcases h with h | ⟨e,_⟩
 ·exact zyn h
 ·rw[e];exact zec _
set_option maxRecDepth 100000
set_option maxHeartbeats 4000000
abbrev zNW(f:Nat):XV:=.one (.atom (.func (.func f) #[] #[]))
theorem zqn(e:Entry)(k:List UInt8):zab Tryz.prog 138 [.agg e.row,.one (.str k)] (.x (.one (.int .i64 (Lib.compareBytes e.key k)))):=by
 refine zab.of mixed (fn:=Tryz.f138) (by kernel_rfl) (by kernel_rfl) rfl (by kernel_rfl) (by simp[Tryz.f138]) (fun hok=>?_)
 simp -implicitDefEqProofs +contextual[-Bool.and_eq_false_imp,Bool.and_eq_false_iff]
 refine zac.of (strings_Compare _ _) ?_
 simp -implicitDefEqProofs +contextual[-Bool.and_eq_false_imp,Bool.and_eq_false_iff]
def lowerB(l:List Entry)(k:List UInt8):Nat:=(l.takeWhile fun e=>ltB e.key k).length
theorem zqH{l:List Entry}{k:List UInt8}{i:Nat}(hi:i≤l.length)(h1:∀(j:Nat) (x:Entry),j<i→l[j]?=some x→ltB x.key k=true)(h2:∀x,l[i]?=some x→ltB x.key k=false):lowerB l k=i:=by
 induction l generalizing i with
 |nil=>simp at hi;subst hi;rfl
 |cons a r ih =>
  unfold lowerB at ih ⊢
  cases i with
  |zero =>
   have:=h2 a rfl
   rw[List.takeWhile_cons_of_neg (by simp[this])];rfl
  |succ i =>
   have:=h1 0 a (by omega) rfl
   rw[List.takeWhile_cons_of_pos (by exact this),List.length_cons,ih (by simpa using hi) (fun j x hj hx=>h1 (j+1) x (by omega) (by simpa using hx)) (fun x hx=>h2 x (by simpa using hx))]
theorem BinarySearch(l:List Entry)(k:List UInt8)(hs:Sorted l)(hb:l.length≤3000):zab Tryz.prog 137 [entries l,.one (.str k),zNW 138] (.tup [.one (.int .i64 (lowerB l k)),.one (.bool (match l[lowerB l k]? with | some x=>decide (x.key=k) | none=>false))]):=by
 refine zab.of mixed (fn:=Tryz.f137) (by kernel_rfl) (by kernel_rfl) rfl (by kernel_rfl) (by simp[Tryz.f137]) (fun hok=>?_)
 have hmono:∀i j (hj:j<l.length) (hij:i≤j),ltB l[j].key k=true→ltB l[i].key k=true:=by
  intro i j hj hij h
  by_cases he:i=j
  ·subst he;exact h
  ·have:=(List.pairwise_iff_getElem.1 hs) i j (by omega) hj (by omega)
   cases hb:ltB l[i].key k with
   |true=>rfl
   |false =>
    have h2:=this.key
    cases hc:ltB l[i].key l[j].key with
    |true=>rw[zgj hc h] at hb;cases hb
    |false=>rw[zmR hc h2] at hb;rw[hb] at h;cases h
 simp -implicitDefEqProofs +contextual[-Bool.and_eq_false_imp,Bool.and_eq_false_iff]
 refine zaK.of (Nat×Nat) (fun i=>[(0,.x (.one (.list 9 (l.map Entry.row)))),(1,.x (.one (.str k))),(2,.x (zNW 138)),(8,.x (.one (.int .i64 l.length))),(9,.x (.one (.int .i64 i.1))),(10,.x (.one (.int .i64 i.2)))])
  (fun i=>i.1≤i.2∧i.2≤l.length∧(∀(j:Nat) (h:j<l.length),j<i.1→ltB l[j].key k=true)∧(∀(j:Nat) (h:j<l.length),i.2≤j→ltB l[j].key k=false)) (fun i=>i.2-i.1) (0,l.length) ⟨Nat.zero_le _,Nat.le_refl _,by intro j h hj;omega,by intro j h hj;simp only at hj;omega⟩ ?_ ?_
 ·simp
 rintro⟨i,j⟩ ⟨h1,h2,h3,h4⟩
 simp only at h1 h2 h3 h4
 by_cases hlt:i<j
 ·have hm:IntKind.i64.wrap ((IntKind.u64.wrap (IntKind.i64.wrap ((i:Int)+j))).fdiv (2 ^ min 1 IntKind.u64.bits))=(((i+j) / 2:Nat):Int):=by
   rw[zaq ((i:Int)+j) (by omega)]
   have:IntKind.u64.wrap ((i:Int)+j)=(i:Int)+j:=by simp[IntKind.wrap,IntKind.signed,IntKind.bits];omega
   rw[this]
   have:((i:Int)+j).fdiv (2 ^ min 1 IntKind.u64.bits)=((i+j) / 2:Nat):=by
    show ((i:Int)+j).fdiv 2=_
    rw[Int.fdiv_eq_ediv_of_nonneg _ (by omega)];omega
   rw[this]
   exact zaq _ (by omega)
  obtain⟨m,em⟩:∃m,m=(i+j) / 2:=⟨_,rfl⟩
  rw[←em] at hm
  have hml:m<l.length:=by omega
  simp -implicitDefEqProofs +contextual[-Bool.and_eq_false_imp,Bool.and_eq_false_iff,hlt,hm,hml]
  refine zac.of (zqn _ _) ?_
  have hc:=zpl (a:=l[m].key) (b:=k)
  simp -implicitDefEqProofs +contextual[-Bool.and_eq_false_imp,Bool.and_eq_false_iff]
  refine⟨fun h=>?_,fun h=>?_⟩
  ·refine zaz.of (m+1,j) ⟨by simp only;omega,h2,fun x hx hxm=>hmono x m hml (by simp only at hxm;omega) (hc.1 h),h4⟩ (by simp only;omega) ?_
   simp
   exact zaq _ (by omega)
  ·refine zaz.of (i,m) ⟨by simp only;omega,by simp only;omega,h3,fun x hx hxm=>?_⟩ (by simp only;omega) ?_
   ·simp only at hxm
    cases hb:ltB l[x].key k with
    |false=>rfl
    |true=>have:=hmono m x hx hxm hb;rw[←hc] at this;omega
   ·simp
 ·have hij:i=j:=by omega
  subst hij
  have hlo:lowerB l k=i:=zqH h2 (fun x y hx hy=>by
   obtain⟨hlt',rfl⟩:=List.getElem?_eq_some_iff.1 hy
   exact h3 x hlt' hx) (fun y hy=>by
   obtain⟨hlt',rfl⟩:=List.getElem?_eq_some_iff.1 hy
   exact h4 i hlt' (Nat.le_refl _))
  rw[hlo]
  by_cases hil:i<l.length
  ·simp -implicitDefEqProofs +contextual[-Bool.and_eq_false_imp,Bool.and_eq_false_iff,hil]
   refine zah.of (fun _=>zqn _ _) rfl ?_
   have hc:=zlr (a:=l[i].key) (b:=k)
   simp -implicitDefEqProofs +contextual[-Bool.and_eq_false_imp,Bool.and_eq_false_iff,hil]
   rw[Bool.eq_iff_iff]
   simp[hc]
  ·simp -implicitDefEqProofs[hil]
   refine zah.of (r:=.x (.one (.int .i64 0))) (fun h=>by cases h) rfl ?_
   simp -implicitDefEqProofs +contextual[-Bool.and_eq_false_imp,Bool.and_eq_false_iff,hil]
def zds(l:List Entry)(k:List UInt8):List Entry:=l.filter fun e=>decide (e.key=k)
theorem takeWhile_eq{α:Type}(p:α→Bool):∀(l:List α) (i:Nat),i≤l.length→(∀(j:Nat) (x:α),j<i→l[j]?=some x→p x=true)→(∀x,l[i]?=some x→p x=false)→l.takeWhile p=l.take i
 |[],i,hi,_,_=>by simp
 |a::r,0,_,_,h2=>by rw[List.takeWhile_cons_of_neg (by simp[h2 a rfl])];rfl
 |a::r,i+1,hi,h1,h2=>by
  rw[List.takeWhile_cons_of_pos (h1 0 a (by omega) rfl),takeWhile_eq p r i (by simpa using hi) (fun j x hj hx=>h1 (j+1) x (by omega) (by simpa using hx)) (fun x hx=>h2 x (by simpa using hx))]
  rfl
theorem ze0{k:List UInt8}:∀{l:List Entry},Sorted l→zds l k=(l.drop (lowerB l k)).takeWhile fun e=>decide (e.key=k)
 |[],_=>rfl
 |a::r,h=>by
  have hr:=List.pairwise_cons.1 h
  unfold zds lowerB
  by_cases hlt:ltB a.key k=true
  ·have hne:¬a.key=k:=by rintro rfl;rw[zec] at hlt;cases hlt
   rw[List.takeWhile_cons_of_pos (by exact hlt),List.length_cons,List.drop_succ_cons,List.filter_cons_of_neg (by simp[hne])]
   exact ze0 hr.2
  ·rw[List.takeWhile_cons_of_neg (by exact hlt),List.length_nil,List.drop_zero]
   by_cases he:a.key=k
   ·rw[List.filter_cons_of_pos (by simp[he]),List.takeWhile_cons_of_pos (by simp[he])]
    congr 1
    have:=ze0 (k:=k) hr.2
    unfold zds at this
    rw[this]
    have h0:lowerB r k=0:=zqH (Nat.zero_le _) (fun j x hj=>by omega) (fun x hx=>by
     have:=(hr.1 x (List.mem_of_getElem? hx)).key
     rw[he] at this;exact this)
    rw[h0,List.drop_zero]
   ·rw[List.filter_cons_of_neg (by simp[he]),List.takeWhile_cons_of_neg (by simp[he])]
    rw[List.filter_eq_nil_iff]
    intro x hx
    simp only[decide_eq_true_eq]
    rintro rfl
    have h1:=(hr.1 x hx).key
    exact he (zmR (by simpa using hlt) h1)
theorem zwk(l:List Entry)(k:List UInt8)(hs:Sorted l)(hb:l.length≤3000):zab Tryz.prog 81 [entries l,.one (.str k)] (.x (entries (zds l k))):=by
 refine zab.of mixed (fn:=Tryz.f81) (by kernel_rfl) (by kernel_rfl) rfl (by kernel_rfl) (by simp[Tryz.f81]) (fun hok=>?_)
 simp -implicitDefEqProofs +contextual[-Bool.and_eq_false_imp,Bool.and_eq_false_iff]
 refine zac.of (BinarySearch l k hs hb) ?_
 have hlo:lowerB l k≤l.length:=by
  unfold lowerB
  exact(List.takeWhile_sublist _).length_le
 rw[ze0 hs]
 generalize lowerB l k=lo at hlo
 simp -implicitDefEqProofs +contextual[-Bool.and_eq_false_imp,Bool.and_eq_false_iff]
 refine zaK.of Nat (fun i=>[(0,.x (.one (.list 9 (l.map Entry.row)))),(1,.x (.one (.str k))),(5,.x (.one (.int .i64 lo))),(7,.x (.one (.int .i64 i)))]) (fun i=>lo≤i∧i≤l.length∧∀(j:Nat) (x:Entry),lo≤j→j<i→l[j]?=some x→x.key=k) (fun i=>l.length-i) lo ⟨Nat.le_refl _,hlo,fun j x h1 h2=>by omega⟩ ?_ ?_
 ·simp
 rintro i ⟨h1,h2,h3⟩
 have hend:(∀x,l[i]?=some x→¬x.key=k)→(l.drop lo).takeWhile (fun e=>decide (e.key=k))=(l.take i).drop lo:=by
  intro hx
  rw[takeWhile_eq _ (l.drop lo) (i-lo) (by simp;omega) (fun j x hj hjx=>by
   rw[List.getElem?_drop] at hjx
   simp[h3 (lo+j) x (by omega) (by omega) hjx]) (fun x hjx=>by
   rw[List.getElem?_drop,show lo+(i-lo)=i by omega] at hjx
   simp[hx x hjx])]
  rw[List.drop_take]
 by_cases hlt:i<l.length
 ·simp -implicitDefEqProofs +contextual[-Bool.and_eq_false_imp,Bool.and_eq_false_iff,hlt]
  refine⟨fun he=>zaz.of (i+1) ⟨by omega,hlt,fun j x hj1 hj2 hjx=>?_⟩ (by omega) ?_,fun hne=>?_⟩
  ·by_cases hji:j=i
   ·subst hji
    rw[List.getElem?_eq_getElem hlt] at hjx
    injection hjx with hjx
    rw[←hjx];exact he
   ·exact h3 j x hj1 (by omega) hjx
  ·simp
   exact zaq _ (by omega)
  ·rw[hend (fun x hx=>by rw[List.getElem?_eq_getElem hlt] at hx;injection hx with hx;rw[←hx];exact hne)]
   refine⟨by omega,?_⟩
   simp[cutAt]
 ·simp -implicitDefEqProofs[hlt]
  rw[hend (fun x hx=>by rw[List.getElem?_eq_none (by omega)] at hx;cases hx)]
  refine⟨by omega,?_⟩
  simp[cutAt]
structure Life where
 key:List UInt8
 many:Int
 other:Int
 first:Int
 last:Int
 deriving DecidableEq
def Life.row(x:Life):List CV:=[.str x.key,.int .i64 x.many,.int .i64 x.other,.int .i64 x.first,.int .i64 x.last]
abbrev lives(l:List Life):XV:=.one (.list 5 (l.map Life.row))
def kvs(ks:List (List UInt8)):List (XV×XV):=ks.map fun d=>(.one (.str d),.one (.bool true))
theorem zpE(d:List UInt8):∀(ks:List (List UInt8)) (i:Nat),(d∉ks→zbz .s (.one (.str d)) (kvs ks) i=some none)∧(d∈ks→∃j,zbz .s (.one (.str d)) (kvs ks) i=some (some (i+j))∧ks[j]?=some d)
 |[],i=>⟨fun _=>rfl,fun h=>by cases h⟩
 |k::r,i=>by
  have ih:=zpE d r (i+1)
  simp only[kvs,List.map_cons,zbz,zl6]
  by_cases h:d=k
  ·subst h
   simp only[BEq.rfl]
   exact⟨fun h=>absurd (List.mem_cons_self) h,fun _=>⟨0,rfl,rfl⟩⟩
  ·have hb:(d==k)=false:=by simpa using h
   rw[hb]
   refine⟨fun hn=>ih.1 (fun hm=>hn (List.mem_cons_of_mem _ hm)),fun hm=>?_⟩
   obtain⟨j,h1,h2⟩:=ih.2 ((List.mem_cons.1 hm).resolve_left h)
   exact⟨j+1,by rw[show i+(j+1)=i+1+j by omega];exact h1,h2⟩
end Go.Proofs.YtlcmnclbljedfaaGreatDoor
namespace Go.Proofs.YtlcmnclbljedfaaGreatDoor
open Go Go.Ab
variable [Amb][zaY 0][zal Tryz.prog]
set_option maxRecDepth 100000
set_option maxHeartbeats 4000000
@[simp]theorem zTX(e z:Nat)(xs:List (List CV)):RV.av (.own e z xs)=.own e z xs:=rfl
theorem zq2:∀{l:List Head},znM l=0→∀h∈l,zs7 h.name=true∧zsk h.value=true
 |[],_,h,hm=>by cases hm
 |x::r,e,h,hm=>by
  have hx:zuk x=if zs7 x.name=false then 5 else if zsk x.value=false then 3 else 0:=rfl
  unfold znM at e
  have e1:zuk x=0:=by
   by_cases h0:zuk x=0
   ·exact h0
   ·rw[if_neg h0] at e;exact absurd e h0
  rw[if_pos e1] at e
  rcases List.mem_cons.1 hm with rfl | hm
  ·rw[e1] at hx
   cases h1:zs7 h.name<;>cases h2:zsk h.value<;>rw[h1,h2] at hx<;>first | exact⟨rfl,rfl⟩ | (simp at hx)
  ·exact zq2 e h hm
theorem zwB{l:List Head}(h:zd0 l=0):∀x∈l,x.name.length≤40∧x.value.length≤1000:=by
 intro x hx
 unfold zd0 at h
 split at h
 ·cases h
 ·obtain⟨h1,h2⟩:=zq2 h x hx
  unfold zs7 inB at h1
  unfold zsk at h2
  simp only[Bool.and_eq_true,decide_eq_true_eq] at h1 h2
  exact⟨by omega,h2.1⟩
theorem zq7:∀{l:List Head},(∀x∈l,x.name.length≤40∧x.value.length≤1000)→(zbU l).length≤1044*l.length
 |[],_=>by simp[zbU]
 |h::r,hx=>by
  have h1:=hx h (by simp)
  have ih:=zq7 (l:=r) (fun x hm=>hx x (by simp[hm]))
  unfold zbU at ih ⊢
  simp only[List.flatMap_cons,List.length_append,ziP,List.length_cons]
  omega
structure Rec.Right(r:Rec):Prop where
 kind1:1≤r.kind
 kind5:r.kind≤5
 id:nameB r.id=true
 of:r.of=[]∨nameB r.of=true
 moment:zbf r.time=true
 key:zuu r.key=true
 heads30:r.heads.length≤30
 heads:zd0 r.heads=0
 own:r.heads.any ownB=false
 block:r.block.length≤200000
theorem zee{r:Rec}(h:zlx r=0):r.Right:=by
 unfold zlx at h
 split at h
 ·cases h
 rename_i h1
 split at h
 ·cases h
 rename_i h2
 split at h
 ·cases h
 rename_i h3
 split at h
 ·cases h
 rename_i h4
 split at h
 ·cases h
 rename_i h5
 split at h
 ·cases h
 rename_i h6
 split at h
 ·rename_i h7;exact absurd h h7
 rename_i h7
 split at h
 ·cases h
 rename_i h8
 split at h
 ·cases h
 rename_i h9
 refine⟨by omega,by omega,?_,?_,by simpa using h4,by simpa using h5,by omega,by simpa using h7,by simpa using h8,by omega⟩
 ·cases e:nameB r.id with
  |true=>rfl
  |false=>exact absurd (.inl e) h2
 ·by_cases e:r.of=[]
  ·exact .inl e
  ·right
   cases e2:nameB r.of with
   |true=>rfl
   |false=>exact absurd (.inr ⟨e,e2⟩) h2
theorem zrm{s:List UInt8}(h:nameB s=true):1≤s.length∧s.length≤40:=by
 unfold nameB inB at h
 simp only[Bool.and_eq_true,decide_eq_true_eq] at h
 omega
theorem zzz{s:List UInt8}(h:zuu s=true):1≤s.length∧s.length≤2000:=by
 unfold zuu zqY inB at h
 simp only[Bool.and_eq_true,decide_eq_true_eq] at h
 omega
theorem zyj(k:Int):(zq4 k).length≤7:=by
 unfold zq4
 rw[List.getD_eq_getElem?_getD]
 generalize (k-1).toNat=n
 match n with
 |0=>decide
 |1=>decide
 |2=>decide
 |3=>decide
 |4=>decide
 |n+5=>simp[zfr]
theorem zpg{r:Rec}(h:r.Right):(ztW r).length≤300000:=by
 have h1:=(zrm h.id).2
 have h2:r.of.length≤40:=by
  rcases h.of with e | e
  ·rw[e];simp
  ·exact(zrm e).2
 have h3:=zyj r.kind
 have h4:=(zwF r.time h.moment).1
 have h5:=(zzz h.key).2
 have h6:=zq7 (zwB h.heads)
 have h7:=h.heads30
 have hb:=h.block
 have h8:(zrK r.block.length).length≤21:=zrn (by unfold I64;omega)
 have h9:=zzI r.block
 have w2:(wr2 r).length≤(wr1 r).length+(zd4 [111,102] r.of).length:=by unfold wr2;split<;>simp
 unfold ztW wr8 wr7 wr6 wr5 wr4 wr3
 unfold wr1 at w2
 simp only[List.length_append,ziP,List.length_cons,List.length_nil] at w2 ⊢
 have:zFW.length=8:=rfl
 omega
theorem zuF{r:Rec}(h:r.Right):r.fits:=⟨h.kind1,h.kind5,h.moment,by have:=zpg h;omega⟩
def zey(l:List Rec):XV:=.one (.list 7 (l.map Rec.row))
def zr7:List (List UInt8)→Nat→List Rec→Int
 |_,n,[]=>if 500000<n then 2 else 0
 |seen,n,r::l=>if zlx r≠0 then zlx r else if r.id∈seen then 7 else zr7 (seen++[r.id]) (n+(ztW r).length) l
def zhh(l:List Rec):Int:=if 1000<l.length then 2 else zr7 [] 0 l
def ztP(l:List Rec):Nat:=(l.map fun r=>(ztW r).length).sum
theorem zxa:∀{l:List Rec},(∀r∈l,zlx r=0)→ztP l≤300000*l.length
 |[],_=>by simp[ztP]
 |r::l,h=>by
  have h1:=zpg (zee (h r (by simp)))
  have ih:=zxa (l:=l) (fun x hx=>h x (by simp[hx]))
  unfold ztP at ih ⊢
  simp only[List.map_cons,List.sum_cons,List.length_cons]
  omega
theorem zrk(l:List Rec)(r:Rec):ztP (l++[r])=ztP l+(ztW r).length:=by simp[ztP]
theorem zf9(l:List Rec):zab Tryz.prog 37 [zey l] (.x (.one (.int .i64 (zhh l)))):=by
 obtain⟨F,eF⟩:∃F,F=zhh l:=⟨_,rfl⟩
 rw[←eF]
 unfold zhh at eF
 unfold zey
 refine zab.of mixed (fn:=Tryz.f37) (by kernel_rfl) (by kernel_rfl) rfl (by kernel_rfl) (by simp[Tryz.f37]) (fun hok=>?_)
 by_cases h1:1000<l.length
 ·rw[if_pos h1] at eF
  subst eF
  have h1':(1000<(l.length:Int))=True:=eq_true (by omega)
  simp -implicitDefEqProofs[h1']
 rw[if_neg h1] at eF
 have h1':(1000<(l.length:Int))=False:=eq_false (by omega)
 simp -implicitDefEqProofs[h1']
 refine zaK.of Nat (fun i=>[(3,.mp i (List.range i) (kvs ((l.take i).map Rec.id))),(4,.x (.one (.int .i64 (ztP (l.take i))))),(12,.x (.one (.list 7 (l.map Rec.row)))),(13,.x (.one (.int .i64 l.length))),(14,.x (.one (.int .i64 i)))])
  (fun i=>i≤l.length∧F=zr7 ((l.take i).map Rec.id) (ztP (l.take i)) (l.drop i)∧∀r∈l.take i,zlx r=0) (fun i=>l.length-i) 0 ⟨Nat.zero_le _,by simpa[ztP] using eF,by simp⟩ ?_ ?_
 ·simp[kvs,ztP]
 rintro i ⟨hi,hF,hok0⟩
 have hsum:=zxa hok0
 have htl:(l.take i).length≤1000:=by simp;omega
 by_cases hlt:i<l.length
 ·have hlt':((i:Int)<(l.length:Int))=True:=eq_true (by omega)
  have hwr:IntKind.i64.wrap ((i:Int)+1)=(i:Int)+1:=zaq _ (by omega)
  have hrow:l[i].row=[.int .i64 l[i].kind,.str l[i].id,.str l[i].of,.int .i64 l[i].time,.str l[i].key,.list 2 (l[i].heads.map Head.row),za7 l[i].block]:=rfl
  have k1:=zb6 l[i]
  rw[List.drop_eq_getElem_cons hlt] at hF
  unfold zr7 at hF
  have htake:l.take (i+1)=l.take i++[l[i]]:=List.take_succ_eq_append_getElem hlt
  obtain⟨f1,f2⟩:=zpE l[i].id ((l.take i).map Rec.id) 0
  rw[hrow] at k1
  simp -implicitDefEqProofs[hlt,hlt',hrow]
  refine zac.of k1 ?_
  by_cases hr:zlx l[i]=0
  ·rw[if_neg (by simpa using hr)] at hF
   have hfit:=zuF (zee hr)
   have hlen:=zpg (zee hr)
   have k2:=zpO l[i] hfit
   rw[hrow] at k2
   rw[hr]
   have hRl:=zbs (ztW l[i])
   have hws:IntKind.i64.wrap ((ztP (l.take i):Int)+((ztW l[i]).length:Int))=((ztP (l.take i):Int)+((ztW l[i]).length:Int)):=zaq _ (by omega)
   by_cases hin:l[i].id∈(l.take i).map Rec.id
   ·obtain⟨j,hf,hj⟩:=f2 hin
    rw[Nat.zero_add] at hf
    rw[if_pos hin] at hF
    subst hF
    have hjv:(kvs ((l.take i).map Rec.id))[j]?=some (.one (.str l[i].id),.one (.bool true)):=by
     unfold kvs;rw[List.getElem?_map,hj];rfl
    simp only[List.map_take] at hf hjv
    simp -implicitDefEqProofs[hf,hjv]
   ·have hf:=f1 hin
    rw[if_neg hin] at hF
    simp only[List.map_take] at hf
    simp -implicitDefEqProofs[hf]
    refine zac.of k2 ?_
    simp -implicitDefEqProofs[hRl]
    refine zaz.of (i+1) ⟨hlt,?_,fun r hm=>?_⟩ (by omega) ?_
    ·rw[htake,zrk,List.map_append];exact hF
    ·rw[htake] at hm
     rcases List.mem_append.1 hm with h | h
     ·exact hok0 r h
     ·obtain rfl:r=l[i]:=by simpa using h
      exact hr
    ·rw[htake,zrk]
     simp[hwr,hws,kvs,List.range_succ]
     rw[List.take_succ_eq_append_getElem (by simpa using hlt)];simp
  ·rw[if_pos hr] at hF
   subst hF
   simp -implicitDefEqProofs[hr]
 ·have hi':i=l.length:=by omega
  subst hi'
  have hlt':((l.length:Int)<(l.length:Int))=False:=eq_false (by omega)
  rw[List.drop_length] at hF
  unfold zr7 at hF
  generalize ztP (l.take l.length)=n at *
  by_cases h5:500000<n
  ·rw[if_pos h5] at hF
   subst hF
   have h5':(500000<(n:Int))=True:=eq_true (by omega)
   simp -implicitDefEqProofs[h5']
  ·rw[if_neg h5] at hF
   subst hF
   have h5':(500000<(n:Int))=False:=eq_false (by omega)
   simp -implicitDefEqProofs[h5']
theorem zr2(b:List UInt8)(a:Nat):a≤zhG b a:=by
 unfold zhG
 split<;>omega
theorem zda{P:RS→Prop}{r:Bool×RS}{f:RS→Bool×RS}(h:P r.2)(hf:∀x:RS,P x→P (f x).2):P (zjq r f).2:=by
 obtain⟨c,x⟩:=r
 cases c
 ·exact h
 ·exact hf x h
def RS.from_(a:Nat)(x:RS):Prop:=a≤x.at_
theorem zlC{a:Nat}(w:List UInt8){x:RS}(h:x.from_ a):(zen w x).2.from_ a:=by
 show a≤(zfm x w).at_
 unfold zfm
 split
 ·exact Nat.le_trans h (zr2 _ _)
 ·exact h
theorem zdu{a:Nat}(w:List UInt8)(F:List UInt8→Bool)(G:RS→List UInt8→RS){x:RS}(h:x.from_ a)(hG:∀s,(G x s).at_=x.at_):(zgb w F G x).2.from_ a:=by
 show a≤(zje x w F (G x)).at_
 unfold zje
 split
 ·split
  ·exact Nat.le_trans h (zr2 _ _)
  ·rw[hG];exact h
 ·exact h
theorem zqp{a:Nat}:∀(n:Nat) {y:RS},y.from_ a→(zvr n y).2.from_ a
 |0,y,h=>h
 |n+1,y,h=>by
  unfold zvr
  split
  ·exact h
  ·split
   ·exact zqp n (y:={ y with heads:=_,at_:=_ }) (Nat.le_trans h (zr2 _ _))
   ·exact h
theorem zsb{a:Nat}{x:RS}(h:x.from_ a):(zf4 rdV zrq ztk x).2.from_ a:=by
 unfold zf4
 refine zda (zlC _ h) fun x h=>zda (zdu _ _ _ h fun _=>rfl) fun x h=>zda ?_ fun x h=>zda (zdu _ _ _ h fun _=>rfl) fun x h =>
  zda (zdu _ _ _ h fun _=>rfl) fun x h=>zda (zdu _ _ _ h fun _=>rfl) fun x h=>zda (zqp _ h) fun x h =>
  zda (zdu _ _ _ h fun s=>by split<;>rfl) fun x h=>zda (zdu _ _ _ h fun _=>rfl) fun x h=>zlC _ h
 unfold ofR
 split
 ·exact zdu _ _ _ h fun _=>rfl
 ·exact h
theorem zA0{b:List UInt8}{a:Nat}(hb:b.length≤16777216)(ha:a≤b.length):(rs0 b a).good b:=⟨⟨hb,ha⟩,rfl,by simp[rs0],by simp[rs0]⟩
theorem zlS{b:List UInt8}{a:Nat}(hb:b.length≤16777216)(ha:a≤b.length)(h:(zku b a).2.2=0):a<(zku b a).2.1∧(zku b a).2.1≤b.length∧zlx (zku b a).1=0:=by
 have hg:=zlF (zA0 hb ha)
 have hf:=zsb (a:=a) (x:=rs0 b a) (Nat.le_refl a)
 unfold zku at h ⊢
 generalize zf4 rdV zrq ztk (rs0 b a)=r at *
 dsimp only at h ⊢
 unfold RS.from_ at hf
 by_cases h1:r.1=false
 ·rw[if_pos h1] at h;cases h
 rw[if_neg h1] at h ⊢
 by_cases h2:b.length<r.2.at_+r.2.length.toNat+4
 ·rw[if_pos h2] at h;cases h
 rw[if_neg h2] at h ⊢
 by_cases h3:(b.drop (r.2.at_+r.2.length.toNat)).take 4≠zOI
 ·rw[if_pos h3] at h;cases h
 rw[if_neg h3] at h ⊢
 by_cases h4:zz6 ((b.drop r.2.at_).take r.2.length.toNat)≠r.2.digest
 ·rw[if_pos h4] at h;cases h
 rw[if_neg h4] at h ⊢
 by_cases h5:zlx (r.2.zEv ((b.drop r.2.at_).take r.2.length.toNat))≠0
 ·rw[if_pos h5] at h;exact absurd h h5
 rw[if_neg h5]
 exact⟨by simp only;omega,by simp only;omega,by simpa using h5⟩
structure Mark where
 id:List UInt8
 lo:Nat
 hi:Nat
def Mark.row(m:Mark):List CV:=[.str m.id,.int .i64 m.lo,.int .i64 m.hi]
def zmo(l:List Mark):XV:=.one (.list 3 (l.map Mark.row))
def goF:Nat→List UInt8→Nat→List Rec→List Mark→List Rec×List Mark×Nat×Int
 |0,_,_,_,_=>([],[],0,0)
 |n+1,b,a,L,M =>
  if a<b.length then
   if (zku b a).2.2≠0 then ([],[],(zku b a).2.1,(zku b a).2.2)
   else goF n b (zku b a).2.1 (L++[(zku b a).1]) (M++[⟨(zku b a).1.id,a,(zku b a).2.1⟩])
  else if zhh L≠0 then ([],[],0,zhh L) else (L,M,0,0)
def goR(b:List UInt8)(a:Nat)(L:List Rec)(M:List Mark):List Rec×List Mark×Nat×Int:=goF (b.length+1) b a L M
def zbQ(b:List UInt8):List Rec×List Mark×Nat×Int:=if 500000<b.length then ([],[],0,2) else goR b 0 [] []
theorem zpU{b:List UInt8}(hb:b.length≤16777216):∀(n m a:Nat) (L:List Rec) (M:List Mark),a≤b.length→b.length<n+a→b.length<m+a→goF n b a L M=goF m b a L M
 |0,_,a,_,_,h,h1,_=>by omega
 |_+1,0,a,_,_,h,_,h2=>by omega
 |n+1,m+1,a,L,M,h,h1,h2=>by
  unfold goF
  by_cases hlt:a<b.length
  ·rw[if_pos hlt,if_pos hlt]
   by_cases hf:(zku b a).2.2≠0
   ·rw[if_pos hf,if_pos hf]
   ·rw[if_neg hf,if_neg hf]
    obtain⟨k1,k2,_⟩:=zlS hb h (by simpa using hf)
    exact zpU hb n m _ _ _ k2 (by omega) (by omega)
  ·rw[if_neg hlt,if_neg hlt]
theorem zAF{b:List UInt8}(hb:b.length≤16777216){a:Nat}(h:a≤b.length)(L:List Rec)(M:List Mark):goR b a L M =
  if a<b.length then
   if (zku b a).2.2≠0 then ([],[],(zku b a).2.1,(zku b a).2.2)
   else goR b (zku b a).2.1 (L++[(zku b a).1]) (M++[⟨(zku b a).1.id,a,(zku b a).2.1⟩])
  else if zhh L≠0 then ([],[],0,zhh L) else (L,M,0,0):=by
 conv=>lhs;unfold goR goF
 by_cases hlt:a<b.length
 ·rw[if_pos hlt,if_pos hlt]
  by_cases hf:(zku b a).2.2≠0
  ·rw[if_pos hf,if_pos hf]
  ·rw[if_neg hf,if_neg hf]
   obtain⟨k1,k2,_⟩:=zlS hb h (by simpa using hf)
   exact zpU hb _ _ _ _ _ k2 (by omega) (by omega)
 ·rw[if_neg hlt,if_neg hlt]
theorem zgD(b:List UInt8):zab Tryz.prog 83 [.one (za7 b)] (.tup [zey (zbQ b).1,zmo (zbQ b).2.1,.one (.int .i64 (zbQ b).2.2.1),.one (.int .i64 (zbQ b).2.2.2)]):=by
 obtain⟨R,eR⟩:∃R,R=zbQ b:=⟨_,rfl⟩
 rw[←eR]
 unfold zbQ at eR
 unfold zey zmo
 have hRl:=zbs b
 refine @zab.of _ (zpP [(10,[1,1,1,4,8,7,7,7,7,7,7,7,9,0,0])]) _ _ _ _ _ mixed (fn:=Tryz.f83) (by kernel_rfl) (by kernel_rfl) rfl (by kernel_rfl) (by simp[Tryz.f83]) (fun hok=>?_)
 by_cases h1:500000<b.length
 ·rw[if_pos h1] at eR
  subst eR
  have h1':(500000<(b.length:Int))=True:=eq_true (by omega)
  simp -implicitDefEqProofs[hRl,h1']
 rw[if_neg h1] at eR
 have h1':(500000<(b.length:Int))=False:=eq_false (by omega)
 simp -implicitDefEqProofs[hRl,h1']
 refine zaK.of (Nat×List Rec×List Mark) (fun x=>[(0,.x (.one (za7 b))),(6,.own 55 7 (x.2.1.map Rec.row)),(7,.own 101 3 (x.2.2.map Mark.row)),(8,.x (.one (.int .i64 x.1)))])
  (fun x=>x.1≤b.length∧R=goR b x.1 x.2.1 x.2.2∧x.2.1.length≤x.1∧x.2.2.length≤x.1) (fun x=>b.length-x.1) (0,[],[]) ⟨Nat.zero_le _,eR,Nat.le_refl _,Nat.le_refl _⟩ ?_ ?_
 ·simp
 rintro⟨a,L,M⟩ ⟨ha,hR,hL,hM⟩
 dsimp only at ha hR hL hM ⊢
 have hb:b.length≤16777216:=by omega
 rw[zAF hb ha] at hR
 by_cases hlt:a<b.length
 ·rw[if_pos hlt] at hR
  have hlt':((a:Int)<(b.length:Int))=True:=eq_true (by omega)
  have k1:=znk b a hb ha
  have hn:=zlS hb ha
  generalize zku b a=o at *
  obtain⟨r,nx,f⟩:=o
  unfold zUv at k1
  dsimp only at *
  have hrow:r.row=[.int .i64 r.kind,.str r.id,.str r.of,.int .i64 r.time,.str r.key,.list 2 (r.heads.map Head.row),za7 r.block]:=rfl
  rw[hrow] at k1
  simp -implicitDefEqProofs[hRl,hlt']
  refine zac.of k1 ?_
  by_cases hf:f=0
  ·subst hf
   rw[if_neg (by decide)] at hR
   obtain⟨n1,n2,_⟩:=hn rfl
   simp -implicitDefEqProofs
   refine⟨by unfold maxLen;omega,by unfold maxLen;omega,?_⟩
   exact zaz.of (nx,L++[r],M++[⟨r.id,a,nx⟩]) ⟨n2,hR,by simp;omega,by simp;omega⟩ (by simp only;omega) (by simp[hrow,Mark.row])
  ·rw[if_pos hf] at hR
   subst hR
   have hf':(f=0)=False:=eq_false hf
   simp -implicitDefEqProofs[hf']
 ·rw[if_neg hlt] at hR
  have hlt':((a:Int)<(b.length:Int))=False:=eq_false (by omega)
  have k2:=zf9 L
  unfold zey at k2
  generalize zhh L=f at *
  simp -implicitDefEqProofs[hRl,hlt']
  refine zac.of k2 ?_
  by_cases hf:f=0
  ·rw[if_neg (by simpa using hf)] at hR
   subst hR
   subst hf
   simp -implicitDefEqProofs
  ·rw[if_pos hf] at hR
   subst hR
   have hf':(f=0)=False:=eq_false hf
   simp -implicitDefEqProofs[hf']
theorem zgE(b:List UInt8):zab Tryz.prog 41 [.one (za7 b)] (.tup [zey (zbQ b).1,.one (.int .i64 (zbQ b).2.2.1),.one (.int .i64 (zbQ b).2.2.2)]):=by
 have k:=zgD b
 generalize zbQ b=R at *
 unfold zey zmo at *
 refine zab.of mixed (fn:=Tryz.f41) (by kernel_rfl) (by kernel_rfl) rfl (by kernel_rfl) (by simp[Tryz.f41]) (fun hok=>?_)
 simp -implicitDefEqProofs
 refine zac.of k ?_
 simp -implicitDefEqProofs
theorem zkk(b:List UInt8):zab Tryz.prog 42 [.one (za7 b)] (.tup [zmo (zbQ b).2.1,.one (.int .i64 (zbQ b).2.2.2)]):=by
 have k:=zgD b
 generalize zbQ b=R at *
 unfold zey zmo at *
 refine zab.of mixed (fn:=Tryz.f42) (by kernel_rfl) (by kernel_rfl) rfl (by kernel_rfl) (by simp[Tryz.f42]) (fun hok=>?_)
 simp -implicitDefEqProofs
 refine zac.of k ?_
 simp -implicitDefEqProofs
def ixI{α:Type}(p:α→Bool)(l:List α):Int:=match l.findIdx? p with
 |some i=>(i:Int)
 |none=>-1
theorem zx0{α:Type}{p:α→Bool}{l:List α}{i:Nat}(h:zlp (fun e=>!p e) l i)(hlt:i<l.length)(hp:p l[i]=true):ixI p l=(i:Int):=by
 unfold ixI
 have:l.findIdx? p=some i:=by
  rw[List.findIdx?_eq_some_iff_getElem]
  refine⟨hlt,hp,fun j hj=>?_⟩
  have:=List.all_eq_true.1 h.2 l[j] (by rw[List.mem_take_iff_getElem];exact⟨j,by omega,rfl⟩)
  simpa using this
 rw[this]
theorem zto{α:Type}{p:α→Bool}{l:List α}(h:zlp (fun e=>!p e) l l.length):ixI p l=-1:=by
 unfold ixI
 have:l.findIdx? p=none:=by
  rw[List.findIdx?_eq_none_iff]
  intro x hx
  have h2:=h.2
  rw[List.take_length] at h2
  have:=List.all_eq_true.1 h2 x hx
  simpa using this
 rw[this]
theorem zk4{α:Type}(p:α→Bool)(l:List α):(ixI p l=-1∧l.findIdx? p=none)∨∃i:Nat,ixI p l=(i:Int)∧l.findIdx? p=some i∧i<l.length:=by
 unfold ixI
 cases h:l.findIdx? p with
 |none=>exact .inl ⟨rfl,rfl⟩
 |some i=>exact .inr ⟨i,rfl,rfl,(List.findIdx?_eq_some_iff_getElem.1 h).1⟩
theorem zfs(l:List Rec)(g:FuncId)(c:CV)(p:Rec→Bool)(hc:∀r∈l,zab Tryz.prog g [.agg r.row,.one c] (.x (.one (.bool (p r)))))(hl:l.length≤1000000000) :
  zab Tryz.prog 109 [zey l,.one (.clo g [c])] (.x (.one (.int .i64 (ixI p l)))):=by
 obtain⟨R,eR⟩:∃R,R=ixI p l:=⟨_,rfl⟩
 rw[←eR]
 unfold zey
 refine zab.of mixed (fn:=Tryz.f109) (by kernel_rfl) (by kernel_rfl) rfl (by kernel_rfl) (by simp[Tryz.f109]) (fun hok=>?_)
 simp -implicitDefEqProofs
 refine zaK.of Nat (fun i=>[(0,.x (.one (.list 7 (l.map Rec.row)))),(1,.x (.one (.clo g [c]))),(7,.x (.one (.int .i64 l.length))),(8,.x (.one (.int .i64 i)))]) (zlp (fun e=>!p e) l) (fun i=>l.length-i) 0 zlp.zero ?_ ?_
 ·simp
 intro i hi
 have hle:=hi.1
 by_cases hlt:i<l.length
 ·have hlt':((i:Int)<(l.length:Int))=True:=eq_true (by omega)
  have wi:IntKind.i64.wrap ((i:Int)+1)=(i:Int)+1:=zaq _ (by omega)
  have k1:=hc l[i] (List.getElem_mem hlt)
  have hrow:l[i].row=[.int .i64 l[i].kind,.str l[i].id,.str l[i].of,.int .i64 l[i].time,.str l[i].key,.list 2 (l[i].heads.map Head.row),za7 l[i].block]:=rfl
  rw[hrow] at k1
  simp -implicitDefEqProofs[hlt,hlt',hrow]
  refine zac.of k1 ?_
  cases hp:p l[i]
  ·simp -implicitDefEqProofs[wi]
   exact zaz.of (i+1) (hi.step hlt (by rw[hp];rfl)) (by omega) (by simp[wi])
  ·have:=zx0 hi hlt hp
   rw[this] at eR
   subst eR
   simp -implicitDefEqProofs
 ·have hlt':((i:Int)<(l.length:Int))=False:=eq_false (by omega)
  have hil:i=l.length:=by omega
  subst hil
  have:=zto hi
  rw[this] at eR
  subst eR
  simp -implicitDefEqProofs[hlt']
theorem zjG(l:List Head)(g:FuncId)(c:CV)(p:Head→Bool)(hc:∀r∈l,zab Tryz.prog g [.agg r.row,.one c] (.x (.one (.bool (p r)))))(hl:l.length≤1000000000) :
  zab Tryz.prog 235 [ziE l,.one (.clo g [c])] (.x (.one (.int .i64 (ixI p l)))):=by
 obtain⟨R,eR⟩:∃R,R=ixI p l:=⟨_,rfl⟩
 rw[←eR]
 refine zab.of mixed (fn:=Tryz.f235) (by kernel_rfl) (by kernel_rfl) rfl (by kernel_rfl) (by simp[Tryz.f235]) (fun hok=>?_)
 simp -implicitDefEqProofs
 refine zaK.of Nat (fun i=>[(0,.x (ziE l)),(1,.x (.one (.clo g [c]))),(7,.x (.one (.int .i64 l.length))),(8,.x (.one (.int .i64 i)))]) (zlp (fun e=>!p e) l) (fun i=>l.length-i) 0 zlp.zero ?_ ?_
 ·simp
 intro i hi
 have hle:=hi.1
 by_cases hlt:i<l.length
 ·have hlt':((i:Int)<(l.length:Int))=True:=eq_true (by omega)
  have wi:IntKind.i64.wrap ((i:Int)+1)=(i:Int)+1:=zaq _ (by omega)
  have k1:=hc l[i] (List.getElem_mem hlt)
  have hrow:∀h:Head,h.row=[.str h.name,.str h.value]:=fun _=>rfl
  rw[hrow] at k1
  simp -implicitDefEqProofs[hlt,hlt',hrow]
  refine zac.of k1 ?_
  cases hp:p l[i]
  ·simp -implicitDefEqProofs[wi]
   exact zaz.of (i+1) (hi.step hlt (by rw[hp];rfl)) (by omega) (by simp[wi])
  ·have:=zx0 hi hlt hp
   rw[this] at eR
   subst eR
   simp -implicitDefEqProofs
 ·have hlt':((i:Int)<(l.length:Int))=False:=eq_false (by omega)
  have hil:i=l.length:=by omega
  subst hil
  have:=zto hi
  rw[this] at eR
  subst eR
  simp -implicitDefEqProofs[hlt']
theorem zpB(r:Rec)(w:List UInt8):zab Tryz.prog 146 [.agg r.row,.one (.ref [.str w])] (.x (.one (.bool (r.id==w)))):=by
 unfold Rec.row
 refine zab.of mixed (fn:=Tryz.f146) (by kernel_rfl) (by kernel_rfl) rfl (by kernel_rfl) (by simp[Tryz.f146]) (fun hok=>?_)
 simp -implicitDefEqProofs
theorem zqI(h:Head)(w:List UInt8):zab Tryz.prog 236 [.agg h.row,.one (.ref [.str w])] (.x (.one (.bool (zbd h.name==w)))):=by
 have k:=zdi h.name
 unfold Head.row
 refine zab.of mixed (fn:=Tryz.f236) (by kernel_rfl) (by kernel_rfl) rfl (by kernel_rfl) (by simp[Tryz.f236]) (fun hok=>?_)
 simp -implicitDefEqProofs
 refine zac.of k ?_
 simp -implicitDefEqProofs
def zf0(l:List Rec)(w:List UInt8):Option Nat:=l.findIdx? fun r=>r.id==w
def findD(l:List Rec)(w:List UInt8):Rec:=((zf0 l w).bind fun i=>l[i]?).getD zm9
theorem zmn(l:List Rec)(w:List UInt8)(hl:l.length≤1000000000):zab Tryz.prog 84 [zey l,.one (.str w)] (.tup [.agg (findD l w).row,.one (.bool (zf0 l w).isSome)]):=by
 have k:=zfs l 146 (.ref [.str w]) (fun r=>r.id==w) (fun r _=>zpB r w) hl
 have hs:=zk4 (fun r:Rec=>r.id==w) l
 unfold findD zf0
 unfold zey at *
 generalize ixI (fun r:Rec=>r.id==w) l=I at *
 generalize l.findIdx? (fun r:Rec=>r.id==w)=O at *
 refine zab.of mixed (fn:=Tryz.f84) (by kernel_rfl) (by kernel_rfl) rfl (by kernel_rfl) (by simp[Tryz.f84]) (fun hok=>?_)
 simp -implicitDefEqProofs
 refine zac.of k ?_
 rcases hs with⟨rfl,rfl⟩ | ⟨i,rfl,rfl,hlt⟩
 ·simp -implicitDefEqProofs[zm9,Rec.row]
 ·have h0:((i:Int)<0)=False:=eq_false (by omega)
  have hlt':((i:Int)<(l.length:Int))=True:=eq_true (by omega)
  have hrow:l[i].row=[.int .i64 l[i].kind,.str l[i].id,.str l[i].of,.int .i64 l[i].time,.str l[i].key,.list 2 (l[i].heads.map Head.row),za7 l[i].block]:=rfl
  simp -implicitDefEqProofs[h0,hlt,hlt',hrow]
def zqR(l:List Head)(w:List UInt8):Option Nat:=l.findIdx? fun h=>zbd h.name==w
def zBY(l:List Head)(w:List UInt8):Int:=ixI (fun h=>zbd h.name==w) l
theorem zlq(r:Rec)(w:List UInt8)(hl:r.heads.length≤1000000000):zab Tryz.prog 149 [.agg r.row,.one (.str w)] (.x (.one (.int .i64 (zBY r.heads w)))):=by
 have k:=zjG r.heads 236 (.ref [.str w]) (fun h=>zbd h.name==w) (fun h _=>zqI h w) hl
 unfold zBY Rec.row
 refine zab.of mixed (fn:=Tryz.f149) (by kernel_rfl) (by kernel_rfl) rfl (by kernel_rfl) (by simp[Tryz.f149]) (fun hok=>?_)
 simp -implicitDefEqProofs
 refine zac.of k ?_
 simp -implicitDefEqProofs
def zBr(s:List UInt8):Nat:=if zpV 4 s=true then ze7 s else 0
theorem ziD(s:List UInt8):zab Tryz.prog 150 [.one (.str s)] (.x (.one (.int .i64 (zBr s)))):=by
 have k:=zcX 4 (by omega) s
 unfold zBr
 refine zab.of mixed (fn:=Tryz.f150) (by kernel_rfl) (by kernel_rfl) rfl (by kernel_rfl) (by simp[Tryz.f150]) (fun hok=>?_)
 simp -implicitDefEqProofs
 refine zac.of k ?_
 cases h:zpV 4 s
 ·simp -implicitDefEqProofs
 ·obtain⟨h1,h2,_⟩:=zfu h
  have k2:=zc1 s _ (by omega) h1
  simp -implicitDefEqProofs
  refine zac.of k2 ?_
  simp -implicitDefEqProofs
theorem zmZ(l:List Head)(hl:l.length≤1000000):zab Tryz.prog 148 [ziE l] (.own 84 2 (l.map Head.row)):=by
 cases l with
 |nil =>
  refine zab.zjP (pre:=[]) (post:=[]) ?_ ?_
  ·refine zab.of mixed (fn:=Tryz.f148) (by kernel_rfl) (by kernel_rfl) rfl (by kernel_rfl) (by simp[Tryz.f148]) (fun hok=>?_)
   simp -implicitDefEqProofs
  ·refine zab.of mixed (fn:=Tryz.f148) (by kernel_rfl) (by kernel_rfl) rfl (by kernel_rfl) (by simp[Tryz.f148]) (fun hok=>?_)
   simp -implicitDefEqProofs
 |cons x r =>
  have hrow:x.row=[.str x.name,.str x.value]:=rfl
  simp at hl
  refine zab.of mixed (fn:=Tryz.f148) (by kernel_rfl) (by kernel_rfl) rfl (by kernel_rfl) (by simp[Tryz.f148]) (fun hok=>?_)
  simp -implicitDefEqProofs[hrow]
  unfold maxLen
  omega
theorem zmW(l:List UInt8)(hb:l.length≤16777216):zab Tryz.prog 97 [.one (za7 l)] (.own 5 1 (zad l)):=by
 cases l with
 |nil =>
  refine zab.zjP (pre:=[]) (post:=[]) ?_ ?_
  ·refine zab.of mixed (fn:=Tryz.f97) (by kernel_rfl) (by kernel_rfl) rfl (by kernel_rfl) (by simp[Tryz.f97]) (fun hok=>?_)
   simp -implicitDefEqProofs[zad]
  ·refine zab.of mixed (fn:=Tryz.f97) (by kernel_rfl) (by kernel_rfl) rfl (by kernel_rfl) (by simp[Tryz.f97]) (fun hok=>?_)
   simp -implicitDefEqProofs[zad]
 |cons x r =>
  simp at hb
  refine zab.of mixed (fn:=Tryz.f97) (by kernel_rfl) (by kernel_rfl) rfl (by kernel_rfl) (by simp[Tryz.f97]) (fun hok=>?_)
  simp -implicitDefEqProofs[zad,byteRow]
  unfold maxLen
  omega
end Go.Proofs.YtlcmnclbljedfaaGreatDoor
namespace Go.Proofs.YtlcmnclbljedfaaGreatDoor
open Go Go.Ab Go.RowKit Go.Lib
variable [Amb][zaY 0][zal Tryz.prog]
theorem zeB(w:World)(g o:Nat)(t:TypeId)(fz:Nat×Nat)(cur:Array Value)(vs:List Value)(hg:w.heap[g]?=some (.cells cur t fz))(hz:zli fz cur.size)(hl:o+vs.length≤cur.size)(h1:∀v∈vs,v.oneCell'=true) :
  w.setCells g o vs=w.setRow g (cur.toList.take o++vs++cur.toList.drop (o+vs.length)).toArray:=by
 have hc:∀j,j<vs.length→w.cell? ⟨g,o+0+j,none⟩=some (cur.getD (o+0+j) undef):=by
  intro j hj
  have hlt:o+0+j<cur.size:=by omega
  simp[World.cell?,hg,show o+j<cur.size by omega]
 have hf:∀j,j<vs.length→w.frozen? ⟨g,o+0+j,none⟩=false:=by
  intro j hj
  rcases hz with rfl | hz
  ·simp[World.frozen?,hg]
  ·obtain⟨lo,hi'⟩:=fz
   simp[World.frozen?,hg]
   intro h;dsimp only at hz;omega
 have e1:=zbG default g o t fz vs 0 cur w hg hz (by omega) h1
 have e2:=run_storeCells_cells (P:=default) g o vs 0 w (fun j hj=>by rw[hc j hj];rfl) hf h1
 rw[e1] at e2
 simp only[Nat.add_zero] at e2
 injection e2 with _ e2
 exact e2.symm
theorem zxn(w:World)(t e ty:TypeId)(z:Value)(ht:Tryz.prog.underlying t=some (.slice e))(hv:∀w,(zeroValue e).run Tryz.prog w=.ok z w)(hz:z.cells=#[.string ⟨#[]⟩,.string ⟨#[]⟩])(b o c:Nat)
  (hc:∀j,j<2→(w.cell? ⟨b,o+j,none⟩).isSome=true)(hf:∀j,j<2→w.frozen? ⟨b,o+j,none⟩=false) :
  (Builtin.clear_ #[t] ty #[.slice (some ⟨b,o,none⟩) 1 c]).run Tryz.prog w=.ok (.tuple #[]) (w.setCells b o [.string ⟨#[]⟩,.string ⟨#[]⟩]):=by
 have hzc:(Builtin.zeroCells z.cells 1).toList=[.string ⟨#[]⟩,.string ⟨#[]⟩]:=by
  rw[hz];simp[Builtin.zeroCells,List.range_succ]
 have hst:=run_storeCells_cells (P:=Tryz.prog) b o [.string ⟨#[]⟩,.string ⟨#[]⟩] 0 w (fun j hj=>by simpa using hc j (by simpa using hj)) (fun j hj=>by simpa using hf j (by simpa using hj)) (by intro v hv';simp at hv';subst hv';rfl)
 simp only[Nat.add_zero] at hst
 simp[Builtin.clear_,run_underlying ht,hv,hzc,hst]
set_option maxRecDepth 1000000 in
set_option maxHeartbeats 4000000 in
theorem zpF(w:World)(g n cap i:Nat)(cur:Array Value)(fz:Nat×Nat)(hh:w.heap[g]?=some (.cells cur 84 fz))(hfz:zli fz cur.size)(hi:i<n)(hn:n≤cap)(hm:cap≤9223372036854775807)(hn':n≤1000000)(hcs:cur.size=cap*2)
  (h1:∀v∈cur.toList.take (n*2),v.oneCell'=true) :
  Calls Tryz.prog 151 #[.slice (some ⟨g,0,none⟩) n cap,.int .i64 i,.int .i64 ((i:Int)+1)] w fun e w'=>e=.returned (.slice (some ⟨g,0,none⟩) (n-1) cap) ∧
   w'=(w.drew.setCells g (i*2) ((cur.toList.drop ((i+1)*2)).take ((n-(i+1))*2))).setCells g ((n-1)*2) [.string ⟨#[]⟩,.string ⟨#[]⟩]:=by
 obtain⟨news,hnews⟩:∃news,news=(cur.toList.drop ((i+1)*2)).take ((n-(i+1))*2):=⟨_,rfl⟩
 rw[←hnews]
 have hlen:news.length=(n-(i+1))*2:=by rw[hnews,List.length_take,List.length_drop,Array.length_toList,hcs];omega
 have hcell:∀j,j<cap*2→w.cell? ⟨g,j,none⟩=cur.toList[j]?:=by
  intro j hj
  rw[cell_of_row w g j cur _ fz hh];simp
 have hfro:∀j,j<cap*2→w.frozen? ⟨g,j,none⟩=false:=by
  intro j hj
  rcases hfz with rfl | hz
  ·simp[World.frozen?,hh]
  ·obtain⟨lo,hi'⟩:=fz
   simp[World.frozen?,hh]
   intro h;dsimp only at hz;omega
 have hget:∀t u,news[t]?=some u→w.cell? ⟨g,(i+1)*2+t,none⟩=some u:=by
  intro t u hu
  have ht:=(List.getElem?_eq_some_iff.1 hu).1
  rw[hcell _ (by omega)]
  rw[hnews,List.getElem?_take] at hu
  split at hu
  ·rw[List.getElem?_drop] at hu;exact hu
  ·cases hu
 obtain⟨A,hA,hsrc⟩:∃A:Go.Addr,(if cap=i+1 then some (⟨g,0,none⟩:Go.Addr) else some ⟨g,(i+1)*2,none⟩)=some A∧Hid (∀t u,news[t]?=some u→w.drew.cell? (A.add t)=some u):=by
  by_cases h:cap=i+1
  ·refine⟨⟨g,0,none⟩,by simp[h],fun t u hu=>?_⟩
   have:=(List.getElem?_eq_some_iff.1 hu).1
   omega
  ·refine⟨⟨g,(i+1)*2,none⟩,by simp[h],fun t u hu=>?_⟩
   rw[zaJ]
   exact hget t u hu
 have s1:Hid (news.length=(n-(i+1))*2):=hlen
 have s2:Hid (∀u∈news,u.oneCell'=true):=by
  intro u hu
  rw[hnews] at hu
  rw[List.take_drop,show (i+1)*2+(n-(i+1))*2=n*2 by omega] at hu
  exact h1 u (List.mem_of_mem_drop hu)
 have s3:Hid (∀t,t<news.length→(w.drew.cell? ⟨g,0+i*2+t,none⟩).isSome=true∧w.drew.frozen? ⟨g,0+i*2+t,none⟩=false):=by
  intro t ht
  rw[hlen] at ht
  rw[Nat.zero_add]
  refine⟨?_,hfro _ (by omega)⟩
  show (w.cell? _).isSome=true
  rw[hcell _ (by omega),List.getElem?_eq_getElem (by rw[Array.length_toList,hcs];omega)]
  rfl
 obtain⟨W1,hW1⟩:∃W1,W1=w.drew.setCells g (0+i*2) news:=⟨_,rfl⟩
 have hW1':W1=w.drew.setRow g (cur.toList.take (i*2)++news++cur.toList.drop (i*2+news.length)).toArray:=by
  rw[hW1,Nat.zero_add]
  exact zeB w.drew g (i*2) _ fz cur news hh hfz (by rw[hlen,hcs];omega) s2.out
 have hrow:W1.heap[g]?=some (.cells (cur.toList.take (i*2)++news++cur.toList.drop (i*2+news.length)).toArray 84 fz):=by
  rw[hW1'];exact setRow_heap w.drew g cur _ _ fz hh
 have hrs:(cur.toList.take (i*2)++news++cur.toList.drop (i*2+news.length)).length=cap*2:=by
  simp only[List.length_append,List.length_take,List.length_drop,Array.length_toList,hcs,hlen]
  omega
 have em:i+(n-(i+1))=n-1:=by omega
 have hcl:∀ty,(Builtin.clear_ #[40] ty #[.slice (some ⟨g,(i+(n-(i+1)))*2,none⟩) (n-(i+(n-(i+1)))) (cap-(i+(n-(i+1))))]).run Tryz.prog W1=.ok (.tuple #[]) (W1.setCells g ((n-1)*2) [.string ⟨#[]⟩,.string ⟨#[]⟩]):=by
  intro ty
  rw[em,show n-(n-1)=1 by omega]
  exact zxn W1 _ 84 ty _ Tryz.underlying40 (fun w=>Tryz.zeroValue84 w) rfl g ((n-1)*2) _ (fun j hj=>by
   rw[cell_of_row W1 g _ _ _ fz hrow]
   rw[List.getElem?_toArray,List.getElem?_eq_getElem (by rw[hrs];omega)];rfl) (fun j hj=>by
   rcases hfz with rfl | hz
   ·simp[World.frozen?,hrow]
   ·obtain⟨lo,hi'⟩:=fz
    simp[World.frozen?,hrow]
    intro h;dsimp only at hz;omega)
 have hW:Hid (W1=w.drew.setCells g (0+i*2) news):=hW1
 have hic:i≤cap:=by omega
 have hjc:i+1≤cap:=by omega
 have hwr:IntKind.i64.wrap ((i:Int)+1)=(i:Int)+1:=by rw[IntKind.wrap_i64];omega
 have hp0:(0:Int)≤(i:Int)+1:=by omega
 have hp1:(i:Int)+1≤(n:Int):=by omega
 have hp2:((i:Int)+1).toNat=i+1:=by omega
 have hp3:(i:Int)+1≤(cap:Int):=by omega
 have hne:¬((i:Int)=(i:Int)+1):=by omega
 have hinfo:(Tryz.prog.info? 84).map (·.size)=some 2:=by kernel_rfl
 obtain⟨i0,hi0,hsz0⟩:=Option.map_eq_some_iff.1 hinfo
 have hmix:Tryz.prog.follows .mixedOrders=true:=mixed
 have em2:Hid (i+(n-(i+1))=n-1):=em
 clear em hW1 hW1' hrow hrs hget hnews hlen hcell hfro hh hfz h1 hcs
 go_enter Tryz.func151,Tryz.ntmps151
 go_wp2_with fail
 go_region_law_o (refine step_append_room rfl (.tmp 22) (.tmp 25) 40 rfl 84 i0 2 Tryz.underlying40 hi0 hsz0 g 0 i cap (by simp[Act.eval,Act.put]) A (n-(i+1)) (cap-(i+1)) news (by simp[Act.eval,Act.put]) s1.out hsrc.out s2.out (by omega) s3.out ?_;rw[←hW.out])
 go_wp2
 go_ret
 refine⟨by rw[em2.out];rfl,?_⟩
 rw[hW.out,Nat.zero_add]
theorem zlz(l:List Head)(i:Nat)(hi:i<l.length)(hcap:l.length≤1000000) :
  zat Tryz.prog 151 [.own 84 2 (l.map Head.row),.x (.one (.int .i64 i)),.x (.one (.int .i64 ((i:Int)+1)))] (.own 84 2 ((l.take i++l.drop (i+1)).map Head.row)) [.dead,.dead,.dead]:=by
 refine⟨(zbm Tryz.f151 (by kernel_rfl) (by kernel_rfl) rfl),rfl,fun w E vs hE hM=>?_⟩
 have h0:=(hM.rep 0 _ rfl).2
 have h1:zaH w E.rd (.int .i64 i) (tmV vs 1):=(hM.rep 1 _ rfl).2
 have h2:zaH w E.rd (.int .i64 ((i:Int)+1)) (tmV vs 2):=(hM.rep 2 _ rfl).2
 have e1:tmV vs 1=.int .i64 i:=by generalize tmV vs 1=u at h1;cases h1;rfl
 have e2:tmV vs 2=.int .i64 ((i:Int)+1):=by generalize tmV vs 2=u at h2;cases h2;rfl
 have hvs:vs=#[tmV vs 0,tmV vs 1,tmV vs 2]:=by
  have hsz:=hM.size
  simp only[List.length_cons,List.length_nil] at hsz
  have:2<vs.size:=by
   rcases Nat.lt_or_ge 2 vs.size with h | h
   ·exact h
   ·exfalso
    have:tmV vs 2=undef:=by simp[tmV,Array.getD_eq_getD_getElem?,Array.getElem?_eq_none h]
    rw[this] at e2;cases e2
  apply Array.ext
  ·simp;omega
  ·intro j hj1 hj2
   have hj3:j<3:=by simpa using hj2
   match j,hj3 with
   |0,_=>simp[tmV,Array.getD_eq_getD_getElem?,Array.getElem?_eq_getElem hj1]
   |1,_=>simp[tmV,Array.getD_eq_getD_getElem?,Array.getElem?_eq_getElem hj1]
   |2,_=>simp[tmV,Array.getD_eq_getD_getElem?,Array.getElem?_eq_getElem hj1]
 obtain⟨us,ho,hl,hx,hm,hB⟩:=h0
 have hll:(l.map Head.row).length=l.length:=by simp
 rw[hll] at ho hm
 rcases ho.2 with⟨_,h⟩ | ⟨g,cap,cur,hv,_,⟨fz,hh,hfz⟩,hnc,hcm,hcs,htake⟩
 ·omega
 have hlent:E.lent g:=hB g (by rw[hv];rfl)
 have hk:=zpF w g l.length cap i cur fz hh hfz hi hnc (by unfold maxLen at hcm;omega) hcap hcs (fun v hvm=>by rw[htake] at hvm;exact zbP.zeJ hl v hvm)
 have hvs2:vs=#[.slice (some ⟨g,0,none⟩) l.length cap,.int .i64 i,.int .i64 ((i:Int)+1)]:=by rw[hvs,hv,e1,e2]
 rw[hvs2]
 refine hk.mono ?_
 rintro e w' ⟨rfl,rfl⟩
 have hus:us.length=l.length*2:=ho.1
 obtain⟨news,hnews⟩:∃news,news=(cur.toList.drop ((i+1)*2)).take ((l.length-(i+1))*2):=⟨_,rfl⟩
 rw[←hnews]
 have hcl:cur.toList.length=cap*2:=by simpa using hcs
 have hlen:news.length=(l.length-(i+1))*2:=by rw[hnews,List.length_take,List.length_drop,hcl];omega
 have hnu:news=us.drop ((i+1)*2):=by
  rw[hnews,List.take_drop,show (i+1)*2+(l.length-(i+1))*2=l.length*2 by omega,htake]
 have hn1:∀v∈news,v.oneCell'=true:=by
  intro v hvm
  rw[hnu] at hvm
  exact zbP.zeJ hl v (List.mem_of_mem_drop hvm)
 have hr1:=zeB w.drew g (i*2) _ fz cur news hh hfz (by rw[hlen,hcs];omega) hn1
 obtain⟨r1,er1⟩:∃r1,r1=(cur.toList.take (i*2)++news++cur.toList.drop (i*2+news.length)).toArray:=⟨_,rfl⟩
 rw[←er1] at hr1
 have hr1s:r1.size=cur.size:=by
  rw[er1,List.size_toArray]
  simp only[List.length_append,List.length_take,List.length_drop,hcl,hcs,hlen]
  omega
 rw[hr1]
 have hrow1:=setRow_heap w.drew g cur r1 _ fz hh
 have hr2:=zeB (w.drew.setRow g r1) g ((l.length-1)*2) _ fz r1 [.string ⟨#[]⟩,.string ⟨#[]⟩] hrow1 (by rw[hr1s];exact hfz) (by rw[hr1s,hcs];simp;omega) (by intro v hvm;simp at hvm;subst hvm;rfl)
 rw[hr2]
 obtain⟨r2,er2⟩:∃r2,r2=(r1.toList.take ((l.length-1)*2)++[Value.string ⟨#[]⟩,.string ⟨#[]⟩]++r1.toList.drop ((l.length-1)*2+2)).toArray:=⟨_,rfl⟩
 have er2':(r1.toList.take ((l.length-1)*2)++[Value.string ⟨#[]⟩,.string ⟨#[]⟩]++r1.toList.drop ((l.length-1)*2+[Value.string ⟨#[]⟩,.string ⟨#[]⟩].length)).toArray=r2:=by rw[er2];rfl
 rw[er2']
 have hr2s:r2.size=cur.size:=by
  have hr1l:r1.toList.length=cap*2:=by simpa[hcs] using hr1s
  rw[er2,List.size_toArray]
  simp only[List.length_append,List.length_take,List.length_drop,List.length_cons,List.length_nil,hr1l,hcs]
  omega
 have hrow2:=setRow_heap (w.drew.setRow g r1) g r1 r2 _ fz hrow1
 obtain⟨W2,eW2⟩:∃W2,W2=(w.drew.setRow g r1).setRow g r2:=⟨_,rfl⟩
 rw[←eW2] at hrow2 ⊢
 have hother:∀k,k≠g→W2.heap[k]?=w.heap[k]?:=by
  intro k hk
  rw[eW2,setRow_other _ g k _ hk,setRow_other _ g k _ hk];rfl
 have hsize:W2.heap.size=w.heap.size:=by
  rw[eW2,(zcJ (w:=w.drew.setRow g r1) g r2).2,(zcJ (w:=w.drew) g r1).2];rfl
 have hpre:r2.toList.take ((l.length-1)*2)=us.take (i*2)++us.drop ((i+1)*2):=by
  have hct:cur.toList.take (i*2)=us.take (i*2):=by
   rw[←htake,List.take_take,Nat.min_eq_left (by omega)]
  have hul:(us.take (i*2)++us.drop ((i+1)*2)).length=(l.length-1)*2:=by simp[hus];omega
  have h1:r1.toList.take ((l.length-1)*2)=us.take (i*2)++us.drop ((i+1)*2):=by
   rw[er1,←hul,hct,hnu,List.toList_toArray,List.take_left]
  rw[er2,List.toList_toArray,List.append_assoc,List.take_left' (by rw[h1,hul]),h1]
 have hg1:∀b,E.rd b→b≠g:=fun b hb hbg=>by subst hbg;exact hE.apart b hb hlent
 have hno:∀b,¬zlL [.dead,.dead,.dead] #[.slice (some ⟨g,0,none⟩) l.length cap,.int .i64 i,.int .i64 ((i:Int)+1)] b:=by
  rintro b ⟨j,o,hj,hb⟩
  match j,hj with
  |0,hj=>cases hj;cases hb
  |1,hj=>cases hj;cases hb
  |2,hj=>cases hj;cases hb
  |j+3,hj=>simp at hj
 refine⟨_,rfl,?_,⟨us.take (i*2)++us.drop ((i+1)*2),⟨?_,.inr ⟨g,cap,r2,?_,Nat.zero_le _,⟨fz,hrow2,by rw[hr2s];exact hfz⟩,?_,hcm,by rw[hr2s,hcs],?_⟩⟩,?_,?_,?_,?_⟩,?_,?_⟩
 ·exact⟨by rw[eW2];rfl,by rw[eW2];rfl,by rw[eW2];rfl,by rw[hsize];exact Nat.le_refl _,fun k _ hk=>hother k (fun e=>hk (by rw[e];exact hlent))⟩
 ·simp[hus];omega
 ·simp;omega
 ·simp;omega
 ·rw[←hpre];congr 1;simp;omega
 ·have hfl:((l.take i++l.drop (i+1)).map Head.row).flatten=(l.map Head.row).flatten.take (i*2)++(l.map Head.row).flatten.drop ((i+1)*2):=by
   rw[List.map_append,List.flatten_append,List.map_take,List.map_drop,zcN hx,zdF hx]
  rw[hfl]
  have hl2:zbP W2 (fun b=>After w W2 E [.dead,.dead,.dead] #[.slice (some ⟨g,0,none⟩) l.length cap,.int .i64 i,.int .i64 ((i:Int)+1)] b∧Value.ownBlock (.slice (some ⟨g,0,none⟩) (l.length-1) cap)≠some b) (l.map Head.row).flatten us:=
   hl.mono (fun b hb=>⟨⟨.inl hb,hno b⟩,fun h=>hg1 b hb (by simpa[Value.ownBlock] using h.symm)⟩) (fun b hb=>hother b (hg1 b hb))
  have hfll:(l.map Head.row).flatten.length=us.length:=hl2.1.symm
  refine⟨by simp[hfll],fun j c hj=>?_⟩
  rw[List.getElem?_append] at hj ⊢
  have hlt1:((l.map Head.row).flatten.take (i*2)).length=(us.take (i*2)).length:=by simp[hfll]
  rw[hlt1] at hj
  split at hj
  ·rename_i h
   rw[if_pos h]
   rw[List.getElem?_take] at hj ⊢
   split at hj
   ·rename_i h'
    rw[if_pos h']
    exact hl2.2 _ _ hj
   ·cases hj
  ·rename_i h
   rw[if_neg h]
   rw[List.getElem?_drop] at hj ⊢
   exact hl2.2 _ _ hj
 ·intro x hxm
  obtain⟨h,_,rfl⟩:=List.mem_map.1 hxm
  rfl
 ·simp;unfold maxLen;omega
 ·intro b hb
  have hb:g=b:=by simpa[Value.ownBlock] using hb
  subst hb
  exact⟨.inr (.inl hlent),hno g⟩
 ·intro b hb
  have hb:g=b:=by simpa[RV.blk,Value.ownBlock] using hb
  subst hb
  exact⟨⟨.inr (.inl hlent),hno g⟩,fun h=>hE.apart g h hlent⟩
 ·intro j o hj
  match j,hj with
  |0,hj=>cases hj;trivial
  |1,hj=>cases hj;trivial
  |2,hj=>cases hj;trivial
  |j+3,hj=>simp at hj
end Go.Proofs.YtlcmnclbljedfaaGreatDoor
