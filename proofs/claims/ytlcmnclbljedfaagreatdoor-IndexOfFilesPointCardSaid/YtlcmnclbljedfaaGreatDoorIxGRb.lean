/- A part of the proof: lemmas and contracts of functions. -/
import Derived.Test.YtlcmnclbljedfaaGreatDoorIxGRa
import Derived.Shelf.Lays
import Derived.Test.YtlcmnclbljedfaaGreatDoorProg
import Derived.KernelRfl
import Derived.Shelf.Strings.Cut
set_option linter.all false
namespace Go.Proofs.YtlcmnclbljedfaaGreatDoor
open Go Go.Ab
variable [Amb] [HasPow10 Tryz.prog]
set_option maxRecDepth 100000
set_option maxHeartbeats 4000000
def valC (c:UInt8):Bool:=(decide (32≤c.toNat)&&decide (c.toNat≤126)) || decide (c.toNat=9)
theorem valC_in {c:UInt8} (h:(32≤c.toNat∧c.toNat≤126)∨c.toNat=9):valC c=true:=by
 unfold valC
 rcases h with h | h
 ·simp [h.1,h.2]
 ·simp [h]
theorem valC_out {c:UInt8} (h:¬((32≤c.toNat∧c.toNat≤126)∨c.toNat=9)):valC c=false:=by
 unfold valC
 cases h1:decide (32≤c.toNat)<;>cases h2:decide (c.toNat≤126)<;>cases h3:decide (c.toNat=9) <;>
  simp only [decide_eq_true_eq,decide_eq_false_iff_not] at h1 h2 h3<;>first | rfl | (exfalso;omega)
def blankCs:List UInt8:=[32,9]
def trimB (s:List UInt8):List UInt8:=Lib.trimS s blankCs
def valB (s:List UInt8):Bool:=decide (s.length≤1000)&&(decide (trimB s=s)&&s.all valC)
theorem message_trim (s:List UInt8):ACalls Tryz.prog 154 [.one (.str s)] (.x (.one (.str (trimB s)))):=by
 have h:=strings_Trim s blankCs (by decide) (by decide)
 unfold trimB
 unfold blankCs at *
 generalize Lib.trimS s [32,9]=T at h ⊢
 refine ACalls.of mixed (fn:=Tryz.f154) (by kernel_rfl) (by kernel_rfl) rfl (by kernel_rfl) (by simp [Tryz.f154]) (fun hok=>?_)
 simp -implicitDefEqProofs
 refine ACallK.of h ?_
 simp -implicitDefEqProofs
theorem message_isValue (s:List UInt8):ACalls Tryz.prog 200 [.one (.str s)] (.x (.one (.bool (valB s)))):=by
 obtain ⟨B,eB⟩:∃B,B=valB s:=⟨_,rfl⟩
 rw [←eB]
 have hbad:∀i (h:i<s.length),valC s[i]=false→B=false:=fun i h hc=>by rw [eB];unfold valB;rw [all_bad h hc,Bool.and_false,Bool.and_false]
 have ht:=message_trim s
 refine ACalls.of mixed (fn:=Tryz.f200) (by kernel_rfl) (by kernel_rfl) rfl (by kernel_rfl) (by simp [Tryz.f200]) (fun hok=>?_)
 by_cases h1:1000<s.length
 ·have hB:B=false:=by rw [eB];unfold valB;rw [decide_eq_false (by omega),Bool.false_and]
  have h1':(1000<(s.length:Int))=True:=eq_true (by omega)
  simp -implicitDefEqProofs [h1',hB]
  refine ACallGS.of (fun h=>by cases h) (r:=.x (.one (.str []))) rfl ?_
  simp -implicitDefEqProofs [h1',hB]
 have h1':(1000<(s.length:Int))=False:=eq_false (by omega)
 simp -implicitDefEqProofs [h1']
 refine ACallGS.of (fun _=>ht) rfl ?_
 by_cases hT:trimB s=s
 rotate_left
 ·have hB:B=false:=by rw [eB];unfold valB;rw [decide_eq_false hT,Bool.false_and,Bool.and_false]
  have b1:(trimB s==s)=false:=by simpa using hT
  have b2:(trimB s != s)=true:=by simpa using hT
  simp -implicitDefEqProofs [b1,b2,hB]
 have b1:(trimB s==s)=true:=by simpa using hT
 have b2:(trimB s != s)=false:=by simpa using hT
 simp -implicitDefEqProofs [b1,b2]
 refine ALoopS.of Nat (fun i=>[(0,.x (.one (.str s))),(14,.x (.one (.int .i64 s.length))),(15,.x (.one (.int .i64 i)))]) (Upto valC s) (fun i=>s.length-i) 0 Upto.zero ?_ ?_
 ·simp
 intro i hi
 have hle:=hi.1
 by_cases hlt:i<s.length
 ·have hlt':((i:Int)<(s.length:Int))=True:=eq_true (by omega)
  have hwr:IntKind.i64.wrap ((i:Int)+1)=(i:Int)+1:=wrapS _ (by omega)
  have h255:=s[i].toNat_lt
  have hcl:(s[i].toNat≤8)∨(9≤s[i].toNat∧s[i].toNat≤9)∨(10≤s[i].toNat∧s[i].toNat≤31)∨(32≤s[i].toNat∧s[i].toNat≤126)∨(127≤s[i].toNat):=by omega
  rcases hcl with hcl | hcl | hcl | hcl | hcl
  ·-- 0..8
   have p0:((s[i].toNat:Int)<32)=True:=eq_true (by omega)
   have p1:(126<(s[i].toNat:Int))=False:=eq_false (by omega)
   have p2:((s[i].toNat:Int)=9)=False:=eq_false (by omega)
   have q:((s[i].toNat:Int) != 9)=true:=by rw [bne_iff_ne];omega
   have hB:=hbad i hlt (valC_out (by omega))
   simp -implicitDefEqProofs [hlt,hlt',q,hB,p0,p1,p2]
  ·-- 9..9
   have p0:((s[i].toNat:Int)<32)=True:=eq_true (by omega)
   have p1:(126<(s[i].toNat:Int))=False:=eq_false (by omega)
   have p2:((s[i].toNat:Int)=9)=True:=eq_true (by omega)
   have q:((s[i].toNat:Int) != 9)=false:=by rw [bne_eq_false_iff_eq];omega
   simp -implicitDefEqProofs [hlt,hlt',q,hwr,p0,p1,p2]
   exact Again.of (i+1) (hi.step hlt (valC_in (by omega))) (by omega) (by simp [hwr])
  ·-- 10..31
   have p0:((s[i].toNat:Int)<32)=True:=eq_true (by omega)
   have p1:(126<(s[i].toNat:Int))=False:=eq_false (by omega)
   have p2:((s[i].toNat:Int)=9)=False:=eq_false (by omega)
   have q:((s[i].toNat:Int) != 9)=true:=by rw [bne_iff_ne];omega
   have hB:=hbad i hlt (valC_out (by omega))
   simp -implicitDefEqProofs [hlt,hlt',q,hB,p0,p1,p2]
  ·-- 32..126
   have p0:((s[i].toNat:Int)<32)=False:=eq_false (by omega)
   have p1:(126<(s[i].toNat:Int))=False:=eq_false (by omega)
   have p2:((s[i].toNat:Int)=9)=False:=eq_false (by omega)
   have q:((s[i].toNat:Int) != 9)=true:=by rw [bne_iff_ne];omega
   simp -implicitDefEqProofs [hlt,hlt',q,hwr,p0,p1,p2]
   exact Again.of (i+1) (hi.step hlt (valC_in (by omega))) (by omega) (by simp [hwr])
  ·-- 127..255
   have p0:((s[i].toNat:Int)<32)=False:=eq_false (by omega)
   have p1:(126<(s[i].toNat:Int))=True:=eq_true (by omega)
   have p2:((s[i].toNat:Int)=9)=False:=eq_false (by omega)
   have q:((s[i].toNat:Int) != 9)=true:=by rw [bne_iff_ne];omega
   have hB:=hbad i hlt (valC_out (by omega))
   simp -implicitDefEqProofs [hlt,hlt',q,hB,p0,p1,p2]
 ·have hlt':((i:Int)<(s.length:Int))=False:=eq_false (by omega)
  have hB:B=true:=by rw [eB];unfold valB;rw [hi.done hlt,decide_eq_true hT,decide_eq_true (by omega)];rfl
  simp -implicitDefEqProofs [hlt',hB]
structure Head where
 name:List UInt8
 value:List UInt8
def Head.row (h:Head):List CV:=[.str h.name,.str h.value]
abbrev headsV (l:List Head):XV:=.one (.list 2 (l.map Head.row))
def headF (h:Head):Int:=if tokB h.name=false then 5 else if valB h.value=false then 3 else 0
def headsG:List Head→Int
 | []=>0
 | h::r=>if headF h=0 then headsG r else headF h
def headsF (l:List Head):Int:=if 100<l.length then 2 else headsG l
theorem message_CheckHeads (l:List Head):ACalls Tryz.prog 132 [headsV l] (.x (.one (.int .i64 (headsF l)))):=by
 obtain ⟨F,eF⟩:∃F,F=headsF l:=⟨_,rfl⟩
 rw [←eF]
 unfold headsF at eF
 refine ACalls.of mixed (fn:=Tryz.f132) (by kernel_rfl) (by kernel_rfl) rfl (by kernel_rfl) (by simp [Tryz.f132]) (fun hok=>?_)
 by_cases h1:100<l.length
 ·have h1':(100<(l.length:Int))=True:=eq_true (by omega)
  rw [if_pos h1] at eF
  subst eF
  simp -implicitDefEqProofs [h1']
 have h1':(100<(l.length:Int))=False:=eq_false (by omega)
 rw [if_neg h1] at eF
 simp -implicitDefEqProofs [h1']
 refine ALoopS.of Nat (fun i=>[(8,.x (headsV l)),(9,.x (.one (.int .i64 l.length))),(10,.x (.one (.int .i64 i)))]) (fun i=>i≤l.length∧F=headsG (l.drop i)) (fun i=>l.length-i) 0 ⟨Nat.zero_le _,eF⟩ ?_ ?_
 ·simp
 rintro i ⟨hi,hF⟩
 by_cases hlt:i<l.length
 ·have hlt':((i:Int)<(l.length:Int))=True:=eq_true (by omega)
  have hwr:IntKind.i64.wrap ((i:Int)+1)=(i:Int)+1:=wrapS _ (by omega)
  rw [List.drop_eq_getElem_cons hlt,headsG] at hF
  have hrow:l[i].row=[.str l[i].name,.str l[i].value]:=rfl
  have k1:=message_isToken l[i].name
  have k2:=message_isValue l[i].value
  have hf:headF l[i]=if tokB l[i].name=false then 5 else if valB l[i].value=false then 3 else 0:=rfl
  generalize tokB l[i].name=p at k1 hf
  generalize valB l[i].value=q at k2 hf
  simp -implicitDefEqProofs [hlt,hlt',hrow]
  refine ACallK.of k1 ?_
  cases p
  ·rw [if_pos rfl] at hf
   rw [hf,if_neg (by decide)] at hF
   subst hF
   simp -implicitDefEqProofs
  ·rw [if_neg (by decide)] at hf
   simp -implicitDefEqProofs [hlt,hlt',hrow]
   refine ACallK.of k2 ?_
   cases q
   ·rw [if_pos rfl] at hf
    rw [hf,if_neg (by decide)] at hF
    subst hF
    simp -implicitDefEqProofs
   ·rw [if_neg (by decide)] at hf
    rw [hf,if_pos rfl] at hF
    simp -implicitDefEqProofs [hwr]
    exact Again.of (i+1) ⟨by omega,hF⟩ (by omega) (by simp [hwr])
 ·have hlt':((i:Int)<(l.length:Int))=False:=eq_false (by omega)
  have hF:F=0:=by rw [hF,List.drop_of_length_le (by omega)];rfl
  subst hF
  simp -implicitDefEqProofs [hlt']
end Go.Proofs.YtlcmnclbljedfaaGreatDoor
namespace Go.Proofs.YtlcmnclbljedfaaGreatDoor
open Go Go.Ab
variable [Amb]
set_option maxRecDepth 100000
set_option maxHeartbeats 4000000
abbrev fileB (b:List UInt8):CV:=.list 1 (byteRows b)
def crl:List UInt8→Option (List UInt8)
 | []=>none
 | c::r=>if c=13∧r.head?=some 10 then some [] else if c=13∨c=10 then none else (crl r).map (c::·)
def crlS (b:List UInt8) (a:Nat):List UInt8:=(crl (b.drop a)).getD []
def crlN (b:List UInt8) (a:Nat):Nat:=match crl (b.drop a) with
 | some l=>a+l.length+2
 | none=>a
def crlB (b:List UInt8) (a:Nat):Bool:=(crl (b.drop a)).isSome
theorem crl_take:∀{b l:List UInt8},crl b=some l→l=b.take l.length∧l.length+2≤b.length
 | [],l,h=>by simp [crl] at h
 | c::r,l,h=>by
  unfold crl at h
  split at h
  ·rename_i hc
   injection h with h
   subst h
   cases r with
   | nil=>simp at hc
   | cons d r=>exact ⟨rfl,by simp⟩
  ·split at h
   ·cases h
   ·cases hl:crl r with
    | none=>rw [hl] at h;cases h
    | some l' =>
     rw [hl] at h
     simp only [Option.map_some,Option.some.injEq] at h
     subst h
     obtain ⟨h1,h2⟩:=crl_take hl
     exact ⟨by simp [←h1],by simp;omega⟩
def LineAt (b:List UInt8) (a i:Nat):Prop:=a≤i∧i≤b.length∧∀k,crl (b.drop i)=k→crl (b.drop a)=k.map ((b.drop a).take (i-a)++·)
theorem LineAt.zero {b:List UInt8} {a:Nat} (h:a≤b.length):LineAt b a a:=⟨Nat.le_refl _,h,fun k hk=>by rw [hk];cases k<;>simp⟩
theorem drop_cons' {b:List UInt8} {i:Nat} (h:i<b.length):b.drop i=b[i]::b.drop (i+1):=List.drop_eq_getElem_cons h
theorem take_succ' {b:List UInt8} {a i:Nat} (h1:a≤i) (h2:i<b.length):(b.drop a).take (i+1-a)=(b.drop a).take (i-a)++[b[i]]:=by
 rw [show i+1-a=(i-a)+1 by omega,List.take_add_one,List.getElem?_drop,show a+(i-a)=i by omega,List.getElem?_eq_getElem h2]
 rfl
theorem LineAt.step {b:List UInt8} {a i:Nat} (h:LineAt b a i) (hlt:i<b.length) (h1:b[i]≠13) (h2:b[i]≠10):LineAt b a (i+1):=by
 obtain ⟨k1,k2,k3⟩:=h
 refine ⟨by omega,by omega,fun k hk=>?_⟩
 rw [k3 (k.map (b[i]::·)) ?_]
 ·rw [take_succ' k1 hlt]
  cases k<;>simp
 ·rw [drop_cons' hlt]
  unfold crl
  rw [if_neg (by rintro ⟨h,_⟩;exact h1 h),if_neg (by rintro (h | h);exact h1 h;exact h2 h),hk]
theorem LineAt.none {b:List UInt8} {a i:Nat} (h:LineAt b a i) (he:crl (b.drop i)=none):crl (b.drop a)=none:=by rw [h.2.2 Option.none he];rfl
theorem LineAt.some {b:List UInt8} {a i:Nat} (h:LineAt b a i) (he:crl (b.drop i)=some []):crl (b.drop a)=some ((b.drop a).take (i-a)):=by rw [h.2.2 _ he];simp
theorem byteI (k:Nat) (hk:k<256) (c:UInt8):((c.toNat:Int)=(k:Int))=(c=UInt8.ofNat k):=by
 apply propext
 constructor
 ·intro h
  have:c.toNat=k:=by exact_mod_cast h
  rw [←this];simp
 ·rintro rfl
  simp [Nat.mod_eq_of_lt hk]
theorem byte13 (c:UInt8):((c.toNat:Int)=13)=(c=13):=byteI 13 (by decide) c
theorem byte10 (c:UInt8):((c.toNat:Int)=10)=(c=10):=byteI 10 (by decide) c
theorem cut_rows {b:List UInt8} {a i:Nat} (h:a≤i):cutAt (byteRows b) (a:Int) (i:Int)=byteRows ((b.drop a).take (i-a)):=by
 unfold cutAt byteRows
 rw [show ((i:Int)).toNat=i by omega,show ((a:Int)).toNat=a by omega,List.drop_take,List.map_take,List.map_drop]
theorem message_Line (b:List UInt8) (a:Nat) (hb:b.length≤16777216) (ha:a≤b.length):ACalls Tryz.prog 197 [.one (fileB b),.one (.int .i64 a)] (.tup [.one (.str (crlS b a)),.one (.int .i64 (crlN b a)),.one (.bool (crlB b a))]):=by
 obtain ⟨S,eS⟩:∃S,S=crlS b a:=⟨_,rfl⟩
 obtain ⟨M,eM⟩:∃M,M=crlN b a:=⟨_,rfl⟩
 obtain ⟨B,eB⟩:∃B,B=crlB b a:=⟨_,rfl⟩
 rw [←eS,←eM,←eB]
 have hno:crl (b.drop a)=none→S=[]∧M=a∧B=false:=fun h=>by subst eS eM eB;simp [crlS,crlN,crlB,h]
 have hyes:∀l,crl (b.drop a)=some l→S=l∧M=a+l.length+2∧B=true:=fun l h=>by subst eS eM eB;simp [crlS,crlN,crlB,h]
 refine ACalls.of mixed (fn:=Tryz.f197) (by kernel_rfl) (by kernel_rfl) rfl (by kernel_rfl) (by simp [Tryz.f197]) (fun hok=>?_)
 simp -implicitDefEqProofs +contextual [-Bool.and_eq_false_imp,Bool.and_eq_false_iff]
 refine ALoopS.of Nat (fun i=>[(0,.x (.one (fileB b))),(1,.x (.one (.int .i64 a))),(4,.x (.one (.str []))),(5,.x (.one (.int .i64 0))),(6,.x (.one (.bool false))),(7,.x (.one (.int .i64 i)))]) (fun i=>LineAt b a i) (fun i=>b.length-i) a (LineAt.zero ha) ?_ ?_
 ·simp
 rintro i hi
 obtain ⟨h1,h2,h3⟩:=id hi
 have hcut:cutAt (byteRows b) (a:Int) (i:Int)=byteRows ((b.drop a).take (i-a)):=cut_rows h1
 by_cases hlt:i<b.length
 ·have hlt':((i:Int)<(b.length:Int))=True:=eq_true (by omega)
  have hwr:IntKind.i64.wrap ((i:Int)+1)=(i:Int)+1:=wrapS _ (by omega)
  have hwr2:IntKind.i64.wrap ((i:Int)+2)=(i:Int)+2:=wrapS _ (by omega)
  have hdr:=drop_cons' hlt
  have hat:∀h,(byteRows b)[i]'h=[.int .u8 b[i].toNat]:=fun h=>by simp [byteRows,byteRow]
  have hnone:b[i]=13∨b[i]=10→¬(b[i]=13∧(b.drop (i+1)).head?=some 10)→S=[]∧(M:Int)=(a:Int)∧B=false:=by
   intro hc hd
   obtain ⟨k1,k2,k3⟩:=hno (hi.none (by rw [hdr];unfold crl;rw [if_neg hd,if_pos hc]))
   exact ⟨k1,by rw [k2],k3⟩
  have hgo:¬b[i]=13→¬b[i]=10→LineAt b a (i+1):=fun c1 c2=>hi.step hlt c1 c2
  by_cases hn:i+1<b.length
  ·have hn':((i:Int)+1<(b.length:Int))=True:=eq_true (by omega)
   have hat2:∀h,(byteRows b)[i+1]'h=[.int .u8 b[i+1].toNat]:=fun h=>by simp [byteRows,byteRow]
   have hhd:(b.drop (i+1)).head?=some b[i+1]:=by rw [drop_cons' hn];rfl
   simp -implicitDefEqProofs [hlt,hlt',hwr,hwr2,hn,hn',hat,hat2,hcut,byte13,byte10]
   refine ⟨fun c=>by first | omega | exact ⟨c,by omega⟩,fun c1 c2=>?_,fun c=>⟨fun d=>hnone d (by rw [hhd];rintro ⟨d1,d2⟩;exact c d1 (by simpa using d2)),fun c1 c2=>Again.of (i+1) (hgo c1 c2) (by omega) ?_⟩⟩
   ·obtain ⟨k1,k2,k3⟩:=hyes _ (hi.some (by rw [hdr];unfold crl;rw [if_pos ⟨c1,by rw [hhd,c2]⟩]))
    refine ⟨⟨h1,h2⟩,k1,?_,k3⟩
    rw [k2,List.length_take,List.length_drop,Nat.min_eq_left (by omega)]
    omega
   ·simp
  ·have hn':((i:Int)+1<(b.length:Int))=False:=eq_false (by omega)
   have hhd:(b.drop (i+1)).head?=none:=by rw [List.drop_eq_nil_of_le (by omega)];rfl
   have hz:b[i+1]?=none:=List.getElem?_eq_none (by omega)
   simp -implicitDefEqProofs [hlt,hlt',hwr,hwr2,hn',hat,hz,byte13,byte10]
   exact ⟨fun d=>hnone d (by rw [hhd];rintro ⟨_,d2⟩;cases d2),fun c1 c2=>Again.of (i+1) (hgo c1 c2) (by omega) (by simp)⟩
 ·have hlt':((i:Int)<(b.length:Int))=False:=eq_false (by omega)
  obtain ⟨k1,k2,k3⟩:=hno (hi.none (by rw [List.drop_eq_nil_of_le (by omega)];rfl))
  simp -implicitDefEqProofs [hlt',k1,k2,k3]
structure RS where
 b:List UInt8
 at_:Nat
 kind:Int
 id:List UInt8
 of:List UInt8
 time:Int
 key:List UInt8
 heads:List Head
 length:Int
 digest:List UInt8
def hdC (l:List Head):CV:=if l=[] then .nil else .list 2 (l.map Head.row)
@[simp] theorem isAny_hdC (l:List Head):(hdC l).isAny=false:=by unfold hdC;split<;>rfl
def RS.cells (x:RS):List CV:=[fileB x.b,.int .i64 x.at_,.int .i64 x.kind,.str x.id,.str x.of,.int .i64 x.time,.str x.key,hdC x.heads,.nil,.int .i64 x.length,.str x.digest]
def RS.ok (x:RS):Prop:=x.b.length≤16777216∧x.at_≤x.b.length
def colonS:List UInt8:=[58,32]
theorem crlN_le {b:List UInt8} {a:Nat} (h:a≤b.length):crlN b a≤b.length:=by
 unfold crlN
 split
 ·rename_i l e
  have:=(crl_take e).2
  simp at this;omega
 ·exact h
theorem crlS_len (b:List UInt8) (a:Nat):(crlS b a).length≤b.length:=by
 unfold crlS
 cases e:crl (b.drop a) with
 | none=>simp
 | some l=>have:=(crl_take e).2;simp at this ⊢;omega
def wholeB (x:RS) (w:List UInt8):Bool:=crlB x.b x.at_&&decide (crlS x.b x.at_=w)
def wholeX (x:RS) (w:List UInt8):RS:=if wholeB x w=true then { x with at_:=crlN x.b x.at_ } else x
theorem reader_whole (x:RS) (w:List UInt8) (hx:x.ok):ACallsM Tryz.prog 172 [.box x.cells,.x (.one (.str w))] (.x (.one (.bool (wholeB x w)))) [.box (wholeX x w).cells,.dead]:=by
 have k:=message_Line x.b x.at_ hx.1 hx.2
 obtain ⟨X,eX⟩:∃X,X=wholeX x w:=⟨_,rfl⟩
 obtain ⟨B,eB⟩:∃B,B=wholeB x w:=⟨_,rfl⟩
 rw [←eX,←eB]
 unfold wholeX at eX
 rw [←eB] at eX
 unfold wholeB at eB
 generalize crlS x.b x.at_=S at k eB
 generalize crlN x.b x.at_=N at k eX
 generalize crlB x.b x.at_=L at k eB
 unfold RS.cells at *
 refine ACallsM.of mixed (fn:=Tryz.f172) (by kernel_rfl) (by kernel_rfl) rfl (by kernel_rfl) (by kernel_rfl) rfl (by simp [Tryz.f172]) (fun hok=>?_)
 simp -implicitDefEqProofs
 refine ACallK.of k ?_
 cases L
 ·simp only [Bool.false_and] at eB
  subst eB
  rw [if_neg (by decide)] at eX
  subst eX
  simp -implicitDefEqProofs
 ·by_cases hS:S=w
  ·have hS':(S==w)=true:=by simpa using hS
   simp only [Bool.true_and,decide_eq_true hS] at eB
   subst eB
   rw [if_pos rfl] at eX
   subst eX
   simp -implicitDefEqProofs [hS]
  ·simp only [Bool.true_and,decide_eq_false hS] at eB
   subst eB
   rw [if_neg (by decide)] at eX
   subst eX
   simp -implicitDefEqProofs [hS]
def isB (x:RS) (w:List UInt8):Bool:=hasPre (x.b.drop x.at_) (w++colonS)
theorem isB_cut (x:RS) (w:List UInt8) (hx:x.ok) (M:Nat) (eM:M=min x.b.length (x.at_+w.length+2)):hasPre ((x.b.drop x.at_).take (M-x.at_)) (w++colonS)=isB x w:=by
 have h2:=hx.2
 unfold isB hasPre
 rw [Bool.eq_iff_iff,List.isPrefixOf_iff_prefix,List.isPrefixOf_iff_prefix]
 constructor
 ·exact fun h=>h.trans (List.take_prefix _ _)
 ·intro h
  rw [List.prefix_take_iff]
  refine ⟨h,?_⟩
  have:=h.length_le
  simp [colonS] at this ⊢
  omega
theorem reader_is (x:RS) (w:List UInt8) (hx:x.ok) (hw:w.length≤100):ACallsM Tryz.prog 174 [.box x.cells,.x (.one (.str w))] (.x (.one (.bool (isB x w)))) [.box x.cells,.dead]:=by
 obtain ⟨M,eM⟩:∃M,M=min x.b.length (x.at_+w.length+2):=⟨_,rfl⟩
 have k:=strings_HasPrefix ((x.b.drop x.at_).take (M-x.at_)) (w++colonS)
 have e:hasPre ((x.b.drop x.at_).take (M-x.at_)) (w++colonS)=isB x w:=by
  have h2:=hx.2
  unfold isB hasPre
  rw [Bool.eq_iff_iff,List.isPrefixOf_iff_prefix,List.isPrefixOf_iff_prefix]
  constructor
  ·exact fun h=>h.trans (List.take_prefix _ _)
  ·intro h
   rw [List.prefix_take_iff]
   refine ⟨h,?_⟩
   have:=h.length_le
   simp [colonS] at this ⊢
   omega
 rw [e] at k
 generalize isB x w=B at k
 have h2:=hx.2
 have h1:=hx.1
 have hw1:IntKind.i64.wrap ((x.at_:Int)+(w.length:Int))=(x.at_:Int)+(w.length:Int):=wrapS _ (by omega)
 have hw2:IntKind.i64.wrap ((x.at_:Int)+(w.length:Int)+2)=(x.at_:Int)+(w.length:Int)+2:=wrapS _ (by omega)
 have hmin:min (x.b.length:Int) ((x.at_:Int)+(w.length:Int)+2)=(M:Int):=by omega
 have hcut:cutAt (byteRows x.b) (x.at_:Int) (M:Int)=byteRows ((x.b.drop x.at_).take (M-x.at_)):=cut_rows (by omega)
 unfold RS.cells at *
 refine ACallsM.of mixed (fn:=Tryz.f174) (by kernel_rfl) (by kernel_rfl) rfl (by kernel_rfl) (by kernel_rfl) rfl (by simp [Tryz.f174]) (fun hok=>?_)
 simp -implicitDefEqProofs [hw1,hw2,hmin,hcut]
 refine ⟨by omega,by unfold maxLen;omega,ACallK.of k ?_⟩
 simp -implicitDefEqProofs
theorem stringslite_CutPrefixR (s p:List UInt8):ACalls Tryz.prog 239 [.one (.str s),.one (.str p)] (.tup [.one (.str (if hasPre s p=true then s.drop p.length else s)),.one (.bool (hasPre s p))]):=by
 refine ACalls.of mixed (fn:=Tryz.f239) (by kernel_rfl) (by kernel_rfl) rfl (by kernel_rfl) (by simp [Tryz.f239]) (fun hok=>?_)
 simp -implicitDefEqProofs
 refine ACallK.of (stringslite_HasPrefix s p) ?_
 cases h:hasPre s p
 ·simp -implicitDefEqProofs
 ·have hl:p.length≤s.length:=(List.isPrefixOf_iff_prefix.1 h).length_le
  have g1:((p.length:Int)≤(s.length:Int))=True:=eq_true (by omega)
  simp -implicitDefEqProofs [g1,hl]
theorem strings_CutPrefixR (s p:List UInt8):ACalls Tryz.prog 156 [.one (.str s),.one (.str p)] (.tup [.one (.str (if hasPre s p=true then s.drop p.length else s)),.one (.bool (hasPre s p))]):=by
 refine ACalls.of mixed (fn:=Tryz.f156) (by kernel_rfl) (by kernel_rfl) rfl (by kernel_rfl) (by simp [Tryz.f156]) (fun hok=>?_)
 simp -implicitDefEqProofs
 refine ACallK.of (stringslite_CutPrefixR s p) ?_
 simp -implicitDefEqProofs
theorem lines_text (s:List UInt8) (cs:List CV) (off:Nat) (h:off<cs.length) (ht:anyL ((cs.drop off).take 1)=false) (b:Nat):ACallsM Tryz.prog 171 [.x (.one (.str s)),.ptr2 2 off,.gbox b cs] (.x (.one (.bool true))) [.dead,.dead,.gbox b (setRange cs off [.str s])]:=by
 refine ACallsM.of mixed (fn:=Tryz.f171) (by kernel_rfl) (by kernel_rfl) rfl (by kernel_rfl) (by kernel_rfl) (by simp [outsFit,outFits]) (by simp [Tryz.f171]) (fun hok=>?_)
 simp -implicitDefEqProofs [ht]
 exact h
theorem lines_of (s:List UInt8) (x:RS) (b:Nat):ACallsM Tryz.prog 175 [.x (.one (.str s)),.ptr2 2 0,.gbox b x.cells] (.x (.one (.bool (decide (s≠[]))))) [.dead,.dead,.gbox b { x with of:=s }.cells]:=by
 unfold RS.cells
 refine ACallsM.of mixed (fn:=Tryz.f175) (by kernel_rfl) (by kernel_rfl) rfl (by kernel_rfl) (by kernel_rfl) (by simp [outsFit,outFits]) (by simp [Tryz.f175]) (fun hok=>?_)
 cases s with
 | nil=>simp -implicitDefEqProofs
 | cons c r=>simp -implicitDefEqProofs
def kindsL:List (List UInt8):=[[105,110,102,111],[114,101,113,117,101,115,116],[97,110,115,119,101,114],[114,101,118,105,115,105,116],[112,105,101,99,101]]
theorem record_kinds:ACalls Tryz.prog 78 [] (.x (strs kindsL)):=by
 refine ACalls.of mixed (fn:=Tryz.f78) (by kernel_rfl) (by kernel_rfl) rfl (by kernel_rfl) (by simp [Tryz.f78]) (fun hok=>?_)
 simp -implicitDefEqProofs [kindsL]
def lineB (x:RS) (w:List UInt8) (F:List UInt8→Bool):Bool:=crlB x.b x.at_&&(hasPre (crlS x.b x.at_) (w++colonS)&&F ((crlS x.b x.at_).drop (w.length+2)))
def lineX (x:RS) (w:List UInt8) (F:List UInt8→Bool) (G:List UInt8→RS):RS:=
 if crlB x.b x.at_=true∧hasPre (crlS x.b x.at_) (w++colonS)=true then
  (if F ((crlS x.b x.at_).drop (w.length+2))=true then { G ((crlS x.b x.at_).drop (w.length+2)) with at_:=crlN x.b x.at_ } else G ((crlS x.b x.at_).drop (w.length+2)))
 else x
theorem reader_line (x:RS) (w:List UInt8) (g off:Nat) (F:List UInt8→Bool) (G:List UInt8→RS) (hx:x.ok) (hw:w.length≤100)
  (hg:∀s,s.length≤x.b.length→∀b,ACallsM Tryz.prog g [.x (.one (.str s)),.ptr2 2 off,.gbox b x.cells] (.x (.one (.bool (F s)))) [.dead,.dead,.gbox b (G s).cells]) :
  ACallsM Tryz.prog 173 [.box x.cells,.x (.one (.str w)),.cloR g [.inr (0,off+1000000)]] (.x (.one (.bool (lineB x w F)))) [.box (lineX x w F G).cells,.dead,.dead]:=by
 have k:=message_Line x.b x.at_ hx.1 hx.2
 have k2:=strings_CutPrefixR (crlS x.b x.at_) (w++colonS)
 have hg':=hg ((crlS x.b x.at_).drop (w.length+2)) (by have:=crlS_len x.b x.at_;simp;omega)
 have hlen:(w++colonS).length=w.length+2:=by simp [colonS]
 rw [hlen] at k2
 obtain ⟨X,eX⟩:∃X,X=lineX x w F G:=⟨_,rfl⟩
 obtain ⟨B,eB⟩:∃B,B=lineB x w F:=⟨_,rfl⟩
 rw [←eX,←eB]
 unfold lineX at eX
 unfold lineB at eB
 generalize crlS x.b x.at_=S at k k2 hg' eB eX
 generalize crlN x.b x.at_=N at k eX
 generalize crlB x.b x.at_=L at k eB eX
 generalize hasPre S (w++colonS)=H at k2 eB eX
 unfold colonS at k2
 refine ACallsM.of mixed (fn:=Tryz.f173) (by kernel_rfl) (by kernel_rfl) rfl (by kernel_rfl) (by kernel_rfl) rfl (by simp [Tryz.f173]) (fun hok=>?_)
 unfold RS.cells at hg' ⊢
 simp -implicitDefEqProofs
 refine ACallK.of k ?_
 simp -implicitDefEqProofs
 refine ⟨by unfold maxLen;omega,ACallK.of k2 ?_⟩
 cases L
 ·rw [if_neg (by simp)] at eX
  simp only [Bool.false_and] at eB
  subst eX;subst eB
  simp -implicitDefEqProofs
 ·cases H
  ·rw [if_neg (by simp)] at eX
   simp only [Bool.false_and,Bool.and_false] at eB
   subst eX;subst eB
   simp -implicitDefEqProofs
  ·rw [if_pos (by simp)] at eX
   simp only [Bool.true_and] at eB
   simp -implicitDefEqProofs
   refine ACallMG.of (outs:=[.dead,.dead]) hg' ?_
   generalize G (S.drop (w.length+2))=Y at eX ⊢
   cases hF:F (S.drop (w.length+2))<;>rw [hF] at eX eB<;>subst eB
   ·rw [if_neg (by decide)] at eX
    subst eX
    simp -implicitDefEqProofs
   ·rw [if_pos rfl] at eX
    subst eX
    simp -implicitDefEqProofs
def numK (k:Nat) (s:List UInt8):Bool:=s.all isDig&&(decide (1≤s.length)&&(decide (s.length≤k)&&!lead0 s))
theorem numK_cons (k:Nat) (b:UInt8) (r:List UInt8):numK k (b::r)=((b::r).all isDig&&(decide (r.length+1≤k)&&(decide (b≠48) || decide (r=[])))):=by
 unfold numK lead0
 rw [List.length_cons,List.head?_cons]
 have h1:decide (1≤r.length+1)=true:=by simp
 rw [h1,Bool.true_and]
 congr 2
 cases r with
 | nil=>simp
 | cons x y=>simp
theorem message_DigitsK (k:Nat) (hk:k≤100000) (s:List UInt8):ACalls Tryz.prog 180 [.one (.str s),.one (.int .i64 k)] (.x (.one (.bool (numK k s)))):=by
 refine ACalls.of mixed (fn:=Tryz.f180) (by kernel_rfl) (by kernel_rfl) rfl (by kernel_rfl) (by simp [Tryz.f180]) (fun hok=>?_)
 cases s with
 | nil =>
  simp -implicitDefEqProofs
  refine ACallGS.of (fun h=>by cases h) (r:=.x (.one (.str []))) rfl ?_
  simp -implicitDefEqProofs
  rfl
 | cons b r =>
  rw [numK_cons]
  by_cases hl:r.length+1≤k
  ·have hl':((r.length:Int)+1≤(k:Int))=True:=eq_true (by omega)
   simp -implicitDefEqProofs [hl,hl']
   refine ACallGS.of (fun _=>strings_Trim (b::r) digCs (by decide) (by decide)) rfl ?_
   by_cases hd:(b::r).all isDig=true
   ·have ht:=(trim_digs (b::r)).2 hd
    rw [hd]
    by_cases hb:b=48
    ·subst hb
     simp -implicitDefEqProofs [hl,hl',ht]
     cases r<;>simp
    ·have hb':((b.toNat:Int)=48)=False:=eq_false fun h=>hb (by rw [←UInt8.toNat_inj];simp;omega)
     have hp:(1≤(r.length:Int)+1)=True:=eq_true (by omega)
     simp -implicitDefEqProofs [hl,hl',ht,hb,hb',hp]
   ·have ht:¬Lib.trimS (b::r) digCs=[]:=fun h=>hd ((trim_digs (b::r)).1 h)
    rw [Bool.eq_false_iff.2 hd]
    simp -implicitDefEqProofs [hl,hl',ht]
  ·have hl':((r.length:Int)+1≤(k:Int))=False:=eq_false (by omega)
   simp -implicitDefEqProofs [hl,hl']
   refine ACallGS.of (fun h=>by cases h) (r:=.x (.one (.str []))) rfl ?_
   simp -implicitDefEqProofs [hl,hl']
theorem numK_atoi {k:Nat} {s:List UInt8} (h:numK k s=true):Lib.atoi s=some (decV s:Int)∧s.length≤k∧s.all isDig=true:=by
 simp only [numK,Bool.and_eq_true,decide_eq_true_eq] at h
 exact ⟨by rw [atoi_eq h.1 (by rintro rfl;simp at h)],h.2.2.1,h.1⟩
def kindN (s:List UInt8):Nat:=match kindsL.findIdx? (·==s) with
 | some i=>i+1
 | none=>0
theorem lines_kind (s:List UInt8) (x:RS) (b:Nat):ACallsM Tryz.prog 176 [.x (.one (.str s)),.ptr2 2 0,.gbox b x.cells] (.x (.one (.bool (decide (0<kindN s))))) [.dead,.dead,.gbox b { x with kind:=kindN s }.cells]:=by
 have k:ACalls Tryz.prog 147 [strs kindsL,.one (.str s)] (.x (.one (.int .i64 ((kindN s:Int)-1)))):=by
  have k:=slices_IndexS kindsL s
  unfold kindN
  cases h:kindsL.findIdx? (·==s) with
  | none=>rw [h] at k;exact k
  | some i=>rw [h] at k;simpa using k
 have hb:kindN s≤5:=by
  unfold kindN
  cases h:kindsL.findIdx? (·==s) with
  | none=>simp
  | some i =>
   have:=(List.findIdx?_eq_some_iff_getElem.1 h).1
   simp [kindsL] at this ⊢
   omega
 generalize kindN s=K at *
 have hw:IntKind.i64.wrap ((K:Int)-1+1)=(K:Int):=by rw [wrapS _ (by omega)];omega
 unfold RS.cells
 refine ACallsM.of mixed (fn:=Tryz.f176) (by kernel_rfl) (by kernel_rfl) rfl (by kernel_rfl) (by kernel_rfl) (by simp [outsFit,outFits]) (by simp [Tryz.f176]) (fun hok=>?_)
 simp -implicitDefEqProofs
 refine AltR.l ⟨by kernel_rfl,?_⟩
 simp -implicitDefEqProofs
 refine ACallK.of record_kinds ?_
 simp -implicitDefEqProofs
 refine ACallK.of k ?_
 simp -implicitDefEqProofs
 have hw':IntKind.i64.wrap (K:Int)=(K:Int):=wrapS _ (by omega)
 rw [hw']
 exact ⟨by omega,rfl⟩
theorem lines_date (dt:List UInt8→Int) (dok:List UInt8→Bool) (hD:∀s,ACalls Tryz.prog 106 [.one (.str s)] (.tup [.one (.int .i64 (dt s)),.one (.int .i64 (if dok s=true then 0 else 10))])) (s:List UInt8) (x:RS) (b:Nat) :
  ACallsM Tryz.prog 177 [.x (.one (.str s)),.ptr2 2 0,.gbox b x.cells] (.x (.one (.bool (dok s)))) [.dead,.dead,.gbox b { x with time:=dt s }.cells]:=by
 have k:=hD s
 generalize dt s=T at *
 generalize dok s=O at *
 unfold RS.cells
 refine ACallsM.of mixed (fn:=Tryz.f177) (by kernel_rfl) (by kernel_rfl) rfl (by kernel_rfl) (by kernel_rfl) (by simp [outsFit,outFits]) (by simp [Tryz.f177]) (fun hok=>?_)
 simp -implicitDefEqProofs
 refine ACallK.of k ?_
 cases O
 ·simp -implicitDefEqProofs
 ·simp -implicitDefEqProofs
theorem lines_length (s:List UInt8) (x:RS) (b:Nat):ACallsM Tryz.prog 179 [.x (.one (.str s)),.ptr2 2 0,.gbox b x.cells] (.x (.one (.bool (numK 9 s)))) [.dead,.dead,.gbox b (if numK 9 s=true then { x with length:=decV s } else x).cells]:=by
 have k:=message_DigitsK 9 (by omega) s
 unfold RS.cells
 refine ACallsM.of mixed (fn:=Tryz.f179) (by kernel_rfl) (by kernel_rfl) rfl (by kernel_rfl) (by kernel_rfl) (by simp [outsFit,outFits]) (by simp [Tryz.f179]) (fun hok=>?_)
 simp -implicitDefEqProofs
 refine ACallK.of k ?_
 cases h:numK 9 s
 ·simp -implicitDefEqProofs
 ·obtain ⟨h1,h2,_⟩:=numK_atoi h
  have k2:=strconv_Atoi1 s _ (by omega) h1
  simp -implicitDefEqProofs
  refine AltR.l ⟨by kernel_rfl,?_⟩
  simp -implicitDefEqProofs
  refine ACallK.of k2 ?_
  simp -implicitDefEqProofs
theorem record_isDigest (s:List UInt8):ACalls Tryz.prog 183 [.one (.str s)] (.x (.one (.bool (digestB s)))):=by
 have e:=trimS_nil s hexCs
 simp only [hexCs_eq] at e
 have k:=strings_Trim s hexCs (by decide) (by decide)
 refine ACalls.of mixed (fn:=Tryz.f183) (by kernel_rfl) (by kernel_rfl) rfl (by kernel_rfl) (by simp [Tryz.f183]) (fun hok=>?_)
 unfold digestB
 by_cases h:s.length=16
 ·have h':((s.length:Int)==16)=true:=by rw [h];rfl
  have h2:(s.length==16)=true:=by simpa using h
  simp -implicitDefEqProofs [h]
  refine ACallGS.of (fun _=>k) rfl ?_
  by_cases hT:Lib.trimS s hexCs=[]
  ·rw [hT,e.1 hT]
   simp -implicitDefEqProofs [h]
  ·have hf:s.all hexB=false:=by
    cases hb:s.all hexB with
    | true=>exact absurd (e.2 hb) hT
    | false=>rfl
   rw [hf]
   simp -implicitDefEqProofs [h,hT]
 ·have h':((s.length:Int)==16)=false:=by simp;omega
  have h2:(s.length==16)=false:=by simpa using h
  simp -implicitDefEqProofs [h']
  refine ACallGS.of (fun h=>by cases h) (r:=.x (.one (.str []))) rfl ?_
  simp -implicitDefEqProofs [h]
theorem lines_digest (s:List UInt8) (x:RS) (b:Nat):ACallsM Tryz.prog 182 [.x (.one (.str s)),.ptr2 2 0,.gbox b x.cells] (.x (.one (.bool (digestB s)))) [.dead,.dead,.gbox b { x with digest:=s }.cells]:=by
 have k:=record_isDigest s
 unfold RS.cells
 refine ACallsM.of mixed (fn:=Tryz.f182) (by kernel_rfl) (by kernel_rfl) rfl (by kernel_rfl) (by kernel_rfl) (by simp [outsFit,outFits]) (by simp [Tryz.f182]) (fun hok=>?_)
 simp -implicitDefEqProofs
 refine ACallK.of k ?_
 simp -implicitDefEqProofs
theorem lines_makes:AMakes Tryz.prog 170 171:=by
 refine AMakes.of mixed (fn:=Tryz.f170) (t:=2) (by kernel_rfl) rfl rfl (by kernel_rfl) (by simp [Tryz.f170]) rfl (fun v=>?_)
 simp -implicitDefEqProofs
 exact ⟨.inr rfl,1,by simp,by simp⟩
def keptS:List UInt8:=[75,69,80,84,47,49]
def idS:List UInt8:=[105,100]
def ofS:List UInt8:=[111,102]
def kindS:List UInt8:=[107,105,110,100]
def dateW:List UInt8:=[100,97,116,101]
def keyS:List UInt8:=[107,101,121]
def lengthS:List UInt8:=[108,101,110,103,116,104]
def digestS:List UInt8:=[100,105,103,101,115,116]
def thenR (r:Bool×RS) (f:RS→Bool×RS):Bool×RS:=match r with
 | (true,x)=>f x
 | (false,x)=>(false,x)
@[simp] theorem thenR_true (x:RS) (f:RS→Bool×RS):thenR (true,x) f=f x:=rfl
@[simp] theorem thenR_false (x:RS) (f:RS→Bool×RS):thenR (false,x) f=(false,x):=rfl
def wholeR (w:List UInt8) (x:RS):Bool×RS:=(wholeB x w,wholeX x w)
def lineR (w:List UInt8) (F:List UInt8→Bool) (G:RS→List UInt8→RS) (x:RS):Bool×RS:=(lineB x w F,lineX x w F (G x))
def idR:RS→Bool×RS:=lineR idS (fun _=>true) fun x s=>{ x with id:=s }
def ofR (x:RS):Bool×RS:=if isB x ofS=true then lineR ofS (fun s=>decide (s≠[])) (fun x s=>{ x with of:=s }) x else (true,x)
def kindR:RS→Bool×RS:=lineR kindS (fun s=>decide (0<kindN s)) fun x s=>{ x with kind:=kindN s }
def dateR (dt:List UInt8→Int) (dok:List UInt8→Bool):RS→Bool×RS:=lineR dateW dok fun x s=>{ x with time:=dt s }
def keyR:RS→Bool×RS:=lineR keyS (fun _=>true) fun x s=>{ x with key:=s }
def lengthR:RS→Bool×RS:=lineR lengthS (numK 9) fun x s=>if numK 9 s=true then { x with length:=decV s } else x
def digestR:RS→Bool×RS:=lineR digestS digestB fun x s=>{ x with digest:=s }
theorem wholeX_ok {x:RS} (h:x.ok) (w:List UInt8):(wholeR w x).2.ok:=by
 show (wholeX x w).ok
 unfold wholeX
 split
 ·exact ⟨h.1,crlN_le h.2⟩
 ·exact h
theorem lineR_ok {x:RS} (h:x.ok) (w:List UInt8) (F:List UInt8→Bool) (G:RS→List UInt8→RS) (hG:∀s,(G x s).b=x.b∧(G x s).at_=x.at_):(lineR w F G x).2.ok:=by
 show (lineX x w F (G x)).ok
 unfold lineX
 split
 ·obtain ⟨g1,g2⟩:=hG ((crlS x.b x.at_).drop (w.length+2))
  split
  ·exact ⟨by simp only [g1];exact h.1,by simp only [g1];exact crlN_le h.2⟩
  ·exact ⟨by rw [g1];exact h.1,by rw [g1,g2];exact h.2⟩
 ·exact h
@[simp] theorem anyL_cells (x:RS):anyL x.cells=false:=by simp [RS.cells,anyL]
theorem wholeX_heads (x:RS) (w:List UInt8):(wholeR w x).2.heads=x.heads:=by
 show (wholeX x w).heads=_
 unfold wholeX
 split<;>rfl
theorem lineR_heads (x:RS) (w:List UInt8) (F:List UInt8→Bool) (G:RS→List UInt8→RS) (hG:∀s,(G x s).heads=x.heads):(lineR w F G x).2.heads=x.heads:=by
 show (lineX x w F (G x)).heads=_
 unfold lineX
 split
 ·split
  ·exact hG _
  ·exact hG _
 ·rfl
def RS.ok0 (x:RS):Prop:=x.ok∧x.heads=[]
def linesR (dt:List UInt8→Int) (dok:List UInt8→Bool) (hR:RS→Bool×RS) (x:RS):Bool×RS:=
 thenR (wholeR keptS x) fun x=>thenR (idR x) fun x=>thenR (ofR x) fun x=>thenR (kindR x) fun x=>thenR (dateR dt dok x) fun x=>thenR (keyR x) fun x=>thenR (hR x) fun x=>thenR (lengthR x) fun x=>thenR (digestR x) fun x=>wholeR [] x
theorem reader_lines (dt:List UInt8→Int) (dok:List UInt8→Bool) (hD:∀s,ACalls Tryz.prog 106 [.one (.str s)] (.tup [.one (.int .i64 (dt s)),.one (.int .i64 (if dok s=true then 0 else 10))]))
  (hR:RS→Bool×RS) (hH:∀x:RS,x.ok0→ACallsM Tryz.prog 178 [.box x.cells] (.x (.one (.bool (hR x).1))) [.box (hR x).2.cells]∧(hR x).2.ok) (x:RS) (hx:x.ok0) :
  ACallsM Tryz.prog 96 [.box x.cells] (.x (.one (.bool (linesR dt dok hR x).1))) [.box (linesR dt dok hR x).2.cells]:=by
 have kw:∀(w:List UInt8) (y:RS),y.ok→ACallsM Tryz.prog 172 [.box y.cells,.x (.one (.str w))] (.x (.one (.bool (wholeR w y).1))) [.box (wholeR w y).2.cells,.dead]:=fun w y hy=>reader_whole y w hy
 have kid:∀(y:RS),y.ok0→ACallsM Tryz.prog 173 [.box y.cells,.x (.one (.str idS)),.cloR 171 [.inr (0,3+1000000)]] (.x (.one (.bool (idR y).1))) [.box (idR y).2.cells,.dead,.dead]:=fun y hy=>reader_line y idS _ 3 _ _ hy.1 (by decide) (fun s _ b=>lines_text s y.cells 3 (by simp [RS.cells]) (by simp [RS.cells]) b)
 have kkey:∀(y:RS),y.ok0→ACallsM Tryz.prog 173 [.box y.cells,.x (.one (.str keyS)),.cloR 171 [.inr (0,6+1000000)]] (.x (.one (.bool (keyR y).1))) [.box (keyR y).2.cells,.dead,.dead]:=fun y hy=>reader_line y keyS _ 6 _ _ hy.1 (by decide) (fun s _ b=>lines_text s y.cells 6 (by simp [RS.cells]) (by simp [RS.cells]) b)
 have kof:∀(y:RS),y.ok0→ACallsM Tryz.prog 173 [.box y.cells,.x (.one (.str ofS)),.cloR 175 [.inr (0,0+1000000)]] (.x (.one (.bool (lineR ofS (fun s=>decide (s≠[])) (fun x s=>{ x with of:=s }) y).1))) [.box (lineR ofS (fun s=>decide (s≠[])) (fun x s=>{ x with of:=s }) y).2.cells,.dead,.dead]:=fun y hy=>reader_line y ofS _ 0 _ _ hy.1 (by decide) (fun s _ b=>lines_of s y b)
 have kkind:∀(y:RS),y.ok0→ACallsM Tryz.prog 173 [.box y.cells,.x (.one (.str kindS)),.cloR 176 [.inr (0,0+1000000)]] (.x (.one (.bool (kindR y).1))) [.box (kindR y).2.cells,.dead,.dead]:=fun y hy=>reader_line y kindS _ 0 _ _ hy.1 (by decide) (fun s _ b=>lines_kind s y b)
 have kdate:∀(y:RS),y.ok0→ACallsM Tryz.prog 173 [.box y.cells,.x (.one (.str dateW)),.cloR 177 [.inr (0,0+1000000)]] (.x (.one (.bool (dateR dt dok y).1))) [.box (dateR dt dok y).2.cells,.dead,.dead]:=fun y hy=>reader_line y dateW _ 0 _ _ hy.1 (by decide) (fun s _ b=>lines_date dt dok hD s y b)
 have klen:∀(y:RS),y.ok→ACallsM Tryz.prog 173 [.box y.cells,.x (.one (.str lengthS)),.cloR 179 [.inr (0,0+1000000)]] (.x (.one (.bool (lengthR y).1))) [.box (lengthR y).2.cells,.dead,.dead]:=fun y hy=>reader_line y lengthS _ 0 _ _ hy (by decide) (fun s _ b=>lines_length s y b)
 have kdig:∀(y:RS),y.ok→ACallsM Tryz.prog 173 [.box y.cells,.x (.one (.str digestS)),.cloR 182 [.inr (0,0+1000000)]] (.x (.one (.bool (digestR y).1))) [.box (digestR y).2.cells,.dead,.dead]:=fun y hy=>reader_line y digestS _ 0 _ _ hy (by decide) (fun s _ b=>lines_digest s y b)
 have kis:=fun (y:RS) (hy:y.ok0)=>reader_is y ofS hy.1 (by decide)
 have ok00:∀(w:List UInt8) (y:RS),y.ok0→(wholeR w y).2.ok0:=fun w y hy=>⟨wholeX_ok hy.1 w,by rw [wholeX_heads];exact hy.2⟩
 have ok0:∀(w:List UInt8) (y:RS),y.ok→(wholeR w y).2.ok:=fun w y hy=>wholeX_ok hy w
 have ok1:∀y:RS,y.ok0→(idR y).2.ok0:=fun y hy=>⟨lineR_ok hy.1 _ _ _ fun s=>⟨rfl,rfl⟩,(lineR_heads y _ _ _ fun s=>rfl).trans hy.2⟩
 have ok2:∀y:RS,y.ok0→(lineR ofS (fun s=>decide (s≠[])) (fun x s=>{ x with of:=s }) y).2.ok0:=fun y hy=>⟨lineR_ok hy.1 _ _ _ fun s=>⟨rfl,rfl⟩,(lineR_heads y _ _ _ fun s=>rfl).trans hy.2⟩
 have ok3:∀y:RS,y.ok0→(kindR y).2.ok0:=fun y hy=>⟨lineR_ok hy.1 _ _ _ fun s=>⟨rfl,rfl⟩,(lineR_heads y _ _ _ fun s=>rfl).trans hy.2⟩
 have ok4:∀y:RS,y.ok0→(dateR dt dok y).2.ok0:=fun y hy=>⟨lineR_ok hy.1 _ _ _ fun s=>⟨rfl,rfl⟩,(lineR_heads y _ _ _ fun s=>rfl).trans hy.2⟩
 have ok5:∀y:RS,y.ok0→(keyR y).2.ok0:=fun y hy=>⟨lineR_ok hy.1 _ _ _ fun s=>⟨rfl,rfl⟩,(lineR_heads y _ _ _ fun s=>rfl).trans hy.2⟩
 have ok6:∀y:RS,y.ok→(lengthR y).2.ok:=fun y hy=>lineR_ok hy _ _ _ fun s=>by split<;>exact ⟨rfl,rfl⟩
 have ok7:∀y:RS,y.ok→(digestR y).2.ok:=fun y hy=>lineR_ok hy _ _ _ fun s=>⟨rfl,rfl⟩
 unfold keptS idS ofS kindS dateW keyS lengthS digestS at *
 obtain ⟨R,eR⟩:∃R,R=linesR dt dok hR x:=⟨_,rfl⟩
 rw [←eR]
 unfold linesR ofR at eR
 unfold keptS ofS at eR
 refine @ACallsM.of _ (wilds [(2,[1,0,1,1,1,1,1,1,1,1,2,0,1,1]),(6,[1,1,0,1,1,1,0,1,1,1,1,1,1,1,1,2,0,1,1,1,0,1,1,1,1,0,1,1,1,1,0,1,1,1,0,1,1])]) _ _ _ _ _ _ mixed (fn:=Tryz.f96) (by kernel_rfl) (by kernel_rfl) rfl (by kernel_rfl) (by kernel_rfl) rfl (by simp [Tryz.f96]) (fun hok=>?_)
 simp -implicitDefEqProofs
 have c1:=kw [75,69,80,84,47,49] x hx.1
 have o1:=ok00 [75,69,80,84,47,49] x hx
 generalize wholeR [75,69,80,84,47,49] x=r1 at c1 o1 eR
 obtain ⟨B1,x1⟩:=r1
 dsimp only at c1 o1
 refine ACallM.of c1 ?_
 cases B1
 ·rw [thenR_false] at eR
  subst eR
  simp -implicitDefEqProofs
 rw [thenR_true] at eR
 simp -implicitDefEqProofs
 have c2:=kid x1 o1
 have o2:=ok1 x1 o1
 generalize idR x1=r2 at c2 o2 eR
 obtain ⟨B2,x2⟩:=r2
 dsimp only at c2 o2
 refine AMk.of lines_makes ?_
 simp -implicitDefEqProofs
 refine ACallM.of c2 ?_
 cases B2
 ·rw [thenR_false] at eR
  subst eR
  simp -implicitDefEqProofs
 rw [thenR_true] at eR
 simp -implicitDefEqProofs
 have c3:=kis x2 o2
 generalize isB x2 [111,102]=I at c3 eR
 refine ACallM.of c3 ?_
 cases I
 ·rw [if_neg (by decide),thenR_true] at eR
  simp -implicitDefEqProofs
  have c4:=kkind x2 o2
  have o4:=ok3 x2 o2
  generalize kindR x2=r4 at c4 o4 eR
  obtain ⟨B4,x4⟩:=r4
  dsimp only at c4 o4
  refine ACallM.of c4 ?_
  cases B4
  ·rw [thenR_false] at eR
   subst eR
   simp -implicitDefEqProofs
  rw [thenR_true] at eR
  simp -implicitDefEqProofs
  have c5:=kdate x4 o4
  have o5:=ok4 x4 o4
  generalize dateR dt dok x4=r5 at c5 o5 eR
  obtain ⟨B5,x5⟩:=r5
  dsimp only at c5 o5
  refine ACallM.of c5 ?_
  cases B5
  ·rw [thenR_false] at eR
   subst eR
   simp -implicitDefEqProofs
  rw [thenR_true] at eR
  simp -implicitDefEqProofs
  have c6:=kkey x5 o5
  have o6:=ok5 x5 o5
  generalize keyR x5=r6 at c6 o6 eR
  obtain ⟨B6,x6⟩:=r6
  dsimp only at c6 o6
  refine AMk.of lines_makes ?_
  simp -implicitDefEqProofs
  refine ACallM.of c6 ?_
  cases B6
  ·rw [thenR_false] at eR
   subst eR
   simp -implicitDefEqProofs
  rw [thenR_true] at eR
  simp -implicitDefEqProofs
  obtain ⟨c7,o7⟩:=hH x6 o6
  generalize hR x6=r7 at c7 o7 eR
  obtain ⟨B7,x7⟩:=r7
  dsimp only at c7 o7
  refine ACallM.of c7 ?_
  cases B7
  ·rw [thenR_false] at eR
   subst eR
   simp -implicitDefEqProofs
  rw [thenR_true] at eR
  simp -implicitDefEqProofs
  have c8:=klen x7 o7
  have o8:=ok6 x7 o7
  generalize lengthR x7=r8 at c8 o8 eR
  obtain ⟨B8,x8⟩:=r8
  dsimp only at c8 o8
  refine ACallM.of c8 ?_
  cases B8
  ·rw [thenR_false] at eR
   subst eR
   simp -implicitDefEqProofs
  rw [thenR_true] at eR
  simp -implicitDefEqProofs
  have c9:=kdig x8 o8
  have o9:=ok7 x8 o8
  generalize digestR x8=r9 at c9 o9 eR
  obtain ⟨B9,x9⟩:=r9
  dsimp only at c9 o9
  refine ACallM.of c9 ?_
  cases B9
  ·rw [thenR_false] at eR
   subst eR
   simp -implicitDefEqProofs
  rw [thenR_true] at eR
  simp -implicitDefEqProofs
  have c10:=kw [] x9 o9
  have o10:=ok0 [] x9 o9
  generalize wholeR [] x9=r10 at c10 o10 eR
  obtain ⟨B10,x10⟩:=r10
  dsimp only at c10 o10
  refine ACallM.of c10 ?_
  subst eR
  simp -implicitDefEqProofs
 ·rw [if_pos rfl] at eR
  simp -implicitDefEqProofs
  have c3:=kof x2 o2
  have o3:=ok2 x2 o2
  generalize lineR [111,102] (fun s=>decide (s≠[])) (fun x s=>{ x with of:=s }) x2=r3 at c3 o3 eR
  obtain ⟨B3,x3⟩:=r3
  dsimp only at c3 o3
  refine ACallM.of c3 ?_
  cases B3
  ·rw [thenR_false] at eR
   subst eR
   simp -implicitDefEqProofs
  rw [thenR_true] at eR
  simp -implicitDefEqProofs
  have c4:=kkind x3 o3
  have o4:=ok3 x3 o3
  generalize kindR x3=r4 at c4 o4 eR
  obtain ⟨B4,x4⟩:=r4
  dsimp only at c4 o4
  refine ACallM.of c4 ?_
  cases B4
  ·rw [thenR_false] at eR
   subst eR
   simp -implicitDefEqProofs
  rw [thenR_true] at eR
  simp -implicitDefEqProofs
  have c5:=kdate x4 o4
  have o5:=ok4 x4 o4
  generalize dateR dt dok x4=r5 at c5 o5 eR
  obtain ⟨B5,x5⟩:=r5
  dsimp only at c5 o5
  refine ACallM.of c5 ?_
  cases B5
  ·rw [thenR_false] at eR
   subst eR
   simp -implicitDefEqProofs
  rw [thenR_true] at eR
  simp -implicitDefEqProofs
  have c6:=kkey x5 o5
  have o6:=ok5 x5 o5
  generalize keyR x5=r6 at c6 o6 eR
  obtain ⟨B6,x6⟩:=r6
  dsimp only at c6 o6
  refine AMk.of lines_makes ?_
  simp -implicitDefEqProofs
  refine ACallM.of c6 ?_
  cases B6
  ·rw [thenR_false] at eR
   subst eR
   simp -implicitDefEqProofs
  rw [thenR_true] at eR
  simp -implicitDefEqProofs
  obtain ⟨c7,o7⟩:=hH x6 o6
  generalize hR x6=r7 at c7 o7 eR
  obtain ⟨B7,x7⟩:=r7
  dsimp only at c7 o7
  refine ACallM.of c7 ?_
  cases B7
  ·rw [thenR_false] at eR
   subst eR
   simp -implicitDefEqProofs
  rw [thenR_true] at eR
  simp -implicitDefEqProofs
  have c8:=klen x7 o7
  have o8:=ok6 x7 o7
  generalize lengthR x7=r8 at c8 o8 eR
  obtain ⟨B8,x8⟩:=r8
  dsimp only at c8 o8
  refine ACallM.of c8 ?_
  cases B8
  ·rw [thenR_false] at eR
   subst eR
   simp -implicitDefEqProofs
  rw [thenR_true] at eR
  simp -implicitDefEqProofs
  have c9:=kdig x8 o8
  have o9:=ok7 x8 o8
  generalize digestR x8=r9 at c9 o9 eR
  obtain ⟨B9,x9⟩:=r9
  dsimp only at c9 o9
  refine ACallM.of c9 ?_
  cases B9
  ·rw [thenR_false] at eR
   subst eR
   simp -implicitDefEqProofs
  rw [thenR_true] at eR
  simp -implicitDefEqProofs
  have c10:=kw [] x9 o9
  have o10:=ok0 [] x9 o9
  generalize wholeR [] x9=r10 at c10 o10 eR
  obtain ⟨B10,x10⟩:=r10
  dsimp only at c10 o10
  refine ACallM.of c10 ?_
  subst eR
  simp -implicitDefEqProofs
end Go.Proofs.YtlcmnclbljedfaaGreatDoor
namespace Go.Proofs.YtlcmnclbljedfaaGreatDoor
open Go
set_option maxRecDepth 100000
def renn145:Go.Shelf.Ren:=⟨fun x=>if x=145 then 198 else if x=217 then 267 else if x=219 then 282 else if x=220 then 257 else if x=224 then 265 else if x=225 then 304 else if x=266 then 309 else if x=267 then 322 else if x=314 then 334 else x,fun x=>if x=3 then 3 else if x=4 then 4 else if x=5 then 5 else if x=9 then 9 else if x=46 then 165 else if x=51 then 233 else if x=59 then 249 else if x=146 then 320 else x,fun x=>if x=1 then 0 else x⟩
theorem layn145:Go.Proofs.Lays.n145 Tryz.prog renn145 where
 mixed:=by kernel_rfl
 f145:=Tryz.func198.trans (congrArg some (by kernel_rfl))
 f217:=Tryz.func267.trans (congrArg some (by kernel_rfl))
 f219:=Tryz.func282.trans (congrArg some (by kernel_rfl))
 f220:=Tryz.func257.trans (congrArg some (by kernel_rfl))
 f224:=Tryz.func265.trans (congrArg some (by kernel_rfl))
 f225:=Tryz.func304.trans (congrArg some (by kernel_rfl))
 f266:=Tryz.func309.trans (congrArg some (by kernel_rfl))
 f267:=Tryz.func322.trans (congrArg some (by kernel_rfl))
 f314:=Tryz.func334.trans (congrArg some (by kernel_rfl))
 t3:=Tryz.underlying3
 a3:=Tryz.isAgg3
 z3:=Tryz.sizeOf3
 v3:=Tryz.zeroValue3
 t4:=Tryz.underlying4
 a4:=Tryz.isAgg4
 z4:=Tryz.sizeOf4
 v4:=Tryz.zeroValue4
 t5:=Tryz.underlying5
 a5:=Tryz.isAgg5
 z5:=Tryz.sizeOf5
 v5:=Tryz.zeroValue5
 t9:=Tryz.underlying9
 a9:=Tryz.isAgg9
 z9:=Tryz.sizeOf9
 v9:=Tryz.zeroValue9
 t46:=Tryz.underlying165
 a46:=Tryz.isAgg165
 z46:=Tryz.sizeOf165
 v46:=Tryz.zeroValue165
 t51:=Tryz.underlying233
 a51:=Tryz.isAgg233
 z51:=Tryz.sizeOf233
 v51:=Tryz.zeroValue233
 t59:=Tryz.underlying249
 a59:=Tryz.isAgg249
 z59:=Tryz.sizeOf249
 v59:=Tryz.zeroValue249
 t146:=Tryz.underlying320
 a146:=Tryz.isAgg320
 z146:=Tryz.sizeOf320
 v146:=Tryz.zeroValue320
 g1:=by kernel_rfl
end Go.Proofs.YtlcmnclbljedfaaGreatDoor
namespace Go.Proofs.YtlcmnclbljedfaaGreatDoor
open Go Go.Ab
class HasInt [Amb] (g:Nat):Prop where
 int:∀w,Amb.holds w→∃m,w.cell? ⟨g,0,none⟩=some (.int .i64 m)
variable [Amb] [HasInt 0]
set_option maxRecDepth 100000
set_option maxHeartbeats 4000000
theorem ofKitA {f:FuncId} {args:List XV} {r:RV} (vs:List Value) (hc:Callable Tryz.prog f) (ha:concs args=some vs) (hb:∀v,r.blk v=none)
  (h:(∀x∈args,x.ok)→∀w,Amb.holds w→Calls Tryz.prog f vs.toArray w fun e w'=>∃v,e=.returned v∧RowKit.Below w.heap.size w w'∧∀S,RepR w' S r v):ACalls Tryz.prog f args r:=by
 refine ⟨hc,fun w S us hS hargs=>?_⟩
 have e:us=vs.toArray:=by
  have:=concs_eq (us:=us.toList) (by rw [Array.length_toList];exact hargs.1) (fun j x hj=>by simpa using hargs.2 j x hj) ha
  rw [←this]
 have hok:=okAll_of hargs
 subst e
 refine (h hok w hS.amb).mono ?_
 rintro e w' ⟨v,rfl,hb2,hr⟩
 exact ⟨v,rfl,hb2,hr _,fun b hbb=>by rw [hb] at hbb;cases hbb⟩
theorem strings_CutC (s:List UInt8) (hs:s.length≤16777216):ACalls Tryz.prog 198 [.one (.str s),.one (.str colonS)] (.tup [.one (.str (Lib.cut s colonS).1),.one (.str (Lib.cut s colonS).2.1),.one (.bool (Lib.cut s colonS).2.2)]):=by
 refine ofKitA [.string ⟨s.toArray⟩,.string ⟨colonS.toArray⟩] (callable_of Tryz.f198 (by kernel_rfl) (by kernel_rfl) rfl) rfl (fun _=>rfl) (fun _ w hw=>?_)
 obtain ⟨m,hm⟩:=HasInt.int (g:=0) w hw
 refine (Any.strings_Cut layn145 ⟨s.toArray⟩ ⟨colonS.toArray⟩ m w (by simp only [ByteArray.size,List.size_toArray];omega) hm).mono ?_
 rintro e w' ⟨rfl,n,rfl⟩
 have h1:(Lib.cut s colonS).1.length≤maxLen∧(Lib.cut s colonS).2.1.length≤maxLen:=by
  unfold Lib.cut
  split<;>(unfold maxLen;simp;try omega)
 refine ⟨_,rfl,⟨rfl,rfl,rfl,Nat.le_refl _,fun k _=>rfl⟩,fun S=>⟨_,rfl,rfl,fun j x hj=>?_⟩⟩
 match j,hj with
 | 0,hj=>cases hj;exact ⟨_,rfl,RepC.str _ h1.1⟩
 | 1,hj=>cases hj;exact ⟨_,rfl,RepC.str _ h1.2⟩
 | 2,hj=>cases hj;exact ⟨_,rfl,RepC.bool _⟩
 | j+3,hj=>simp at hj
theorem strings_IndexA (s:List UInt8) (c:UInt8):ACalls Tryz.prog 238 [.one (.str s),.one (.str [c])] (.x (.one (.int .i64 (if c∈s then ((befC c s).length:Int) else -1)))):=by
 refine ACalls.of mixed (fn:=Tryz.f238) (by kernel_rfl) (by kernel_rfl) rfl (by kernel_rfl) (by simp [Tryz.f238]) (fun hok=>?_)
 simp -implicitDefEqProofs
 refine ACallK.of (stringslite_Index1 s c) ?_
 simp -implicitDefEqProofs
theorem strings_ContainsA (s:List UInt8) (c:UInt8):ACalls Tryz.prog 155 [.one (.str s),.one (.str [c])] (.x (.one (.bool (decide (c∈s))))):=by
 refine ACalls.of mixed (fn:=Tryz.f155) (by kernel_rfl) (by kernel_rfl) rfl (by kernel_rfl) (by simp [Tryz.f155]) (fun hok=>?_)
 simp -implicitDefEqProofs
 refine ACallK.of (strings_IndexA s c) ?_
 by_cases h:c∈s
 ·simp -implicitDefEqProofs [h]
 ·simp -implicitDefEqProofs [h]
def headO (s:List UInt8):Option Head:=if (Lib.cut s colonS).2.2=true∧(Lib.cut s colonS).1≠[]∧58∉(Lib.cut s colonS).1 then some ⟨(Lib.cut s colonS).1,(Lib.cut s colonS).2.1⟩ else none
def headD (s:List UInt8):Head:=(headO s).getD ⟨[],[]⟩
theorem message_HeadOf (s:List UInt8) (hs:s.length≤16777216):ACalls Tryz.prog 247 [.one (.str s)] (.tup [.agg (headD s).row,.one (.bool (headO s).isSome)]):=by
 have k:=strings_CutC s hs
 have k2:=strings_ContainsA (Lib.cut s colonS).1 58
 unfold headD headO
 generalize Lib.cut s colonS=T at *
 obtain ⟨n,v,b⟩:=T
 dsimp only at *
 unfold colonS at k
 refine ACalls.of mixed (fn:=Tryz.f247) (by kernel_rfl) (by kernel_rfl) rfl (by kernel_rfl) (by simp [Tryz.f247]) (fun hok=>?_)
 simp -implicitDefEqProofs
 refine ACallK.of k ?_
 cases b
 ·simp -implicitDefEqProofs
  refine ACallGS.of (fun h=>by cases h) (r:=.x (.one (.bool false))) rfl ?_
  simp -implicitDefEqProofs [Head.row]
 ·cases n with
  | nil =>
   simp -implicitDefEqProofs
   refine ACallGS.of (fun h=>by cases h) (r:=.x (.one (.bool false))) rfl ?_
   simp -implicitDefEqProofs [Head.row]
  | cons c r =>
   simp -implicitDefEqProofs
   refine ACallGS.of (fun _=>k2) rfl ?_
   by_cases h:(58:UInt8)∈c::r
   ·have hd:decide ((58:UInt8)∈c::r)=true:=by simpa using h
    rw [hd,if_neg (by simp [h])]
    simp -implicitDefEqProofs [Head.row]
   ·have hd:decide ((58:UInt8)∈c::r)=false:=by simpa using h
    rw [hd,if_pos ⟨rfl,by simp,h⟩]
    simp -implicitDefEqProofs [Head.row]
def hdsG:Nat→RS→Bool×RS
 | 0,x=>(false,x)
 | n+1,x=>if isB x lengthS=true then (true,x) else if crlB x.b x.at_=true∧(headO (crlS x.b x.at_)).isSome=true then hdsG n { x with heads:=x.heads++[headD (crlS x.b x.at_)],at_:=crlN x.b x.at_ } else (false,x)
def hdsR (x:RS):Bool×RS:=hdsG (x.b.length+1) x
theorem crlN_gt {b:List UInt8} {a:Nat} (h:crlB b a=true):a<crlN b a:=by
 unfold crlB at h
 unfold crlN
 cases e:crl (b.drop a) with
 | none=>rw [e] at h;cases h
 | some l=>simp only;omega
theorem hdsG_irrel:∀(n m:Nat) (y:RS),y.ok→y.b.length<n+y.at_→y.b.length<m+y.at_→hdsG n y=hdsG m y
 | 0,_,y,h,h1,_=>by have:=h.2;omega
 | _+1,0,y,h,_,h2=>by have:=h.2;omega
 | n+1,m+1,y,h,h1,h2=>by
  unfold hdsG
  split
  ·rfl
  ·split
   ·rename_i hc
    have hg:=crlN_gt hc.1
    exact hdsG_irrel n m _ ⟨h.1,crlN_le h.2⟩ (by simp only;omega) (by simp only;omega)
   ·rfl
theorem hdsG_ok:∀(n:Nat) (y:RS),y.ok→(hdsG n y).2.ok
 | 0,y,h=>h
 | n+1,y,h=>by
  unfold hdsG
  split
  ·exact h
  ·split
   ·exact hdsG_ok n _ ⟨h.1,crlN_le h.2⟩
   ·exact h
theorem hdsR_step {y:RS} (h:y.ok):hdsR y=if isB y lengthS=true then (true,y) else if crlB y.b y.at_=true∧(headO (crlS y.b y.at_)).isSome=true then hdsR { y with heads:=y.heads++[headD (crlS y.b y.at_)],at_:=crlN y.b y.at_ } else (false,y):=by
 conv=>lhs;unfold hdsR hdsG
 split
 ·rfl
 ·split
  ·rename_i hc
   have hg:=crlN_gt hc.1
   exact hdsG_irrel _ _ _ ⟨h.1,crlN_le h.2⟩ (by simp only;omega) (by simp only;omega)
  ·rfl
theorem reader_isR (x:RS) (w:List UInt8) (hx:x.ok) (hw:w.length≤100):ACalls Tryz.prog 174 [.one (.ref x.cells),.one (.str w)] (.x (.one (.bool (isB x w)))):=by
 obtain ⟨M,eM⟩:∃M,M=min x.b.length (x.at_+w.length+2):=⟨_,rfl⟩
 have k:=strings_HasPrefix ((x.b.drop x.at_).take (M-x.at_)) (w++colonS)
 rw [isB_cut x w hx M eM] at k
 generalize isB x w=B at k
 have h2:=hx.2
 have h1:=hx.1
 have hw1:IntKind.i64.wrap ((x.at_:Int)+(w.length:Int))=(x.at_:Int)+(w.length:Int):=wrapS _ (by omega)
 have hw2:IntKind.i64.wrap ((x.at_:Int)+(w.length:Int)+2)=(x.at_:Int)+(w.length:Int)+2:=wrapS _ (by omega)
 have hmin:min (x.b.length:Int) ((x.at_:Int)+(w.length:Int)+2)=(M:Int):=by omega
 have hcut:cutAt (byteRows x.b) (x.at_:Int) (M:Int)=byteRows ((x.b.drop x.at_).take (M-x.at_)):=cut_rows (by omega)
 unfold RS.cells at *
 refine ACalls.of mixed (fn:=Tryz.f174) (by kernel_rfl) (by kernel_rfl) rfl (by kernel_rfl) (by simp [Tryz.f174]) (fun hok=>?_)
 simp -implicitDefEqProofs [hw1,hw2,hmin,hcut]
 refine ⟨by omega,by unfold maxLen;omega,ACallK.of k ?_⟩
 simp -implicitDefEqProofs
def hdSlots (y:RS):List (Nat×AV):=match y.heads with
 | []=>[(0,.box [fileB y.b,.int .i64 y.at_,.int .i64 y.kind,.str y.id,.str y.of,.int .i64 y.time,.str y.key,.nil,.nil,.int .i64 y.length,.str y.digest]),(999999,.res [(0,7)])]
 | h::r=>[(0,.box [fileB y.b,.int .i64 y.at_,.int .i64 y.kind,.str y.id,.str y.of,.int .i64 y.time,.str y.key,.any,.nil,.int .i64 y.length,.str y.digest]),(44,.own 84 2 ((h::r).map Head.row)),(1000007,.link 0 7 44),(999999,.res [(0,7)])]
theorem reader_heads (x:RS) (hx:x.ok0):ACallsM Tryz.prog 178 [.box x.cells] (.x (.one (.bool (hdsR x).1))) [.box (hdsR x).2.cells]:=by
 obtain ⟨R,eR⟩:∃R,R=hdsR x:=⟨_,rfl⟩
 rw [←eR]
 obtain ⟨R1,R2⟩:=R
 dsimp only
 have hc:x.cells=[fileB x.b,.int .i64 x.at_,.int .i64 x.kind,.str x.id,.str x.of,.int .i64 x.time,.str x.key,.nil,.nil,.int .i64 x.length,.str x.digest]:=by unfold RS.cells hdC;rw [if_pos hx.2]
 rw [hc]
 refine @ACallsM.ofL _ (wilds [(6,[6,6,1,1,1,1,1,1,1,4,6,1,1,1,5,1,1,0])]) [(0,7)] [(0,7)] _ _ _ _ _ _ (by simp) mixed (fn:=Tryz.f178) (by kernel_rfl) (by kernel_rfl) rfl (by kernel_rfl) (by kernel_rfl) rfl (by simp [Tryz.f178]) (fun hok=>?_)
 simp -implicitDefEqProofs
 refine ALoopS.of RS hdSlots (fun y=>(y.ok∧y.heads.length≤y.at_)∧(R1,R2)=hdsR y) (fun y=>y.b.length-y.at_) x ⟨⟨hx.1,by rw [hx.2];simp⟩,eR⟩ ?_ ?_
 ·unfold hdSlots
  rw [hx.2]
  simp
 rintro y ⟨⟨hy,hhl⟩,hR⟩
 rw [hdsR_step hy] at hR
 have k1:=reader_is y lengthS hy (by decide)
 have k1':=reader_isR y lengthS hy (by decide)
 have k2:=message_Line y.b y.at_ hy.1 hy.2
 have k3:=message_HeadOf (crlS y.b y.at_) (by have:=crlS_len y.b y.at_;have:=hy.1;omega)
 have hgt:=crlN_gt (b:=y.b) (a:=y.at_)
 have hok:∀l:List Head,({ y with heads:=l,at_:=crlN y.b y.at_ }:RS).ok:=fun l=>⟨hy.1,crlN_le hy.2⟩
 have hle:=crlN_le hy.2
 unfold lengthS at k1 k1' hR
 unfold RS.cells at k1 k1'
 generalize isB y [108,101,110,103,116,104]=I at hR k1 k1'
 generalize crlS y.b y.at_=S at *
 generalize crlN y.b y.at_=N at *
 generalize crlB y.b y.at_=L at *
 have hrow:(headD S).row=[.str (headD S).name,.str (headD S).value]:=rfl
 generalize headD S=H at *
 generalize (headO S).isSome=Q at *
 unfold hdSlots
 cases hh:y.heads with
 | nil =>
  dsimp only
  have hdc:hdC y.heads=.nil:=by rw [hh];rfl
  rw [hdc] at k1
  simp -implicitDefEqProofs
  refine ACallM.of k1 ?_
  cases I
  ·rw [if_neg (by decide)] at hR
   simp -implicitDefEqProofs
   refine ACallK.of k2 ?_
   simp -implicitDefEqProofs
   refine ACallK.of k3 ?_
   cases L
   ·rw [if_neg (by simp)] at hR
    obtain ⟨rfl,rfl⟩:=Prod.mk.inj hR
    simp -implicitDefEqProofs [hrow]
    unfold RS.cells;rw [hdc]
   ·cases Q
    ·rw [if_neg (by simp)] at hR
     obtain ⟨rfl,rfl⟩:=Prod.mk.inj hR
     simp -implicitDefEqProofs [hrow]
     unfold RS.cells;rw [hdc]
    ·rw [if_pos ⟨rfl,rfl⟩] at hR
     simp -implicitDefEqProofs [MARK,hrow]
     exact Again.of { y with heads:=y.heads++[H],at_:=N } ⟨⟨hok _,by have:=hgt rfl;simp only [hh,List.nil_append,List.length_singleton];omega⟩,hR⟩ (by have:=hgt rfl;have:=hy.2;simp only;omega) (by simp [hdSlots,hh,Head.row,hrow])
  ·rw [if_pos rfl] at hR
   obtain ⟨rfl,rfl⟩:=Prod.mk.inj hR
   simp -implicitDefEqProofs
   unfold RS.cells;rw [hdc]
 | cons h r =>
  dsimp only
  have hdc:hdC y.heads=.list 2 ((h::r).map Head.row):=by rw [hh];rfl
  rw [hdc] at k1'
  simp -implicitDefEqProofs
  refine ACallK.of k1' ?_
  cases I
  ·rw [if_neg (by decide)] at hR
   simp -implicitDefEqProofs
   refine ACallK.of k2 ?_
   simp -implicitDefEqProofs
   refine ACallK.of k3 ?_
   cases L
   ·rw [if_neg (by simp)] at hR
    obtain ⟨rfl,rfl⟩:=Prod.mk.inj hR
    simp -implicitDefEqProofs [hrow]
    unfold RS.cells;rw [hdc];rfl
   ·cases Q
    ·rw [if_neg (by simp)] at hR
     obtain ⟨rfl,rfl⟩:=Prod.mk.inj hR
     simp -implicitDefEqProofs [hrow]
     unfold RS.cells;rw [hdc];rfl
    ·rw [if_pos ⟨rfl,rfl⟩] at hR
     simp -implicitDefEqProofs [MARK,hrow]
     have hlen:y.heads.length=r.length+1:=by rw [hh];rfl
     have h16:=hy.1
     have h17:=hy.2
     refine ⟨⟨by omega,by unfold maxLen;omega⟩,?_⟩
     exact Again.of { y with heads:=y.heads++[H],at_:=N } ⟨⟨hok _,by have:=hgt rfl;simp only [List.length_append,List.length_singleton];omega⟩,hR⟩ (by have:=hgt rfl;simp only;omega) (by simp [hdSlots,hh,Head.row,hrow])
  ·rw [if_pos rfl] at hR
   obtain ⟨rfl,rfl⟩:=Prod.mk.inj hR
   simp -implicitDefEqProofs
   unfold RS.cells;rw [hdc];rfl
end Go.Proofs.YtlcmnclbljedfaaGreatDoor
namespace Go.Proofs.YtlcmnclbljedfaaGreatDoor
open Go Go.Ab
variable [Amb]
set_option maxRecDepth 100000
set_option maxHeartbeats 4000000
def fnvS (n:Int) (c:UInt8):Int:=IntKind.u64.wrap (bitsOf .xor .u64 n c.toNat*1099511628211)
def fnvI (b:List UInt8):Int:=b.foldl fnvS 14695981039346656037
theorem fnvI_snoc (b:List UInt8) (c:UInt8):fnvI (b++[c])=fnvS (fnvI b) c:=by simp [fnvI]
theorem fnvS_range (n:Int) (c:UInt8):0≤fnvS n c∧fnvS n c<18446744073709551616:=by
 unfold fnvS
 generalize bitsOf .xor .u64 n c.toNat*1099511628211=z
 simp only [IntKind.wrap,IntKind.signed,IntKind.bits]
 simp only [Bool.false_and,Bool.false_eq_true,if_false]
 omega
theorem fnvI_range (b:List UInt8):0≤fnvI b∧fnvI b<18446744073709551616:=by
 rcases List.eq_nil_or_concat b with rfl | ⟨r,c,rfl⟩
 ·decide
 ·rw [List.concat_eq_append,fnvI_snoc];exact fnvS_range _ _
theorem wrapB (c:UInt8):IntKind.u64.wrap (c.toNat:Int)=(c.toNat:Int):=by
 have:=c.toNat_lt
 simp only [IntKind.wrap,IntKind.signed,IntKind.bits]
 simp only [Bool.false_and,Bool.false_eq_true,if_false]
 omega
theorem alike_mixedB (b:List UInt8) (hb:b.length≤4611686018427387904):ACalls Tryz.prog 88 [.one (fileB b)] (.x (.one (.int .u64 (fnvI b)))):=by
 refine ACalls.of mixed (fn:=Tryz.f88) (by kernel_rfl) (by kernel_rfl) rfl (by kernel_rfl) (by simp [Tryz.f88]) (fun hok=>?_)
 simp -implicitDefEqProofs
 have hR:=rows_len b
 refine ALoopS.of Nat (fun i=>[(0,.x (.one (fileB b))),(3,.x (.one (.int .u64 (fnvI (b.take i))))),(6,.x (.one (.int .i64 b.length))),(7,.x (.one (.int .i64 i)))]) (fun i=>i≤b.length) (fun i=>b.length-i) 0 (Nat.zero_le _) ?_ ?_
 ·simp [fnvI,hR]
 intro i hi
 by_cases hlt:i<b.length
 ·have hlt':((i:Int)<(b.length:Int))=True:=eq_true (by omega)
  have hwr:IntKind.i64.wrap ((i:Int)+1)=(i:Int)+1:=wrapS _ (by omega)
  have hat:∀h,(byteRows b)[i]'h=byteRow b[i]:=fun h=>by rw [rows_at]
  have hst:fnvI (b.take (i+1))=fnvS (fnvI (b.take i)) b[i]:=by rw [List.take_succ_eq_append_getElem hlt,fnvI_snoc]
  have hwb:=wrapB b[i]
  simp -implicitDefEqProofs [hlt,hlt',hR,hat,hwb]
  refine Again.of (i+1) hlt (by omega) ?_
  simp [hst,hwr,fnvS]
 ·have hlt':((i:Int)<(b.length:Int))=False:=eq_false (by omega)
  have hi':i=b.length:=by omega
  subst hi'
  simp -implicitDefEqProofs [hlt']
def digC (n:Int):UInt8:=([48,49,50,51,52,53,54,55,56,57,97,98,99,100,101,102]:List UInt8).getD n.toNat 0
def hexD:Nat→Int→List UInt8
 | 0,_=>[]
 | k+1,n=>digC (n / 16 ^ k % 16)::hexD k n
theorem hexD_len (k:Nat) (n:Int):(hexD k n).length=k:=by
 induction k with
 | zero=>rfl
 | succ k ih=>simp [hexD,ih]
theorem and15 (m:Int) (h0:0≤m) (h1:m<18446744073709551616):bitsOf .and .u64 m 15=m % 16:=by
 obtain ⟨M,rfl⟩:∃M:Nat,m=M:=⟨m.toNat,by omega⟩
 have hM:M<2 ^ 64:=by omega
 have e:(BitVec.ofInt 64 (M:Int) &&& BitVec.ofInt 64 15).toNat=M % 16:=by
  have e2:(BitVec.ofInt 64 (15:Int)).toNat=2 ^ 4-1:=by decide
  rw [BitVec.toNat_and,e2,BitVec.ofInt_natCast,BitVec.toNat_ofNat,Nat.mod_eq_of_lt hM,Nat.and_two_pow_sub_one_eq_mod]
 show IntKind.u64.wrap ((BitVec.ofInt 64 (M:Int) &&& BitVec.ofInt 64 15).toNat:Int)=_
 rw [e]
 have:=Nat.mod_lt M (show 16 > 0 by decide)
 simp only [IntKind.wrap,IntKind.signed,IntKind.bits,Bool.false_and,Bool.false_eq_true,if_false]
 omega
theorem div_pow16 (n:Int) (h0:0≤n) (i:Nat):0≤n / 16 ^ i∧n / 16 ^ i≤n∧n / 16 ^ (i+1)=(n / 16 ^ i) / 16:=by
 have hp:(0:Int)<16 ^ i:=Int.pow_pos (by decide)
 refine ⟨Int.ediv_nonneg h0 (by omega),Int.ediv_le_self _ h0,?_⟩
 rw [Int.pow_succ,Int.ediv_ediv,if_neg (by omega)]
 omega
theorem alike_hex (n:Int) (h0:0≤n) (h1:n<18446744073709551616):ACalls Tryz.prog 87 [.one (.int .u64 n)] (.x (.one (.str (hexD 16 n)))):=by
 refine ACalls.of mixed (fn:=Tryz.f87) (by kernel_rfl) (by kernel_rfl) rfl (by kernel_rfl) (by simp [Tryz.f87]) (fun hok=>?_)
 simp -implicitDefEqProofs
 refine ALoopS.of Nat (fun i=>[(0,.x (.one (.int .u64 (n / 16 ^ i)))),(3,.own 5 1 (byteRows (List.replicate (16-i) 0++hexD i n))),(7,.x (.one (.int .i64 16))),(8,.x (.one (.int .i64 i)))]) (fun i=>i≤16) (fun i=>16-i) 0 (Nat.zero_le _) ?_ ?_
 ·simp [hexD,byteRows,byteRow]
 intro i hi
 by_cases hlt:i<16
 ·have hlt':((i:Int)<16)=True:=eq_true (by omega)
  have hwr:IntKind.i64.wrap ((i:Int)+1)=(i:Int)+1:=wrapS _ (by omega)
  have hwr2:IntKind.i64.wrap (15-(i:Int))=((15-i:Nat):Int):=by rw [show (15:Int)-i=((15-i:Nat):Int) by omega];exact wrapS _ (by omega)
  obtain ⟨d0,d1,d2⟩:=div_pow16 n h0 i
  have hand:=and15 (n / 16 ^ i) d0 (by omega)
  have hl:=hexD_len i n
  obtain ⟨D,eD⟩:∃D,D=n / 16 ^ i % 16:=⟨_,rfl⟩
  have hD0:(0≤D)=True:=eq_true (by omega)
  have hD1:(D<16)=True:=eq_true (by omega)
  have hst:hexD (i+1) n=digC D::hexD i n:=by rw [eD];rfl
  rw [←eD] at hand
  have hrl:(byteRows (List.replicate (16-i) 0++hexD i n)).length=16:=by simp [byteRows,hl];omega
  have hlt2:15-i<16:=by omega
  have hlt3:(((15-i:Nat):Int)<16)=True:=eq_true (by omega)
  have hD2:D.toNat<16:=by omega
  obtain ⟨C,eC⟩:∃C,C=digC D:=⟨_,rfl⟩
  have hC:([48,49,50,51,52,53,54,55,56,57,97,98,99,100,101,102]:List UInt8)[D.toNat]?=some C:=by
   rw [eC];unfold digC;rw [List.getD_eq_getElem?_getD,List.getElem?_eq_getElem (by simpa using hD2)];rfl
  have hC':∀h,([48,49,50,51,52,53,54,55,56,57,97,98,99,100,101,102]:List UInt8)[D.toNat]'h=C:=fun h=>by
   have:=List.getElem?_eq_getElem h
   rw [this] at hC
   injection hC
  have hset:byteRows (List.replicate (15-i) 0++C::hexD i n)=(byteRows (List.replicate (16-i) 0++hexD i n)).set (15-i) (byteRow C):=by
   rw [byteRows_set]
   congr 1
   rw [show 16-i=(15-i)+1 by omega,List.replicate_succ',List.append_assoc,List.set_append_right _ _ (by simp)]
   simp
  have hat:∀h,(byteRows (List.replicate (16-i) 0++hexD i n))[15-i]'h=byteRow ((List.replicate (16-i) 0++hexD i n)[15-i]'(by simpa [byteRows] using h)):=fun h=>by rw [rows_at]
  have hfd:(n / 16 ^ i).fdiv 16=n / 16 ^ (i+1):=by rw [d2,Int.fdiv_eq_ediv_of_nonneg _ (by decide)]
  simp -implicitDefEqProofs [hlt,hlt',hwr2,hand,hD0,hD1,hrl,hlt2,hlt3,hat,hC',byteRow]
  refine Again.of (i+1) hlt (by omega) ?_
  rw [←eC] at hst
  simp [hst,hwr,hset,byteRow,IntKind.bits,hfd,show 16-(i+1)=15-i by omega]
 ·have hlt':((i:Int)<16)=False:=eq_false (by omega)
  have hi':i=16:=by omega
  subst hi'
  have hok1:=okB_rows (hexD 16 n)
  have hb1:=strB_rows (hexD 16 n)
  have hl:=hexD_len 16 n
  have hrl:(byteRows (hexD 16 n)).length=16:=by simp [byteRows,hl]
  simp -implicitDefEqProofs [hlt',hok1,hb1,hl,hrl]
def digL (b:List UInt8):List UInt8:=hexD 16 (fnvI b)
theorem digL_len (b:List UInt8):(digL b).length=16:=hexD_len _ _
theorem alike_Digest (b:List UInt8) (hb:b.length≤4611686018427387904):ACalls Tryz.prog 44 [.one (fileB b)] (.x (.one (.str (digL b)))):=by
 refine ACalls.of mixed (fn:=Tryz.f44) (by kernel_rfl) (by kernel_rfl) rfl (by kernel_rfl) (by simp [Tryz.f44]) (fun hok=>?_)
 simp -implicitDefEqProofs
 refine ACallK.of (alike_mixedB b hb) ?_
 obtain ⟨h0,h1⟩:=fnvI_range b
 simp -implicitDefEqProofs
 refine ACallK.of (alike_hex _ h0 h1) ?_
 simp -implicitDefEqProofs [digL]
theorem slices_CloneF (l:List UInt8) (hb:l.length≤16777216):ACalls Tryz.prog 97 [.one (fileB l)] (.x (.one (fileB l))):=by
 cases l with
 | nil =>
  refine ACalls.split_list (pre:=[]) (post:=[]) ?_ ?_
  ·refine ACalls.of mixed (fn:=Tryz.f97) (by kernel_rfl) (by kernel_rfl) rfl (by kernel_rfl) (by simp [Tryz.f97]) (fun hok=>?_)
   simp -implicitDefEqProofs +contextual [-Bool.and_eq_false_imp,Bool.and_eq_false_iff,byteRows]
  ·refine ACalls.of mixed (fn:=Tryz.f97) (by kernel_rfl) (by kernel_rfl) rfl (by kernel_rfl) (by simp [Tryz.f97]) (fun hok=>?_)
   simp -implicitDefEqProofs +contextual [-Bool.and_eq_false_imp,Bool.and_eq_false_iff,byteRows]
 | cons x r =>
  refine ACalls.of mixed (fn:=Tryz.f97) (by kernel_rfl) (by kernel_rfl) rfl (by kernel_rfl) (by simp [Tryz.f97]) (fun hok=>?_)
  simp -implicitDefEqProofs +contextual [-Bool.and_eq_false_imp,Bool.and_eq_false_iff,byteRows,byteRow]
  simp at hb
  unfold maxLen
  omega
def wline (w v:List UInt8):List UInt8:=w++[58,32]++v++[13,10]
theorem wline_len (w v:List UInt8):(wline w v).length=w.length+v.length+4:=by simp [wline];omega
theorem record_write1 (w v:List UInt8) (xs:List (List CV)) (h:xs.length+(w.length+v.length+4)≤1099511627776):ACallsL Tryz.prog 77 [.x (.one (.str w)),.x (.one (.str v)),.box [.any]] [(5,1,xs)] [(2,0)] (.tup []) [.dead,.dead,.box [.any]] [(5,1,xs++byteRows (wline w v))]:=by
 refine ACallsL.of [(2,0)] (by simp) mixed (fn:=Tryz.f77) (by kernel_rfl) (by kernel_rfl) rfl (by kernel_rfl) (by kernel_rfl) rfl (by simp [Tryz.f77]) rfl rfl (fun _=>rfl) (fun g hok=>?_)
 have hw:wline w v=w++58::32::(v++[13,10]):=by simp [wline]
 simp -implicitDefEqProofs [MARK,hw]
 unfold maxLen
 omega
theorem write_line (acc w v acc':List UInt8) (e:acc'=acc++wline w v) (h:acc'.length≤1099511627776):ACallsL Tryz.prog 77 [.x (.one (.str w)),.x (.one (.str v)),.box [.any]] [(5,1,byteRows acc)] [(2,0)] (.tup []) [.dead,.dead,.box [.any]] [(5,1,byteRows acc')]:=by
 have hl:acc'.length=acc.length+(w.length+v.length+4):=by rw [e,List.length_append,wline_len]
 have k:=record_write1 w v (byteRows acc) (by rw [rows_len];omega)
 have:byteRows acc++byteRows (wline w v)=byteRows acc':=by rw [e];simp [byteRows]
 rw [this] at k
 exact k
end Go.Proofs.YtlcmnclbljedfaaGreatDoor
namespace Go.Proofs.YtlcmnclbljedfaaGreatDoor
open Go Go.Ab
variable [Amb] [HasPow10 Tryz.prog]
set_option maxRecDepth 100000
set_option maxHeartbeats 4000000
structure Rec where
 kind:Int
 id:List UInt8
 of:List UInt8
 time:Int
 key:List UInt8
 heads:List Head
 block:List UInt8
def Rec.row (r:Rec):List CV:=[.int .i64 r.kind,.str r.id,.str r.of,.int .i64 r.time,.str r.key,.list 2 (r.heads.map Head.row),fileB r.block]
def keptL:List UInt8:=[75,69,80,84,47,49,13,10]
def headsW (l:List Head):List UInt8:=l.flatMap fun h=>wline h.name h.value
def kindL (k:Int):List UInt8:=kindsL.getD (k-1).toNat []
def wr1 (r:Rec):List UInt8:=keptL++wline [105,100] r.id
def wr2 (r:Rec):List UInt8:=if r.of=[] then wr1 r else wr1 r++wline [111,102] r.of
def wr3 (r:Rec):List UInt8:=wr2 r++wline [107,105,110,100] (kindL r.kind)
def wr4 (r:Rec):List UInt8:=wr3 r++wline [100,97,116,101] (dateL r.time)
def wr5 (r:Rec):List UInt8:=wr4 r++wline [107,101,121] r.key
def wr6 (r:Rec):List UInt8:=wr5 r++headsW r.heads
def wr7 (r:Rec):List UInt8:=wr6 r++wline [108,101,110,103,116,104] (itoaL r.block.length)
def wr8 (r:Rec):List UInt8:=wr7 r++wline [100,105,103,101,115,116] (digL r.block)
def recL (r:Rec):List UInt8:=wr8 r++([13,10]++(r.block++[13,10,13,10]))
def Rec.fits (r:Rec):Prop:=1≤r.kind∧r.kind≤5∧momentB r.time=true∧(recL r).length≤1099511627776
theorem headsW_len:∀l:List Head,l.length≤(headsW l).length
 | []=>Nat.le_refl _
 | h::r=>by
  have:=headsW_len r
  unfold headsW at this ⊢
  simp only [List.flatMap_cons,List.length_append,List.length_cons,wline_len]
  omega
theorem append_rows (a b:List UInt8):byteRows a++byteRows b=byteRows (a++b):=by simp [byteRows]
theorem record_write (r:Rec) (hr:r.fits):ACalls Tryz.prog 38 [.one .nil,.agg r.row] (.own 5 1 (byteRows (recL r))):=by
 obtain ⟨hk1,hk2,hm,hlen⟩:=hr
 have l8:(wr8 r).length+r.block.length+6≤1099511627776:=by unfold recL at hlen;simp at hlen;omega
 have l7:(wr7 r).length≤(wr8 r).length:=by unfold wr8;simp
 have l6:(wr6 r).length≤(wr7 r).length:=by unfold wr7;simp
 have l5:(wr5 r).length≤(wr6 r).length:=by unfold wr6;simp
 have l4:(wr4 r).length≤(wr5 r).length:=by unfold wr5;simp
 have l3:(wr3 r).length≤(wr4 r).length:=by unfold wr4;simp
 have l2:(wr2 r).length≤(wr3 r).length:=by unfold wr3;simp
 have l1:(wr1 r).length≤(wr2 r).length:=by unfold wr2;split<;>simp
 refine @ACalls.ofL _ (grows [3,5,6,8,9,13,15,16] [(6,[1,1,1,1,1,1,1,0]),(17,[1,4,7,7,0,0])]) [(2,0)] [] _ _ _ _ _ (by simp) mixed (fn:=Tryz.f38) (by kernel_rfl) (by kernel_rfl) rfl (by kernel_rfl) (by simp [Tryz.f38]) (fun hok=>?_)
 unfold Rec.row
 simp -implicitDefEqProofs [MARK]
 refine AGrow.of (write_line keptL [105,100] r.id (wr1 r) rfl (by omega)) ?_
 intro g1
 obtain ⟨K,eK⟩:∃K:Nat,r.kind=(K:Int)+1:=⟨(r.kind-1).toNat,by omega⟩
 have hK5:K<5:=by omega
 have hKw:IntKind.i64.wrap (r.kind-1)=(K:Int):=by rw [eK,show (K:Int)+1-1=K by omega];exact wrapS _ (by omega)
 have hK0:((K:Int)<(kindsL.length:Int))=True:=eq_true (by show (K:Int)<5;omega)
 have hKl:kindsL[K]?=some (kindL r.kind):=by
  unfold kindL
  rw [List.getD_eq_getElem?_getD,eK,show ((K:Int)+1-1).toNat=K by omega,List.getElem?_eq_getElem (show K<kindsL.length from hK5)]
  rfl
 have hheads:r.heads.length≤1099511627776:=by
  have:=headsW_len r.heads
  have:(headsW r.heads).length≤(wr6 r).length:=by unfold wr6;simp
  omega
 have kd:=message_DateText r.time
 rw [if_pos hm,if_pos hm] at kd
 by_cases ho:r.of=[]
 ·have e3:wr3 r=wr1 r++wline [107,105,110,100] (kindL r.kind):=by unfold wr3 wr2;rw [if_pos ho]
  have hor:(r.of=[])=True:=eq_true ho
  simp -implicitDefEqProofs [MARK,hor]
  refine ACallK.of record_kinds ?_
  simp -implicitDefEqProofs [MARK,hKw,hK0,hKl]
  refine AGrow.of (write_line (wr1 r) [107,105,110,100] (kindL r.kind) (wr3 r) e3 (by omega)) ?_
  intro g2
  simp -implicitDefEqProofs [MARK]
  refine ACallK.of kd ?_
  simp -implicitDefEqProofs [MARK]
  refine AGrow.of (write_line (wr3 r) [100,97,116,101] (dateL r.time) (wr4 r) rfl (by omega)) ?_
  intro g3
  simp -implicitDefEqProofs [MARK]
  refine AGrow.of (write_line (wr4 r) [107,101,121] r.key (wr5 r) rfl (by omega)) ?_
  intro g4
  simp -implicitDefEqProofs [MARK]
  refine ALoopS.of (Nat×Value) (fun x=>[(2,.box [.any]),(3,.box r.row),(5,.cloR 77 [.inr (2,0)]),(12,.gown x.2 5 1 (byteRows (wr5 r++headsW (r.heads.take x.1)))),(46,.x (.one (.list 2 (r.heads.map Head.row)))),(47,.x (.one (.int .i64 r.heads.length))),(48,.x (.one (.int .i64 x.1))),(999999,.res [(2,0)]),(1002000,.link 2 0 12)])
   (fun x=>x.1≤r.heads.length) (fun x=>r.heads.length-x.1) (0,g4 0) (Nat.zero_le _) ?_ ?_
  ·simp [headsW,Rec.row]
  rintro ⟨i,v⟩ hi
  dsimp only at hi ⊢
  by_cases hlt:i<r.heads.length
  ·have hlt':((i:Int)<(r.heads.length:Int))=True:=eq_true (by omega)
   have hwr:IntKind.i64.wrap ((i:Int)+1)=(i:Int)+1:=wrapS _ (by omega)
   have hrow:∀h:Head,h.row=[.str h.name,.str h.value]:=fun _=>rfl
   have hst:headsW (r.heads.take (i+1))=headsW (r.heads.take i)++wline r.heads[i].name r.heads[i].value:=by
    unfold headsW;rw [List.take_succ_eq_append_getElem hlt,List.flatMap_append];simp
   have hpre:(wr5 r++headsW (r.heads.take (i+1))).length≤(wr6 r).length:=by
    unfold wr6 headsW
    have:(r.heads.take (i+1)).flatMap (fun h=>wline h.name h.value) <+: r.heads.flatMap (fun h=>wline h.name h.value):=by
     conv=>rhs;rw [←List.take_append_drop (i+1) r.heads]
     rw [List.flatMap_append]
     exact List.prefix_append _ _
    have:=this.length_le
    simp only [List.length_append]
    omega
   unfold Rec.row
   simp -implicitDefEqProofs [MARK,hlt,hlt',hrow]
   refine AGrow.of (write_line (wr5 r++headsW (r.heads.take i)) r.heads[i].name r.heads[i].value (wr5 r++headsW (r.heads.take (i+1))) (by rw [hst,List.append_assoc]) (by omega)) ?_
   intro g5
   simp -implicitDefEqProofs [MARK]
   refine Again.of (i+1,g5 0) hlt (by simp only;omega) ?_
   simp [hwr]
  have hlt':((i:Int)<(r.heads.length:Int))=False:=eq_false (by omega)
  have hi':i=r.heads.length:=by omega
  subst hi'
  have hRl:=rows_len r.block
  have hT:wr5 r++headsW (r.heads.take r.heads.length)=wr6 r:=by rw [List.take_length];rfl
  have kI:=strconv_Itoa (r.block.length:Int) (by unfold I64;omega)
  rw [hT]
  unfold Rec.row
  simp -implicitDefEqProofs [MARK,hlt']
  refine ACallK.of kI ?_
  simp -implicitDefEqProofs [MARK]
  refine AGrow.of (write_line (wr6 r) [108,101,110,103,116,104] (itoaL r.block.length) (wr7 r) rfl (by omega)) ?_
  intro g6
  simp -implicitDefEqProofs [MARK]
  refine ACallK.of (alike_Digest r.block (by omega)) ?_
  simp -implicitDefEqProofs [MARK]
  refine AGrow.of (write_line (wr7 r) [100,105,103,101,115,116] (digL r.block) (wr8 r) rfl (by omega)) ?_
  intro g7
  have hl8:(byteRows (wr8 r)).length=(wr8 r).length:=rows_len _
  simp -implicitDefEqProofs [MARK,hRl,hl8]
  exact ⟨by omega,⟨by omega,by unfold maxLen;omega⟩,by omega,by simp [recL,byteRows]⟩
 ·have e2:wr2 r=wr1 r++wline [111,102] r.of:=by unfold wr2;rw [if_neg ho]
  have hor:(r.of=[])=False:=eq_false ho
  simp -implicitDefEqProofs [MARK,hor]
  refine AGrow.of (write_line (wr1 r) [111,102] r.of (wr2 r) e2 (by omega)) ?_
  intro g1b
  simp -implicitDefEqProofs [MARK]
  refine ACallK.of record_kinds ?_
  simp -implicitDefEqProofs [MARK,hKw,hK0,hKl]
  refine AGrow.of (write_line (wr2 r) [107,105,110,100] (kindL r.kind) (wr3 r) rfl (by omega)) ?_
  intro g2
  simp -implicitDefEqProofs [MARK]
  refine ACallK.of kd ?_
  simp -implicitDefEqProofs [MARK]
  refine AGrow.of (write_line (wr3 r) [100,97,116,101] (dateL r.time) (wr4 r) rfl (by omega)) ?_
  intro g3
  simp -implicitDefEqProofs [MARK]
  refine AGrow.of (write_line (wr4 r) [107,101,121] r.key (wr5 r) rfl (by omega)) ?_
  intro g4
  simp -implicitDefEqProofs [MARK]
  refine ALoopS.of (Nat×Value) (fun x=>[(2,.box [.any]),(3,.box r.row),(5,.cloR 77 [.inr (2,0)]),(12,.gown x.2 5 1 (byteRows (wr5 r++headsW (r.heads.take x.1)))),(46,.x (.one (.list 2 (r.heads.map Head.row)))),(47,.x (.one (.int .i64 r.heads.length))),(48,.x (.one (.int .i64 x.1))),(999999,.res [(2,0)]),(1002000,.link 2 0 12)])
   (fun x=>x.1≤r.heads.length) (fun x=>r.heads.length-x.1) (0,g4 0) (Nat.zero_le _) ?_ ?_
  ·simp [headsW,Rec.row]
  rintro ⟨i,v⟩ hi
  dsimp only at hi ⊢
  by_cases hlt:i<r.heads.length
  ·have hlt':((i:Int)<(r.heads.length:Int))=True:=eq_true (by omega)
   have hwr:IntKind.i64.wrap ((i:Int)+1)=(i:Int)+1:=wrapS _ (by omega)
   have hrow:∀h:Head,h.row=[.str h.name,.str h.value]:=fun _=>rfl
   have hst:headsW (r.heads.take (i+1))=headsW (r.heads.take i)++wline r.heads[i].name r.heads[i].value:=by
    unfold headsW;rw [List.take_succ_eq_append_getElem hlt,List.flatMap_append];simp
   have hpre:(wr5 r++headsW (r.heads.take (i+1))).length≤(wr6 r).length:=by
    unfold wr6 headsW
    have:(r.heads.take (i+1)).flatMap (fun h=>wline h.name h.value) <+: r.heads.flatMap (fun h=>wline h.name h.value):=by
     conv=>rhs;rw [←List.take_append_drop (i+1) r.heads]
     rw [List.flatMap_append]
     exact List.prefix_append _ _
    have:=this.length_le
    simp only [List.length_append]
    omega
   unfold Rec.row
   simp -implicitDefEqProofs [MARK,hlt,hlt',hrow]
   refine AGrow.of (write_line (wr5 r++headsW (r.heads.take i)) r.heads[i].name r.heads[i].value (wr5 r++headsW (r.heads.take (i+1))) (by rw [hst,List.append_assoc]) (by omega)) ?_
   intro g5
   simp -implicitDefEqProofs [MARK]
   refine Again.of (i+1,g5 0) hlt (by simp only;omega) ?_
   simp [hwr]
  have hlt':((i:Int)<(r.heads.length:Int))=False:=eq_false (by omega)
  have hi':i=r.heads.length:=by omega
  subst hi'
  have hRl:=rows_len r.block
  have hT:wr5 r++headsW (r.heads.take r.heads.length)=wr6 r:=by rw [List.take_length];rfl
  have kI:=strconv_Itoa (r.block.length:Int) (by unfold I64;omega)
  rw [hT]
  unfold Rec.row
  simp -implicitDefEqProofs [MARK,hlt']
  refine ACallK.of kI ?_
  simp -implicitDefEqProofs [MARK]
  refine AGrow.of (write_line (wr6 r) [108,101,110,103,116,104] (itoaL r.block.length) (wr7 r) rfl (by omega)) ?_
  intro g6
  simp -implicitDefEqProofs [MARK]
  refine ACallK.of (alike_Digest r.block (by omega)) ?_
  simp -implicitDefEqProofs [MARK]
  refine AGrow.of (write_line (wr7 r) [100,105,103,101,115,116] (digL r.block) (wr8 r) rfl (by omega)) ?_
  intro g7
  have hl8:(byteRows (wr8 r)).length=(wr8 r).length:=rows_len _
  simp -implicitDefEqProofs [MARK,hRl,hl8]
  exact ⟨by omega,⟨by omega,by unfold maxLen;omega⟩,by omega,by simp [recL,byteRows]⟩
def ownL:List (List UInt8):=[[105,100],[111,102],[107,105,110,100],[100,97,116,101],[107,101,121],[108,101,110,103,116,104],[100,105,103,101,115,116]]
theorem record_own:ACalls Tryz.prog 133 [] (.x (strs ownL)):=by
 refine ACalls.of mixed (fn:=Tryz.f133) (by kernel_rfl) (by kernel_rfl) rfl (by kernel_rfl) (by simp [Tryz.f133]) (fun hok=>?_)
 simp -implicitDefEqProofs [ownL]
def ownB (h:Head):Bool:=decide (smallL h.name∈ownL)
def recF (r:Rec):Int:=
 if r.kind<1∨5<r.kind then 4 else if nameB r.id=false∨(r.of≠[]∧nameB r.of=false) then 5 else if r.of=r.id∨(r.of=[]∧(r.kind=4∨r.kind=5))∨(r.of≠[]∧r.kind=1) then 12
 else if momentB r.time=false then 1 else if keyB r.key=false then 3 else if 30<r.heads.length then 2 else if headsF r.heads≠0 then headsF r.heads else if r.heads.any ownB=true then 12
 else if 200000<r.block.length then 2 else if r.kind=4∧r.block≠[] then 3 else 0
theorem record_CheckRecord (r:Rec):ACalls Tryz.prog 76 [.agg r.row] (.x (.one (.int .i64 (recF r)))):=by
 obtain ⟨F,eF⟩:∃F,F=recF r:=⟨_,rfl⟩
 rw [←eF]
 unfold recF at eF
 have k1:=isName r.id
 have k2:=isName r.of
 have k3:=isMoment r.time
 have k4:=isKey r.key
 have k5:=message_CheckHeads r.heads
 have hRl:=rows_len r.block
 have hob:∀h,ownB h=decide (smallL h.name∈ownL):=fun _=>rfl
 obtain ⟨A,eA⟩:∃A,A=r.heads.any ownB:=⟨_,rfl⟩
 have hA1:∀i (h:i<r.heads.length),ownB r.heads[i]=true→A=true:=fun i h hb=>by rw [eA,List.any_eq_true];exact ⟨_,List.getElem_mem h,hb⟩
 have hA2:(∀i (h:i<r.heads.length),ownB r.heads[i]=false)→A=false:=fun h=>by
  rw [eA,List.any_eq_false];intro x hx;obtain ⟨i,hi,rfl⟩:=List.getElem_of_mem hx;simp [h i hi]
 rw [←eA] at eF
 unfold Rec.row
 generalize nameB r.id=N1 at k1 eF
 generalize nameB r.of=N2 at k2 eF
 generalize momentB r.time=N3 at k3 eF
 generalize keyB r.key=N4 at k4 eF
 generalize headsF r.heads=N5 at k5 eF
 clear eA
 obtain ⟨kind,id,of,time,key,heads,block⟩:=r
 dsimp only at *
 refine ACalls.of mixed (fn:=Tryz.f76) (by kernel_rfl) (by kernel_rfl) rfl (by kernel_rfl) (by simp [Tryz.f76]) (fun hok=>?_)
 by_cases h1:kind<1
 ·rw [if_pos (.inl h1)] at eF
  subst eF
  have h1':(kind<1)=True:=eq_true h1
  simp -implicitDefEqProofs [h1']
 have h1':(kind<1)=False:=eq_false h1
 by_cases h2:5<kind
 ·rw [if_pos (.inr h2)] at eF
  subst eF
  have h2':(5<kind)=True:=eq_true h2
  simp -implicitDefEqProofs [h1',h2']
 have h2':(5<kind)=False:=eq_false h2
 rw [if_neg (by omega)] at eF
 simp -implicitDefEqProofs [h1',h2']
 refine ACallK.of k1 ?_
 cases N1
 ·rw [if_pos (.inl rfl)] at eF
  subst eF
  simp -implicitDefEqProofs
  refine ACallGS.of (fun h=>by cases h) (r:=.x (.one (.bool false))) rfl ?_
  simp -implicitDefEqProofs
 cases of with
 | nil =>
  rw [if_neg (by simp)] at eF
  simp -implicitDefEqProofs
  refine ACallGS.of (fun h=>by cases h) (r:=.x (.one (.bool false))) rfl ?_
  by_cases hid:id=[]
  ·rw [if_pos (.inl hid.symm)] at eF
   subst eF
   have hid':(id=[])=True:=eq_true hid
   have hid2:([]=id)=True:=eq_true hid.symm
   simp -implicitDefEqProofs [hid',hid2]
  have hid':(id=[])=False:=eq_false hid
  have hid2:([]=id)=False:=eq_false (fun h=>hid h.symm)
  by_cases hk4:kind=4∨kind=5
  ·rw [if_pos (.inr (.inl ⟨rfl,hk4⟩))] at eF
   subst eF
   rcases hk4 with hk4 | hk4
   ·have hk4':(kind=4)=True:=eq_true hk4
    simp -implicitDefEqProofs [hid',hid2,hk4']
   ·have hk4':(kind=4)=False:=eq_false (by omega)
    have hk5':(kind=5)=True:=eq_true hk4
    simp -implicitDefEqProofs [hid',hid2,hk4',hk5']
  have hk4':(kind=4)=False:=eq_false (by omega)
  have hk5':(kind=5)=False:=eq_false (by omega)
  rw [if_neg (by rintro (h | ⟨_,h⟩ | ⟨h,_⟩);exact hid h.symm;exact hk4 h;exact h rfl)] at eF
  simp -implicitDefEqProofs [hid',hid2,hk4',hk5']
  refine ACallK.of k3 ?_
  cases N3
  ·rw [if_pos rfl] at eF
   subst eF
   simp -implicitDefEqProofs
  rw [if_neg (by decide)] at eF
  simp -implicitDefEqProofs
  refine ACallK.of k4 ?_
  cases N4
  ·rw [if_pos rfl] at eF
   subst eF
   simp -implicitDefEqProofs
  rw [if_neg (by decide)] at eF
  by_cases h30:30<heads.length
  ·rw [if_pos h30] at eF
   subst eF
   have h30':(30<(heads.length:Int))=True:=eq_true (by omega)
   simp -implicitDefEqProofs [h30']
  rw [if_neg h30] at eF
  have h30':(30<(heads.length:Int))=False:=eq_false (by omega)
  simp -implicitDefEqProofs [h30']
  refine ACallK.of k5 ?_
  by_cases hN5:N5=0
  ·rw [if_neg (by simpa using hN5)] at eF
   subst hN5
   simp -implicitDefEqProofs
   refine ALoopS.of Nat (fun i=>[(1,.box [.int .i64 kind,.str id,.str [],.int .i64 time,.str key,.list 2 (heads.map Head.row),fileB block]),(80,.x (.one (.list 2 (heads.map Head.row)))),(81,.x (.one (.int .i64 heads.length))),(82,.x (.one (.int .i64 i)))])
    (fun i=>i≤heads.length∧∀j (h:j<heads.length),j<i→ownB heads[j]=false) (fun i=>heads.length-i) 0 ⟨Nat.zero_le _,fun j h h'=>by omega⟩ ?_ ?_
   ·simp
   rintro i ⟨hi,hp⟩
   by_cases hlt:i<heads.length
   ·have hlt':((i:Int)<(heads.length:Int))=True:=eq_true (by omega)
    have hwr:IntKind.i64.wrap ((i:Int)+1)=(i:Int)+1:=wrapS _ (by omega)
    have hrow:∀h:Head,h.row=[.str h.name,.str h.value]:=fun _=>rfl
    simp -implicitDefEqProofs [hlt,hlt',hrow]
    refine ACallK.of record_own ?_
    simp -implicitDefEqProofs
    refine ACallK.of (address_Small heads[i].name) ?_
    simp -implicitDefEqProofs
    have k6:=slices_ContainsS ownL (smallL heads[i].name)
    rw [←hob] at k6
    refine ACallK.of k6 ?_
    cases hc:ownB heads[i]
    ·simp -implicitDefEqProofs
     refine Again.of (i+1) ⟨hlt,fun j h hj=>?_⟩ (by omega) ?_
     ·rcases Nat.lt_or_ge j i with h' | h'
      ·exact hp j h h'
      ·obtain rfl:j=i:=by omega
       exact hc
     ·simp [hwr]
    ·rw [if_pos (hA1 i hlt hc)] at eF
     subst eF
     simp -implicitDefEqProofs
   have hlt':((i:Int)<(heads.length:Int))=False:=eq_false (by omega)
   have hA:A=false:=hA2 (fun j h=>hp j h (by omega))
   rw [if_neg (by rw [hA];decide)] at eF
   by_cases hB:200000<block.length
   ·rw [if_pos hB] at eF
    subst eF
    have hB':(200000<(block.length:Int))=True:=eq_true (by omega)
    simp -implicitDefEqProofs [hlt',hRl,hB']
   rw [if_neg hB] at eF
   have hB':(200000<(block.length:Int))=False:=eq_false (by omega)
   by_cases hk:kind=4
   ·have hk':(kind=4)=True:=eq_true hk
    by_cases hb0:block=[]
    ·rw [if_neg (by simp [hb0])] at eF
     subst eF
     have hb0':(block=[])=True:=eq_true hb0
     simp -implicitDefEqProofs [hlt',hRl,hB',hk',hb0']
    ·rw [if_pos ⟨hk,hb0⟩] at eF
     subst eF
     have hb0':(block=[])=False:=eq_false hb0
     simp -implicitDefEqProofs [hlt',hRl,hB',hk',hb0']
   ·rw [if_neg (by rintro ⟨h,_⟩;exact hk h)] at eF
    subst eF
    have hk':(kind=4)=False:=eq_false hk
    simp -implicitDefEqProofs [hlt',hRl,hB',hk']
  ·rw [if_pos hN5] at eF
   subst eF
   have hN5':(F=0)=False:=eq_false hN5
   simp -implicitDefEqProofs [hN5']
 | cons oc ol =>
  simp -implicitDefEqProofs
  refine ACallGS.of (fun _=>k2) rfl ?_
  cases N2
  ·rw [if_pos (.inr ⟨by simp,rfl⟩)] at eF
   subst eF
   simp -implicitDefEqProofs
  rw [if_neg (by simp)] at eF
  by_cases hid:oc::ol=id
  ·rw [if_pos (.inl hid)] at eF
   subst eF
   have hid':(oc::ol=id)=True:=eq_true hid
   simp -implicitDefEqProofs [hid']
  have hid':(oc::ol=id)=False:=eq_false hid
  by_cases hk1:kind=1
  ·rw [if_pos (.inr (.inr ⟨by simp,hk1⟩))] at eF
   subst eF
   have hk1':(kind=1)=True:=eq_true hk1
   simp -implicitDefEqProofs [hid',hk1']
  have hk1':(kind=1)=False:=eq_false hk1
  rw [if_neg (by rintro (h | ⟨h,_⟩ | ⟨_,h⟩);exact hid h;cases h;exact hk1 h)] at eF
  simp -implicitDefEqProofs [hid',hk1']
  refine ACallK.of k3 ?_
  cases N3
  ·rw [if_pos rfl] at eF
   subst eF
   simp -implicitDefEqProofs
  rw [if_neg (by decide)] at eF
  simp -implicitDefEqProofs
  refine ACallK.of k4 ?_
  cases N4
  ·rw [if_pos rfl] at eF
   subst eF
   simp -implicitDefEqProofs
  rw [if_neg (by decide)] at eF
  by_cases h30:30<heads.length
  ·rw [if_pos h30] at eF
   subst eF
   have h30':(30<(heads.length:Int))=True:=eq_true (by omega)
   simp -implicitDefEqProofs [h30']
  rw [if_neg h30] at eF
  have h30':(30<(heads.length:Int))=False:=eq_false (by omega)
  simp -implicitDefEqProofs [h30']
  refine ACallK.of k5 ?_
  by_cases hN5:N5=0
  ·rw [if_neg (by simpa using hN5)] at eF
   subst hN5
   simp -implicitDefEqProofs
   refine ALoopS.of Nat (fun i=>[(1,.box [.int .i64 kind,.str id,.str (oc::ol),.int .i64 time,.str key,.list 2 (heads.map Head.row),fileB block]),(80,.x (.one (.list 2 (heads.map Head.row)))),(81,.x (.one (.int .i64 heads.length))),(82,.x (.one (.int .i64 i)))])
    (fun i=>i≤heads.length∧∀j (h:j<heads.length),j<i→ownB heads[j]=false) (fun i=>heads.length-i) 0 ⟨Nat.zero_le _,fun j h h'=>by omega⟩ ?_ ?_
   ·simp
   rintro i ⟨hi,hp⟩
   by_cases hlt:i<heads.length
   ·have hlt':((i:Int)<(heads.length:Int))=True:=eq_true (by omega)
    have hwr:IntKind.i64.wrap ((i:Int)+1)=(i:Int)+1:=wrapS _ (by omega)
    have hrow:∀h:Head,h.row=[.str h.name,.str h.value]:=fun _=>rfl
    simp -implicitDefEqProofs [hlt,hlt',hrow]
    refine ACallK.of record_own ?_
    simp -implicitDefEqProofs
    refine ACallK.of (address_Small heads[i].name) ?_
    simp -implicitDefEqProofs
    have k6:=slices_ContainsS ownL (smallL heads[i].name)
    rw [←hob] at k6
    refine ACallK.of k6 ?_
    cases hc:ownB heads[i]
    ·simp -implicitDefEqProofs
     refine Again.of (i+1) ⟨hlt,fun j h hj=>?_⟩ (by omega) ?_
     ·rcases Nat.lt_or_ge j i with h' | h'
      ·exact hp j h h'
      ·obtain rfl:j=i:=by omega
       exact hc
     ·simp [hwr]
    ·rw [if_pos (hA1 i hlt hc)] at eF
     subst eF
     simp -implicitDefEqProofs
   have hlt':((i:Int)<(heads.length:Int))=False:=eq_false (by omega)
   have hA:A=false:=hA2 (fun j h=>hp j h (by omega))
   rw [if_neg (by rw [hA];decide)] at eF
   by_cases hB:200000<block.length
   ·rw [if_pos hB] at eF
    subst eF
    have hB':(200000<(block.length:Int))=True:=eq_true (by omega)
    simp -implicitDefEqProofs [hlt',hRl,hB']
   rw [if_neg hB] at eF
   have hB':(200000<(block.length:Int))=False:=eq_false (by omega)
   by_cases hk:kind=4
   ·have hk':(kind=4)=True:=eq_true hk
    by_cases hb0:block=[]
    ·rw [if_neg (by simp [hb0])] at eF
     subst eF
     have hb0':(block=[])=True:=eq_true hb0
     simp -implicitDefEqProofs [hlt',hRl,hB',hk',hb0']
    ·rw [if_pos ⟨hk,hb0⟩] at eF
     subst eF
     have hb0':(block=[])=False:=eq_false hb0
     simp -implicitDefEqProofs [hlt',hRl,hB',hk',hb0']
   ·rw [if_neg (by rintro ⟨h,_⟩;exact hk h)] at eF
    subst eF
    have hk':(kind=4)=False:=eq_false hk
    simp -implicitDefEqProofs [hlt',hRl,hB',hk']
  ·rw [if_pos hN5] at eF
   subst eF
   have hN5':(F=0)=False:=eq_false hN5
   simp -implicitDefEqProofs [hN5']
end Go.Proofs.YtlcmnclbljedfaaGreatDoor
namespace Go.Proofs.YtlcmnclbljedfaaGreatDoor
open Go Go.Ab
variable [Amb] [HasInt 0] [HasPow10 Tryz.prog]
set_option maxRecDepth 100000
set_option maxHeartbeats 4000000
def rs0 (b:List UInt8) (a:Nat):RS:=⟨b,a,0,[],[],0,[],[],0,[]⟩
def RS.good (b:List UInt8) (x:RS):Prop:=x.ok∧x.b=b∧0≤x.length∧x.length<1000000000
theorem thenR_good {b:List UInt8} {r:Bool×RS} {f:RS→Bool×RS} (h:r.2.good b) (hf:∀x:RS,x.good b→(f x).2.good b):(thenR r f).2.good b:=by
 obtain ⟨c,x⟩:=r
 cases c
 ·exact h
 ·exact hf x h
theorem wholeR_good {b:List UInt8} (w:List UInt8) {x:RS} (h:x.good b):(wholeR w x).2.good b:=by
 have h0:=wholeX_ok h.1 w
 have:(wholeR w x).2.b=x.b∧(wholeR w x).2.length=x.length:=by
  show (wholeX x w).b=_∧(wholeX x w).length=_
  unfold wholeX
  split<;>exact ⟨rfl,rfl⟩
 exact ⟨h0,this.1.trans h.2.1,by rw [this.2];exact h.2.2.1,by rw [this.2];exact h.2.2.2⟩
theorem lineR_good {b:List UInt8} (w:List UInt8) (F:List UInt8→Bool) (G:RS→List UInt8→RS) {x:RS} (h:x.good b) (hG:∀s,(G x s).b=x.b∧(G x s).at_=x.at_)
  (hl:∀s,0≤(G x s).length∧(G x s).length<1000000000):(lineR w F G x).2.good b:=by
 have h0:=lineR_ok h.1 w F G hG
 have:(lineR w F G x).2.b=x.b∧0≤(lineR w F G x).2.length∧(lineR w F G x).2.length<1000000000:=by
  show (lineX x w F (G x)).b=_∧0≤(lineX x w F (G x)).length∧(lineX x w F (G x)).length<_
  unfold lineX
  split
  ·split
   ·exact ⟨(hG _).1,hl _⟩
   ·exact ⟨(hG _).1,hl _⟩
  ·exact ⟨rfl,h.2.2⟩
 exact ⟨h0,this.1.trans h.2.1,this.2⟩
theorem hdsG_good {b:List UInt8}:∀(n:Nat) {y:RS},y.good b→(hdsG n y).2.good b
 | 0,y,h=>h
 | n+1,y,h=>by
  unfold hdsG
  split
  ·exact h
  ·split
   ·exact hdsG_good n ⟨⟨h.1.1,crlN_le h.1.2⟩,h.2⟩
   ·exact h
theorem decV_lt9 {s:List UInt8} (h:numK 9 s=true):decV s<1000000000:=by
 obtain ⟨_,h1,h2⟩:=numK_atoi h
 have:=decV_lt s h2
 have hp:(10:Nat) ^ s.length≤10 ^ 9:=Nat.pow_le_pow_right (by decide) h1
 omega
theorem linesR_good {b:List UInt8} {x:RS} (h:x.good b):(linesR rdV rdOk hdsR x).2.good b:=by
 unfold linesR
 refine thenR_good (wholeR_good _ h) fun x h=>thenR_good (lineR_good _ _ _ h (fun _=>⟨rfl,rfl⟩) (fun _=>h.2.2)) fun x h=>thenR_good ?_ fun x h=>thenR_good (lineR_good _ _ _ h (fun _=>⟨rfl,rfl⟩) (fun _=>h.2.2)) fun x h =>
  thenR_good (lineR_good _ _ _ h (fun _=>⟨rfl,rfl⟩) (fun _=>h.2.2)) fun x h=>thenR_good (lineR_good _ _ _ h (fun _=>⟨rfl,rfl⟩) (fun _=>h.2.2)) fun x h=>thenR_good (hdsG_good _ h) fun x h =>
  thenR_good (lineR_good _ _ _ h (fun s=>by split<;>exact ⟨rfl,rfl⟩) (fun s=>?_)) fun x h=>thenR_good (lineR_good _ _ _ h (fun _=>⟨rfl,rfl⟩) (fun _=>h.2.2)) fun x h=>wholeR_good _ h
 ·unfold ofR
  split
  ·exact lineR_good _ _ _ h (fun _=>⟨rfl,rfl⟩) (fun _=>h.2.2)
  ·exact h
 ·split
  ·rename_i hn
   have:=decV_lt9 hn
   exact ⟨by simp,by simp only;omega⟩
  ·exact h.2.2
def rec0:Rec:=⟨0,[],[],0,[],[],[]⟩
def RS.rec_ (x:RS) (k:List UInt8):Rec:=⟨x.kind,x.id,x.of,x.time,x.key,x.heads,k⟩
def endL:List UInt8:=[13,10,13,10]
def oneR (b:List UInt8) (a:Nat):Rec×Nat×Int:=
 let r:=linesR rdV rdOk hdsR (rs0 b a)
 if r.1=false then (rec0,r.2.at_,10)
 else if b.length<r.2.at_+r.2.length.toNat+4 then (rec0,b.length,10)
 else if (b.drop (r.2.at_+r.2.length.toNat)).take 4≠endL then (rec0,r.2.at_+r.2.length.toNat,10)
 else if digL ((b.drop r.2.at_).take r.2.length.toNat)≠r.2.digest then (rec0,r.2.at_,15)
 else if recF (r.2.rec_ ((b.drop r.2.at_).take r.2.length.toNat))≠0 then (rec0,a,recF (r.2.rec_ ((b.drop r.2.at_).take r.2.length.toNat)))
 else (r.2.rec_ ((b.drop r.2.at_).take r.2.length.toNat),r.2.at_+r.2.length.toNat+4,0)
def oneV (r:Rec×Nat×Int):RV:=.tup [.agg r.1.row,.one (.int .i64 r.2.1),.one (.int .i64 r.2.2)]
theorem leC_hdC (l:List Head):leC (hdC l) (.list 2 (l.map Head.row)):=by
 unfold hdC
 split
 ·rename_i h;subst h;exact .inr ⟨rfl,2,rfl⟩
 ·exact .inl rfl
@[simp] theorem okC_hdC (l:List Head):okC (.list 2 (l.map Head.row)) (hdC l)=True:=by
 unfold hdC
 split
 ·rename_i h;subst h;simp
 ·simp
theorem record_CheckRecordH (x:RS) (k:List UInt8):ACalls Tryz.prog 76 [.agg [.int .i64 x.kind,.str x.id,.str x.of,.int .i64 x.time,.str x.key,hdC x.heads,fileB k]] (.x (.one (.int .i64 (recF (x.rec_ k))))):=
 ACalls.le1 (cs':=(x.rec_ k).row) ⟨.inl rfl,.inl rfl,.inl rfl,.inl rfl,.inl rfl,leC_hdC _,.inl rfl,trivial⟩ (record_CheckRecord _)
theorem record_readOne (b:List UInt8) (a:Nat) (hb:b.length≤16777216) (ha:a≤b.length):ACalls Tryz.prog 48 [.one (fileB b),.one (.int .i64 a)] (oneV (oneR b a)):=by
 have hok0:(rs0 b a).ok0:=⟨⟨hb,ha⟩,rfl⟩
 have k1:=reader_lines rdV rdOk message_ReadDate hdsR (fun x hx=>⟨reader_heads x hx,hdsG_ok _ _ hx.1⟩) (rs0 b a) hok0
 have hg:(linesR rdV rdOk hdsR (rs0 b a)).2.good b:=linesR_good ⟨hok0.1,rfl,by simp [rs0],by simp [rs0]⟩
 obtain ⟨R,eR⟩:∃R,R=oneR b a:=⟨_,rfl⟩
 rw [←eR]
 unfold oneR at eR
 have hc0:(rs0 b a).cells=[fileB b,.int .i64 a,.int .i64 0,.str [],.str [],.int .i64 0,.str [],.nil,.nil,.int .i64 0,.str []]:=by simp [RS.cells,rs0,hdC]
 rw [hc0] at k1
 generalize linesR rdV rdOk hdsR (rs0 b a)=r at *
 obtain ⟨B,x⟩:=r
 dsimp only at *
 obtain ⟨⟨_,hx2⟩,hxb,hl0,hl1⟩:=hg
 obtain ⟨L,eL⟩:∃L:Nat,x.length=(L:Int):=⟨x.length.toNat,by omega⟩
 rw [eL,Int.toNat_natCast] at eR
 have hx2':x.at_≤b.length:=by rw [←hxb];exact hx2
 have hRl:=rows_len b
 have hw1:IntKind.i64.wrap ((x.at_:Int)+(L:Int))=(x.at_:Int)+(L:Int):=wrapS _ (by omega)
 have hw2:IntKind.i64.wrap ((x.at_:Int)+(L:Int)+4)=(x.at_:Int)+(L:Int)+4:=wrapS _ (by omega)
 unfold oneV
 refine ACalls.of mixed (fn:=Tryz.f48) (by kernel_rfl) (by kernel_rfl) rfl (by kernel_rfl) (by simp [Tryz.f48]) (fun hok=>?_)
 simp -implicitDefEqProofs
 refine ACallM.of k1 ?_
 unfold RS.cells
 rw [eL,hxb]
 cases B
 ·rw [if_pos rfl] at eR
  subst eR
  simp -implicitDefEqProofs
  refine AltR.r ⟨[13],by kernel_rfl,?_⟩
  simp -implicitDefEqProofs [rec0,Rec.row]
 rw [if_neg (by decide)] at eR
 by_cases h1:b.length<x.at_+L+4
 ·have h1':((b.length:Int)<(x.at_:Int)+(L:Int)+4)=True:=eq_true (by omega)
  rw [if_pos h1] at eR
  subst eR
  simp -implicitDefEqProofs [hw1,hw2,h1',rec0,Rec.row,hRl]
 rw [if_neg h1] at eR
 have h1':((b.length:Int)<(x.at_:Int)+(L:Int)+4)=False:=eq_false (by omega)
 have hcut:cutAt (byteRows b) ((x.at_:Int)+(L:Int)) ((x.at_:Int)+(L:Int)+4)=byteRows ((b.drop (x.at_+L)).take 4):=by
  have:=cut_rows (b:=b) (a:=x.at_+L) (i:=x.at_+L+4) (by omega)
  rw [show x.at_+L+4-(x.at_+L)=4 by omega] at this
  exact_mod_cast this
 have hcut2:cutAt (byteRows b) (x.at_:Int) ((x.at_:Int)+(L:Int))=byteRows ((b.drop x.at_).take L):=by
  have:=cut_rows (b:=b) (a:=x.at_) (i:=x.at_+L) (by omega)
  rw [show x.at_+L-x.at_=L by omega] at this
  exact_mod_cast this
 have g1:(0≤(x.at_:Int)+(L:Int))=True:=eq_true (by omega)
 have g2:((x.at_:Int)+(L:Int)+4≤(b.length:Int))=True:=eq_true (by omega)
 have g3:((x.at_:Int)+(L:Int)≤(x.at_:Int)+(L:Int)+4)=True:=eq_true (by omega)
 have g4:((x.at_:Int)+(L:Int)≤(b.length:Int))=True:=eq_true (by omega)
 have g5:((x.at_:Int)≤(x.at_:Int)+(L:Int))=True:=eq_true (by omega)
 generalize hT:(b.drop (x.at_+L)).take 4=T at *
 by_cases h2:T=endL
 ·rw [if_neg (by simpa using h2)] at eR
  subst h2
  have k2:=slices_CloneF ((b.drop x.at_).take L) (by simp;omega)
  have k3:=alike_Digest ((b.drop x.at_).take L) (by simp;omega)
  have k4:=record_CheckRecordH x ((b.drop x.at_).take L)
  have hbl:((b.drop x.at_).take L).length=L:=by simp;omega
  generalize (b.drop x.at_).take L=W at *
  unfold endL at hcut
  have hs1:=strB_rows [13,10,13,10]
  have hs2:=okB_rows [13,10,13,10]
  simp -implicitDefEqProofs [hw1,hw2,h1',hRl,hcut,hcut2,g1,g2,g3,g4,g5,hs1,hs2]
  refine ACallK.of k2 ?_
  simp -implicitDefEqProofs
  refine ACallK.of k3 ?_
  by_cases h3:digL W=x.digest
  ·rw [if_neg (by simpa using h3)] at eR
   simp -implicitDefEqProofs [h3]
   refine ACallK.of k4 ?_
   generalize recF (x.rec_ W)=F at *
   by_cases h4:F=0
   ·rw [if_neg (by simpa using h4)] at eR
    subst eR
    subst h4
    simp -implicitDefEqProofs [RS.rec_,Rec.row,hw2]
   ·rw [if_pos h4] at eR
    subst eR
    simp -implicitDefEqProofs [h4,rec0,Rec.row]
  ·rw [if_pos h3] at eR
   subst eR
   simp -implicitDefEqProofs [h3]
   refine AltR.r ⟨[13],by kernel_rfl,?_⟩
   simp -implicitDefEqProofs [rec0,Rec.row]
 ·rw [if_pos h2] at eR
  subst eR
  have hs1:=strB_rows T
  have hs2:=okB_rows T
  unfold endL at h2
  simp -implicitDefEqProofs [hw1,hw2,h1',hRl,hcut,g1,g2,g3,hs1,hs2,h2,rec0,Rec.row]
end Go.Proofs.YtlcmnclbljedfaaGreatDoor
namespace Go.Proofs.YtlcmnclbljedfaaGreatDoor
open Go Go.Ab
variable [Amb]
theorem ltB_irrefl:∀a:List UInt8,ltB a a=false
 | []=>rfl
 | a::x=>by
  have ih:=ltB_irrefl x
  unfold ltB at ih ⊢
  simp [Op.bytesLess,ih]
theorem ltB_trans:∀{a b c:List UInt8},ltB a b=true→ltB b c=true→ltB a c=true
 | a,b,[],_,h2=>by unfold ltB at h2;cases b<;>simp [Op.bytesLess] at h2
 | a,[],c::z,h1,_=>by unfold ltB at h1;cases a<;>simp [Op.bytesLess] at h1
 | [],b::y,c::z,_,_=>by simp [ltB,Op.bytesLess]
 | a::x,b::y,c::z,h1,h2=>by
  have ih:=@ltB_trans x y z
  unfold ltB at h1 h2 ih ⊢
  simp only [Op.bytesLess,Bool.or_eq_true,decide_eq_true_eq,Bool.and_eq_true,beq_iff_eq] at h1 h2 ⊢
  rcases h1 with h1 | ⟨rfl,h1⟩
  ·rcases h2 with h2 | ⟨rfl,h2⟩
   ·exact .inl (UInt8.lt_trans h1 h2)
   ·exact .inl h1
  ·rcases h2 with h2 | ⟨rfl,h2⟩
   ·exact .inl h2
   ·exact .inr ⟨rfl,ih h1 h2⟩
theorem ltB_total:∀{a b:List UInt8},ltB a b=false→ltB b a=false→a=b
 | [],[],_,_=>rfl
 | [],b::y,h,_=>by simp [ltB,Op.bytesLess] at h
 | a::x,[],_,h=>by simp [ltB,Op.bytesLess] at h
 | a::x,b::y,h1,h2=>by
  have ih:=@ltB_total x y
  unfold ltB at h1 h2 ih
  simp only [Op.bytesLess,Bool.or_eq_false_iff,decide_eq_false_iff_not] at h1 h2
  have hab:a=b:=UInt8.le_antisymm (UInt8.not_lt.1 h2.1) (UInt8.not_lt.1 h1.1)
  subst hab
  simp only [BEq.rfl,Bool.true_and] at h1 h2
  rw [ih h1.2 h2.2]
theorem ltB_asymm {a b:List UInt8} (h:ltB a b=true):ltB b a=false:=by
 cases hb:ltB b a with
 | false=>rfl
 | true=>have:=ltB_trans h hb;rw [ltB_irrefl] at this;cases this
theorem cmpB_neg {a b:List UInt8}:Lib.compareBytes a b<0↔ltB a b=true:=by
 rw [cmpB_eq]
 split
 ·simp [*]
 ·rename_i h
  split<;>simp [h]
theorem cmpB_zero {a b:List UInt8}:Lib.compareBytes a b=0↔a=b:=by
 rw [cmpB_eq]
 split
 ·rename_i h
  simp
  rintro rfl
  rw [ltB_irrefl] at h;cases h
 ·split<;>simp [*]
theorem cmpI_neg {a b:Int}:cmpI a b<0↔a<b:=by unfold cmpI;split<;>(try split)<;>omega
theorem cmpI_zero {a b:Int}:cmpI a b=0↔a=b:=by unfold cmpI;split<;>(try split)<;>omega
theorem firstNZ_lt {a b c d:Int}:firstNZ [a,b,c,d]<0↔a<0∨(a=0∧(b<0∨(b=0∧(c<0∨(c=0∧d<0))))):=by
 simp only [firstNZ]
 split<;>(try split)<;>(try split)<;>(try split)<;>omega
def Before (a b:Entry):Prop:=ltB a.key b.key=true∨(a.key=b.key∧(a.time<b.time∨(a.time=b.time∧(ltB a.file b.file=true∨(a.file=b.file∧a.lo<b.lo)))))
theorem cmpE_neg {a b:Entry}:cmpE a b<0↔Before a b:=by
 unfold cmpE cmpL Before
 rw [firstNZ_lt,cmpB_neg,cmpB_zero,cmpI_neg,cmpI_zero,cmpB_neg,cmpB_zero,cmpI_neg]
theorem Before.trans {a b c:Entry} (h1:Before a b) (h2:Before b c):Before a c:=by
 unfold Before at *
 rcases h1 with h1 | ⟨e1,h1⟩
 ·rcases h2 with h2 | ⟨e2,_⟩
  ·exact .inl (ltB_trans h1 h2)
  ·exact .inl (e2▸h1)
 ·rcases h2 with h2 | ⟨e2,h2⟩
  ·exact .inl (e1▸h2)
  ·refine .inr ⟨e1.trans e2,?_⟩
   rcases h1 with h1 | ⟨t1,h1⟩
   ·rcases h2 with h2 | ⟨t2,_⟩<;>exact .inl (by omega)
   ·rcases h2 with h2 | ⟨t2,h2⟩
    ·exact .inl (by omega)
    ·refine .inr ⟨t1.trans t2,?_⟩
     rcases h1 with h1 | ⟨f1,h1⟩
     ·rcases h2 with h2 | ⟨f2,_⟩
      ·exact .inl (ltB_trans h1 h2)
      ·exact .inl (f2▸h1)
     ·rcases h2 with h2 | ⟨f2,h2⟩
      ·exact .inl (f1▸h2)
      ·exact .inr ⟨f1.trans f2,by omega⟩
abbrev Sorted (l:List Entry):Prop:=l.Pairwise Before
theorem pairF_sorted:∀{l:List Entry} {p:Option Entry},pairF p l=0→Sorted l∧(∀q,p=some q→∀x∈l,Before q x)∧∀x∈l,entryF x=0
 | [],p,_=>⟨.nil,fun q _ x hx=>(by cases hx),fun x hx=>(by cases hx)⟩
 | e::r,none,h=>by
  simp only [pairF] at h
  split at h
  ·rename_i he
   obtain ⟨h1,h2,h3⟩:=pairF_sorted h
   exact ⟨.cons (h2 e rfl) h1,fun q hq=>(by cases hq),fun x hx=>by rcases List.mem_cons.1 hx with rfl | hx;exact he;exact h3 x hx⟩
  ·exact absurd h (by assumption)
 | e::r,some q,h=>by
  simp only [pairF] at h
  split at h
  ·rename_i he
   split at h
   ·cases h
   ·split at h
    ·cases h
    ·rename_i h4 h5
     obtain ⟨h1,h2,h3⟩:=pairF_sorted h
     have hqe:Before q e:=cmpE_neg.1 (by omega)
     refine ⟨.cons (h2 e rfl) h1,fun q' hq=>?_,fun x hx=>by rcases List.mem_cons.1 hx with rfl | hx;exact he;exact h3 x hx⟩
     injection hq with hq
     subst hq
     intro x hx
     rcases List.mem_cons.1 hx with rfl | hx
     ·exact hqe
     ·exact hqe.trans (h2 e rfl x hx)
  ·exact absurd h (by assumption)
theorem entriesF_sorted {l:List Entry} (h:entriesF l=0):Sorted l∧∀x∈l,entryF x=0:=by
 unfold entriesF at h
 split at h
 ·cases h
 ·obtain ⟨h1,_,h2⟩:=pairF_sorted h;exact ⟨h1,h2⟩
theorem Before.key {a b:Entry} (h:Before a b):ltB b.key a.key=false:=by
 rcases h with h | ⟨e,_⟩
 ·exact ltB_asymm h
 ·rw [e];exact ltB_irrefl _
set_option maxRecDepth 100000
set_option maxHeartbeats 4000000
abbrev funcV (f:Nat):XV:=.one (.atom (.func (.func f) #[] #[]))
theorem index_of1 (e:Entry) (k:List UInt8):ACalls Tryz.prog 138 [.agg e.row,.one (.str k)] (.x (.one (.int .i64 (Lib.compareBytes e.key k)))):=by
 refine ACalls.of mixed (fn:=Tryz.f138) (by kernel_rfl) (by kernel_rfl) rfl (by kernel_rfl) (by simp [Tryz.f138]) (fun hok=>?_)
 simp -implicitDefEqProofs +contextual [-Bool.and_eq_false_imp,Bool.and_eq_false_iff]
 refine ACallK.of (strings_Compare _ _) ?_
 simp -implicitDefEqProofs +contextual [-Bool.and_eq_false_imp,Bool.and_eq_false_iff]
def lowerB (l:List Entry) (k:List UInt8):Nat:=(l.takeWhile fun e=>ltB e.key k).length
theorem lowerB_eq {l:List Entry} {k:List UInt8} {i:Nat} (hi:i≤l.length) (h1:∀(j:Nat) (x:Entry),j<i→l[j]?=some x→ltB x.key k=true) (h2:∀x,l[i]?=some x→ltB x.key k=false):lowerB l k=i:=by
 induction l generalizing i with
 | nil=>simp at hi;subst hi;rfl
 | cons a r ih =>
  unfold lowerB at ih ⊢
  cases i with
  | zero =>
   have:=h2 a rfl
   rw [List.takeWhile_cons_of_neg (by simp [this])];rfl
  | succ i =>
   have:=h1 0 a (by omega) rfl
   rw [List.takeWhile_cons_of_pos (by exact this),List.length_cons,ih (by simpa using hi) (fun j x hj hx=>h1 (j+1) x (by omega) (by simpa using hx)) (fun x hx=>h2 x (by simpa using hx))]
theorem BinarySearch (l:List Entry) (k:List UInt8) (hs:Sorted l) (hb:l.length≤3000):ACalls Tryz.prog 137 [entries l,.one (.str k),funcV 138] (.tup [.one (.int .i64 (lowerB l k)),.one (.bool (match l[lowerB l k]? with | some x=>decide (x.key=k) | none=>false))]):=by
 refine ACalls.of mixed (fn:=Tryz.f137) (by kernel_rfl) (by kernel_rfl) rfl (by kernel_rfl) (by simp [Tryz.f137]) (fun hok=>?_)
 have hmono:∀i j (hj:j<l.length) (hij:i≤j),ltB l[j].key k=true→ltB l[i].key k=true:=by
  intro i j hj hij h
  by_cases he:i=j
  ·subst he;exact h
  ·have:=(List.pairwise_iff_getElem.1 hs) i j (by omega) hj (by omega)
   cases hb:ltB l[i].key k with
   | true=>rfl
   | false =>
    have h2:=this.key
    cases hc:ltB l[i].key l[j].key with
    | true=>rw [ltB_trans hc h] at hb;cases hb
    | false=>rw [ltB_total hc h2] at hb;rw [hb] at h;cases h
 simp -implicitDefEqProofs +contextual [-Bool.and_eq_false_imp,Bool.and_eq_false_iff]
 refine ALoopS.of (Nat×Nat) (fun i=>[(0,.x (.one (.list 9 (l.map Entry.row)))),(1,.x (.one (.str k))),(2,.x (funcV 138)),(8,.x (.one (.int .i64 l.length))),(9,.x (.one (.int .i64 i.1))),(10,.x (.one (.int .i64 i.2)))])
  (fun i=>i.1≤i.2∧i.2≤l.length∧(∀(j:Nat) (h:j<l.length),j<i.1→ltB l[j].key k=true)∧(∀(j:Nat) (h:j<l.length),i.2≤j→ltB l[j].key k=false)) (fun i=>i.2-i.1) (0,l.length) ⟨Nat.zero_le _,Nat.le_refl _,by intro j h hj;omega,by intro j h hj;simp only at hj;omega⟩ ?_ ?_
 ·simp
 rintro ⟨i,j⟩ ⟨h1,h2,h3,h4⟩
 simp only at h1 h2 h3 h4
 by_cases hlt:i<j
 ·have hm:IntKind.i64.wrap ((IntKind.u64.wrap (IntKind.i64.wrap ((i:Int)+j))).fdiv (2 ^ min 1 IntKind.u64.bits))=(((i+j) / 2:Nat):Int):=by
   rw [wrapS ((i:Int)+j) (by omega)]
   have:IntKind.u64.wrap ((i:Int)+j)=(i:Int)+j:=by simp [IntKind.wrap,IntKind.signed,IntKind.bits];omega
   rw [this]
   have:((i:Int)+j).fdiv (2 ^ min 1 IntKind.u64.bits)=((i+j) / 2:Nat):=by
    show ((i:Int)+j).fdiv 2=_
    rw [Int.fdiv_eq_ediv_of_nonneg _ (by omega)];omega
   rw [this]
   exact wrapS _ (by omega)
  obtain ⟨m,em⟩:∃m,m=(i+j) / 2:=⟨_,rfl⟩
  rw [←em] at hm
  have hml:m<l.length:=by omega
  simp -implicitDefEqProofs +contextual [-Bool.and_eq_false_imp,Bool.and_eq_false_iff,hlt,hm,hml]
  refine ACallK.of (index_of1 _ _) ?_
  have hc:=cmpB_neg (a:=l[m].key) (b:=k)
  simp -implicitDefEqProofs +contextual [-Bool.and_eq_false_imp,Bool.and_eq_false_iff]
  refine ⟨fun h=>?_,fun h=>?_⟩
  ·refine Again.of (m+1,j) ⟨by simp only;omega,h2,fun x hx hxm=>hmono x m hml (by simp only at hxm;omega) (hc.1 h),h4⟩ (by simp only;omega) ?_
   simp
   exact wrapS _ (by omega)
  ·refine Again.of (i,m) ⟨by simp only;omega,by simp only;omega,h3,fun x hx hxm=>?_⟩ (by simp only;omega) ?_
   ·simp only at hxm
    cases hb:ltB l[x].key k with
    | false=>rfl
    | true=>have:=hmono m x hx hxm hb;rw [←hc] at this;omega
   ·simp
 ·have hij:i=j:=by omega
  subst hij
  have hlo:lowerB l k=i:=lowerB_eq h2 (fun x y hx hy=>by
   obtain ⟨hlt',rfl⟩:=List.getElem?_eq_some_iff.1 hy
   exact h3 x hlt' hx) (fun y hy=>by
   obtain ⟨hlt',rfl⟩:=List.getElem?_eq_some_iff.1 hy
   exact h4 i hlt' (Nat.le_refl _))
  rw [hlo]
  by_cases hil:i<l.length
  ·simp -implicitDefEqProofs +contextual [-Bool.and_eq_false_imp,Bool.and_eq_false_iff,hil]
   refine ACallGS.of (fun _=>index_of1 _ _) rfl ?_
   have hc:=cmpB_zero (a:=l[i].key) (b:=k)
   simp -implicitDefEqProofs +contextual [-Bool.and_eq_false_imp,Bool.and_eq_false_iff,hil]
   rw [Bool.eq_iff_iff]
   simp [hc]
  ·simp -implicitDefEqProofs [hil]
   refine ACallGS.of (r:=.x (.one (.int .i64 0))) (fun h=>by cases h) rfl ?_
   simp -implicitDefEqProofs +contextual [-Bool.and_eq_false_imp,Bool.and_eq_false_iff,hil]
def withKey (l:List Entry) (k:List UInt8):List Entry:=l.filter fun e=>decide (e.key=k)
theorem takeWhile_eq {α:Type} (p:α→Bool):∀(l:List α) (i:Nat),i≤l.length→(∀(j:Nat) (x:α),j<i→l[j]?=some x→p x=true)→(∀x,l[i]?=some x→p x=false)→l.takeWhile p=l.take i
 | [],i,hi,_,_=>by simp
 | a::r,0,_,_,h2=>by rw [List.takeWhile_cons_of_neg (by simp [h2 a rfl])];rfl
 | a::r,i+1,hi,h1,h2=>by
  rw [List.takeWhile_cons_of_pos (h1 0 a (by omega) rfl),takeWhile_eq p r i (by simpa using hi) (fun j x hj hx=>h1 (j+1) x (by omega) (by simpa using hx)) (fun x hx=>h2 x (by simpa using hx))]
  rfl
theorem withKey_sorted {k:List UInt8}:∀{l:List Entry},Sorted l→withKey l k=(l.drop (lowerB l k)).takeWhile fun e=>decide (e.key=k)
 | [],_=>rfl
 | a::r,h=>by
  have hr:=List.pairwise_cons.1 h
  unfold withKey lowerB
  by_cases hlt:ltB a.key k=true
  ·have hne:¬a.key=k:=by rintro rfl;rw [ltB_irrefl] at hlt;cases hlt
   rw [List.takeWhile_cons_of_pos (by exact hlt),List.length_cons,List.drop_succ_cons,List.filter_cons_of_neg (by simp [hne])]
   exact withKey_sorted hr.2
  ·rw [List.takeWhile_cons_of_neg (by exact hlt),List.length_nil,List.drop_zero]
   by_cases he:a.key=k
   ·rw [List.filter_cons_of_pos (by simp [he]),List.takeWhile_cons_of_pos (by simp [he])]
    congr 1
    have:=withKey_sorted (k:=k) hr.2
    unfold withKey at this
    rw [this]
    have h0:lowerB r k=0:=lowerB_eq (Nat.zero_le _) (fun j x hj=>by omega) (fun x hx=>by
     have:=(hr.1 x (List.mem_of_getElem? hx)).key
     rw [he] at this;exact this)
    rw [h0,List.drop_zero]
   ·rw [List.filter_cons_of_neg (by simp [he]),List.takeWhile_cons_of_neg (by simp [he])]
    rw [List.filter_eq_nil_iff]
    intro x hx
    simp only [decide_eq_true_eq]
    rintro rfl
    have h1:=(hr.1 x hx).key
    exact he (ltB_total (by simpa using hlt) h1)
theorem index_of' (l:List Entry) (k:List UInt8) (hs:Sorted l) (hb:l.length≤3000):ACalls Tryz.prog 81 [entries l,.one (.str k)] (.x (entries (withKey l k))):=by
 refine ACalls.of mixed (fn:=Tryz.f81) (by kernel_rfl) (by kernel_rfl) rfl (by kernel_rfl) (by simp [Tryz.f81]) (fun hok=>?_)
 simp -implicitDefEqProofs +contextual [-Bool.and_eq_false_imp,Bool.and_eq_false_iff]
 refine ACallK.of (BinarySearch l k hs hb) ?_
 have hlo:lowerB l k≤l.length:=by
  unfold lowerB
  exact (List.takeWhile_sublist _).length_le
 rw [withKey_sorted hs]
 generalize lowerB l k=lo at hlo
 simp -implicitDefEqProofs +contextual [-Bool.and_eq_false_imp,Bool.and_eq_false_iff]
 refine ALoopS.of Nat (fun i=>[(0,.x (.one (.list 9 (l.map Entry.row)))),(1,.x (.one (.str k))),(5,.x (.one (.int .i64 lo))),(7,.x (.one (.int .i64 i)))]) (fun i=>lo≤i∧i≤l.length∧∀(j:Nat) (x:Entry),lo≤j→j<i→l[j]?=some x→x.key=k) (fun i=>l.length-i) lo ⟨Nat.le_refl _,hlo,fun j x h1 h2=>by omega⟩ ?_ ?_
 ·simp
 rintro i ⟨h1,h2,h3⟩
 have hend:(∀x,l[i]?=some x→¬x.key=k)→(l.drop lo).takeWhile (fun e=>decide (e.key=k))=(l.take i).drop lo:=by
  intro hx
  rw [takeWhile_eq _ (l.drop lo) (i-lo) (by simp;omega) (fun j x hj hjx=>by
   rw [List.getElem?_drop] at hjx
   simp [h3 (lo+j) x (by omega) (by omega) hjx]) (fun x hjx=>by
   rw [List.getElem?_drop,show lo+(i-lo)=i by omega] at hjx
   simp [hx x hjx])]
  rw [List.drop_take]
 by_cases hlt:i<l.length
 ·simp -implicitDefEqProofs +contextual [-Bool.and_eq_false_imp,Bool.and_eq_false_iff,hlt]
  refine ⟨fun he=>Again.of (i+1) ⟨by omega,hlt,fun j x hj1 hj2 hjx=>?_⟩ (by omega) ?_,fun hne=>?_⟩
  ·by_cases hji:j=i
   ·subst hji
    rw [List.getElem?_eq_getElem hlt] at hjx
    injection hjx with hjx
    rw [←hjx];exact he
   ·exact h3 j x hj1 (by omega) hjx
  ·simp
   exact wrapS _ (by omega)
  ·rw [hend (fun x hx=>by rw [List.getElem?_eq_getElem hlt] at hx;injection hx with hx;rw [←hx];exact hne)]
   refine ⟨by omega,?_⟩
   simp [cutAt]
 ·simp -implicitDefEqProofs [hlt]
  rw [hend (fun x hx=>by rw [List.getElem?_eq_none (by omega)] at hx;cases hx)]
  refine ⟨by omega,?_⟩
  simp [cutAt]
structure Life where
 key:List UInt8
 many:Int
 other:Int
 first:Int
 last:Int
 deriving DecidableEq
def Life.row (x:Life):List CV:=[.str x.key,.int .i64 x.many,.int .i64 x.other,.int .i64 x.first,.int .i64 x.last]
abbrev lives (l:List Life):XV:=.one (.list 5 (l.map Life.row))
def nubA (acc:List (List UInt8)) (d:List UInt8):List (List UInt8):=if d∈acc then acc else acc++[d]
def nubs (ds:List (List UInt8)):List (List UInt8):=ds.foldl nubA []
theorem nubs_snoc (ds:List (List UInt8)) (d:List UInt8):nubs (ds++[d])=nubA (nubs ds) d:=by simp [nubs,List.foldl_append]
def kvs (ks:List (List UInt8)):List (XV×XV):=ks.map fun d=>(.one (.str d),.one (.bool true))
theorem findK_kvs (d:List UInt8):∀(ks:List (List UInt8)) (i:Nat),(d∉ks→findK .s (.one (.str d)) (kvs ks) i=some none)∧(d∈ks→∃j,findK .s (.one (.str d)) (kvs ks) i=some (some (i+j))∧ks[j]?=some d)
 | [],i=>⟨fun _=>rfl,fun h=>by cases h⟩
 | k::r,i=>by
  have ih:=findK_kvs d r (i+1)
  simp only [kvs,List.map_cons,findK,keyEq]
  by_cases h:d=k
  ·subst h
   simp only [BEq.rfl]
   exact ⟨fun h=>absurd (List.mem_cons_self) h,fun _=>⟨0,rfl,rfl⟩⟩
  ·have hb:(d==k)=false:=by simpa using h
   rw [hb]
   refine ⟨fun hn=>ih.1 (fun hm=>hn (List.mem_cons_of_mem _ hm)),fun hm=>?_⟩
   obtain ⟨j,h1,h2⟩:=ih.2 ((List.mem_cons.1 hm).resolve_left h)
   exact ⟨j+1,by rw [show i+(j+1)=i+1+j by omega];exact h1,h2⟩
def digests (l:List Entry):List (List UInt8):=l.map Entry.digest
def lifeOf (l:List Entry) (e:Entry):Life:=
 ⟨e.key,(withKey l e.key).length,(nubs (digests (withKey l e.key))).length,e.time,(((withKey l e.key)[(withKey l e.key).length-1]?).map Entry.time).getD 0⟩
def livesN:Nat→List Entry→List Life
 | 0,_=>[]
 | _+1,[]=>[]
 | n+1,e::r=>lifeOf (e::r) e::livesN n ((e::r).drop (withKey (e::r) e.key).length)
theorem withKey_pos (e:Entry) (r:List Entry):1≤(withKey (e::r) e.key).length:=by
 unfold withKey
 rw [List.filter_cons_of_pos (by simp)]
 simp
theorem livesN_fuel:∀(n m:Nat) (l:List Entry),l.length≤n→l.length≤m→livesN n l=livesN m l
 | 0,0,_,_,_=>rfl
 | 0,m+1,l,h,_=>by have:l=[]:=List.eq_nil_of_length_eq_zero (by omega);subst this;rfl
 | n+1,0,l,_,h=>by have:l=[]:=List.eq_nil_of_length_eq_zero (by omega);subst this;rfl
 | n+1,m+1,[],_,_=>rfl
 | n+1,m+1,e::r,h1,h2=>by
  have hp:=withKey_pos e r
  simp only [livesN]
  rw [livesN_fuel n m _ (by simp only [List.length_drop,List.length_cons] at *;omega) (by simp only [List.length_drop,List.length_cons] at *;omega)]
def livesL (l:List Entry):List Life:=livesN l.length l
theorem livesL_cons (e:Entry) (r:List Entry):livesL (e::r)=lifeOf (e::r) e::livesL ((e::r).drop (withKey (e::r) e.key).length):=by
 have hp:=withKey_pos e r
 unfold livesL
 rw [List.length_cons,livesN,livesN_fuel r.length _ _ (by simp only [List.length_drop,List.length_cons];omega) (Nat.le_refl _)]
theorem index_Lives (l:List Entry):ACalls Tryz.prog 39 [entries l] (.tup [lives (if entriesF l=0 then livesL l else []),.one (.int .i64 (entriesF l))]):=by
 refine ACalls.of mixed (fn:=Tryz.f39) (by kernel_rfl) (by kernel_rfl) rfl (by kernel_rfl) (by simp [Tryz.f39]) (fun hok=>?_)
 simp -implicitDefEqProofs +contextual [-Bool.and_eq_false_imp,Bool.and_eq_false_iff]
 refine ACallK.of (index_checkEntries l) ?_
 simp -implicitDefEqProofs +contextual [-Bool.and_eq_false_imp,Bool.and_eq_false_iff]
 intro h
 rw [if_pos h,h]
 have hs:=entriesF_short h
 obtain ⟨hso,_⟩:=entriesF_sorted h
 refine ALoopS.of (List Entry×List Life) (fun x=>[(0,.x (entries x.1)),(5,.own 93 5 (x.2.map Life.row))]) (fun x=>Sorted x.1∧livesL l=x.2++livesL x.1∧x.2.length+x.1.length≤3000) (fun x=>x.1.length) (l,[]) ⟨hso,rfl,by simp;omega⟩ ?_ ?_
 ·simp
 rintro ⟨rest,out⟩ ⟨h1,h2,h3⟩
 simp only at h1 h2 h3
 cases rest with
 | nil =>
  simp -implicitDefEqProofs +contextual [-Bool.and_eq_false_imp,Bool.and_eq_false_iff]
  rw [h2,show livesL []=[] from rfl,List.append_nil]
 | cons e r =>
  simp -implicitDefEqProofs +contextual [-Bool.and_eq_false_imp,Bool.and_eq_false_iff]
  refine ACallK.of (index_of' (e::r) e.key h1 (by omega)) ?_
  have hp:=withKey_pos e r
  have hle:(withKey (e::r) e.key).length≤(e::r).length:=List.length_filter_le _ _
  have hcons:=livesL_cons e r
  obtain ⟨m,em⟩:∃m,m=withKey (e::r) e.key:=⟨_,rfl⟩
  have hlife:lifeOf (e::r) e=⟨e.key,m.length,(nubs (digests m)).length,e.time,((m[m.length-1]?).map Entry.time).getD 0⟩:=by rw [em];rfl
  have hm0:m=e::withKey r e.key:=by
   rw [em];unfold withKey
   rw [List.filter_cons_of_pos (by simp)]
  rw [←em] at hp hle hcons ⊢
  rw [hlife] at hcons
  simp -implicitDefEqProofs +contextual [-Bool.and_eq_false_imp,Bool.and_eq_false_iff]
  refine ALoopS.of Nat (fun i=>[(0,.x (entries (e::r))),(5,.own 93 5 (out.map Life.row)),(6,.x (entries m)),(7,.mp (nubs ((digests m).take i)).length (List.range (nubs ((digests m).take i)).length) (kvs (nubs ((digests m).take i)))),(25,.x (entries m)),(26,.x (.one (.int .i64 m.length))),(27,.x (.one (.int .i64 i)))]) (fun i=>i≤m.length) (fun i=>m.length-i) 0 (Nat.zero_le _) ?_ ?_
  ·simp [nubs,kvs]
  intro i hi
  by_cases hlt:i<m.length
  ·obtain ⟨K,eK⟩:∃K,K=nubs ((digests m).take i):=⟨_,rfl⟩
   have hst:nubs ((digests m).take (i+1))=nubA K m[i].digest:=by
    rw [eK,←nubs_snoc]
    congr 1
    rw [List.take_add_one]
    congr 1
    unfold digests
    rw [List.getElem?_map,List.getElem?_eq_getElem hlt];rfl
   rw [←eK]
   obtain ⟨f1,f2⟩:=findK_kvs m[i].digest K 0
   by_cases hin:m[i].digest∈K
   ·obtain ⟨j,hf,hj⟩:=f2 hin
    rw [Nat.zero_add] at hf
    have hset:(kvs K).set j (.one (.str m[i].digest),.one (.bool true))=kvs K:=by
     apply List.ext_getElem?
     intro x
     rw [List.getElem?_set]
     split
     ·rename_i hx
      subst hx
      have hjl:=(List.getElem?_eq_some_iff.1 hj).1
      have:=(List.getElem?_eq_some_iff.1 hj).2
      simp [kvs,hj,hjl,this]
     ·rfl
    have hn:nubA K m[i].digest=K:=by unfold nubA;rw [if_pos hin]
    simp -implicitDefEqProofs [hlt,hf,hset]
    refine Again.of (i+1) hlt (by omega) ?_
    rw [hst,hn]
    simp
    exact wrapS _ (by omega)
   ·have hf:=f1 hin
    have hn:nubA K m[i].digest=K++[m[i].digest]:=by unfold nubA;rw [if_neg hin]
    simp -implicitDefEqProofs +contextual [-Bool.and_eq_false_imp,Bool.and_eq_false_iff,hlt,hf]
    refine Again.of (i+1) hlt (by omega) ?_
    rw [hst,hn]
    simp [kvs,List.range_succ]
    exact wrapS _ (by omega)
  ·rw [show (digests m).take i=digests m from List.take_of_length_le (by simp [digests];omega)]
   have hw:IntKind.i64.wrap ((m.length:Int)-1)=((m.length-1:Nat):Int):=by rw [wrapS _ (by omega)];omega
   have hl1:m.length-1<m.length:=by omega
   have h0:0<m.length:=by omega
   simp -implicitDefEqProofs [hlt,hw,hl1,h0]
   have hm00:m[0]=e:=by simp [hm0]
   simp only [List.length_cons] at hle h3
   refine ⟨⟨by omega,by unfold maxLen;omega⟩,by omega,Again.of ((e::r).drop m.length,out++[⟨e.key,m.length,(nubs (digests m)).length,e.time,((m[m.length-1]?).map Entry.time).getD 0⟩]) ⟨h1.drop,?_,?_⟩ ?_ ?_⟩
   ·simp only
    rw [h2,hcons,List.append_assoc];rfl
   ·simp only [List.length_append,List.length_cons,List.length_nil,List.length_drop];omega
   ·simp only [List.length_drop,List.length_cons];omega
   ·simp [hm00,hl1,Life.row,kvs]
    have:=cutAt_full (List.map Entry.row (e::r)) (m.length:Int)
    simpa using this
def simple:Entry:=⟨[107],7,0,[],[48,49,50,51,52,53,54,55,56,57,97,98,99,100,101,102],[102],0,0,false⟩
theorem simple_ok:entriesF [simple]=0:=by decide +kernel
theorem simple_life:livesL [simple]=[⟨[107],1,1,7,7⟩]:=by decide +kernel
theorem law8_awake:ACalls Tryz.prog 18 [] (.x (.one (.bool true))):=by
 refine ACalls.of mixed (fn:=Tryz.f18) (by kernel_rfl) (by kernel_rfl) rfl (by kernel_rfl) (by simp [Tryz.f18]) (fun hok=>?_)
 simp -implicitDefEqProofs +contextual [-Bool.and_eq_false_imp,Bool.and_eq_false_iff]
 refine ACallK.of (index_Lives [simple]) ?_
 rw [if_pos simple_ok,simple_ok,simple_life]
 simp -implicitDefEqProofs +contextual [-Bool.and_eq_false_imp,Bool.and_eq_false_iff,Life.row]
end Go.Proofs.YtlcmnclbljedfaaGreatDoor
namespace Go.Proofs.YtlcmnclbljedfaaGreatDoor
open Go Go.Ab
variable [Amb] [HasInt 0] [HasPow10 Tryz.prog]
set_option maxRecDepth 100000
set_option maxHeartbeats 4000000
@[simp] theorem rav_ownR (e z:Nat) (xs:List (List CV)):RV.av (.own e z xs)=.own e z xs:=rfl
theorem headsG_ok:∀{l:List Head},headsG l=0→∀h∈l,tokB h.name=true∧valB h.value=true
 | [],_,h,hm=>by cases hm
 | x::r,e,h,hm=>by
  have hx:headF x=if tokB x.name=false then 5 else if valB x.value=false then 3 else 0:=rfl
  unfold headsG at e
  have e1:headF x=0:=by
   by_cases h0:headF x=0
   ·exact h0
   ·rw [if_neg h0] at e;exact absurd e h0
  rw [if_pos e1] at e
  rcases List.mem_cons.1 hm with rfl | hm
  ·rw [e1] at hx
   cases h1:tokB h.name<;>cases h2:valB h.value<;>rw [h1,h2] at hx<;>first | exact ⟨rfl,rfl⟩ | (simp at hx)
  ·exact headsG_ok e h hm
theorem headsF_ok {l:List Head} (h:headsF l=0):∀x∈l,x.name.length≤40∧x.value.length≤1000:=by
 intro x hx
 unfold headsF at h
 split at h
 ·cases h
 ·obtain ⟨h1,h2⟩:=headsG_ok h x hx
  unfold tokB inB at h1
  unfold valB at h2
  simp only [Bool.and_eq_true,decide_eq_true_eq] at h1 h2
  exact ⟨by omega,h2.1⟩
theorem headsW_le:∀{l:List Head},(∀x∈l,x.name.length≤40∧x.value.length≤1000)→(headsW l).length≤1044*l.length
 | [],_=>by simp [headsW]
 | h::r,hx=>by
  have h1:=hx h (by simp)
  have ih:=headsW_le (l:=r) (fun x hm=>hx x (by simp [hm]))
  unfold headsW at ih ⊢
  simp only [List.flatMap_cons,List.length_append,wline_len,List.length_cons]
  omega
structure Rec.Right (r:Rec):Prop where
 kind1:1≤r.kind
 kind5:r.kind≤5
 id:nameB r.id=true
 of:r.of=[]∨nameB r.of=true
 moment:momentB r.time=true
 key:keyB r.key=true
 heads30:r.heads.length≤30
 heads:headsF r.heads=0
 own:r.heads.any ownB=false
 block:r.block.length≤200000
theorem recF_right {r:Rec} (h:recF r=0):r.Right:=by
 unfold recF at h
 split at h
 ·cases h
 rename_i h1
 split at h
 ·cases h
 rename_i h2
 split at h
 ·cases h
 rename_i h3
 split at h
 ·cases h
 rename_i h4
 split at h
 ·cases h
 rename_i h5
 split at h
 ·cases h
 rename_i h6
 split at h
 ·rename_i h7;exact absurd h h7
 rename_i h7
 split at h
 ·cases h
 rename_i h8
 split at h
 ·cases h
 rename_i h9
 refine ⟨by omega,by omega,?_,?_,by simpa using h4,by simpa using h5,by omega,by simpa using h7,by simpa using h8,by omega⟩
 ·cases e:nameB r.id with
  | true=>rfl
  | false=>exact absurd (.inl e) h2
 ·by_cases e:r.of=[]
  ·exact .inl e
  ·right
   cases e2:nameB r.of with
   | true=>rfl
   | false=>exact absurd (.inr ⟨e,e2⟩) h2
theorem nameB_len {s:List UInt8} (h:nameB s=true):1≤s.length∧s.length≤40:=by
 unfold nameB inB at h
 simp only [Bool.and_eq_true,decide_eq_true_eq] at h
 omega
theorem keyB_len {s:List UInt8} (h:keyB s=true):1≤s.length∧s.length≤2000:=by
 unfold keyB wordB inB at h
 simp only [Bool.and_eq_true,decide_eq_true_eq] at h
 omega
theorem kindL_len (k:Int):(kindL k).length≤7:=by
 unfold kindL
 rw [List.getD_eq_getElem?_getD]
 generalize (k-1).toNat=n
 match n with
 | 0=>decide
 | 1=>decide
 | 2=>decide
 | 3=>decide
 | 4=>decide
 | n+5=>simp [kindsL]
theorem recL_len {r:Rec} (h:r.Right):(recL r).length≤300000:=by
 have h1:=(nameB_len h.id).2
 have h2:r.of.length≤40:=by
  rcases h.of with e | e
  ·rw [e];simp
  ·exact (nameB_len e).2
 have h3:=kindL_len r.kind
 have h4:=(dateL_cut r.time h.moment).1
 have h5:=(keyB_len h.key).2
 have h6:=headsW_le (headsF_ok h.heads)
 have h7:=h.heads30
 have hb:=h.block
 have h8:(itoaL r.block.length).length≤21:=itoaL_len (by unfold I64;omega)
 have h9:=digL_len r.block
 have w2:(wr2 r).length≤(wr1 r).length+(wline [111,102] r.of).length:=by unfold wr2;split<;>simp
 unfold recL wr8 wr7 wr6 wr5 wr4 wr3
 unfold wr1 at w2
 simp only [List.length_append,wline_len,List.length_cons,List.length_nil] at w2 ⊢
 have:keptL.length=8:=rfl
 omega
theorem right_fits {r:Rec} (h:r.Right):r.fits:=⟨h.kind1,h.kind5,h.moment,by have:=recL_len h;omega⟩
def recsV (l:List Rec):XV:=.one (.list 7 (l.map Rec.row))
def walkF:List (List UInt8)→Nat→List Rec→Int
 | _,n,[]=>if 500000<n then 2 else 0
 | seen,n,r::l=>if recF r≠0 then recF r else if r.id∈seen then 7 else walkF (seen++[r.id]) (n+(recL r).length) l
def fileF (l:List Rec):Int:=if 1000<l.length then 2 else walkF [] 0 l
def sumL (l:List Rec):Nat:=(l.map fun r=>(recL r).length).sum
theorem sumL_le:∀{l:List Rec},(∀r∈l,recF r=0)→sumL l≤300000*l.length
 | [],_=>by simp [sumL]
 | r::l,h=>by
  have h1:=recL_len (recF_right (h r (by simp)))
  have ih:=sumL_le (l:=l) (fun x hx=>h x (by simp [hx]))
  unfold sumL at ih ⊢
  simp only [List.map_cons,List.sum_cons,List.length_cons]
  omega
theorem sumL_snoc (l:List Rec) (r:Rec):sumL (l++[r])=sumL l+(recL r).length:=by simp [sumL]
theorem record_CheckFile (l:List Rec):ACalls Tryz.prog 37 [recsV l] (.x (.one (.int .i64 (fileF l)))):=by
 obtain ⟨F,eF⟩:∃F,F=fileF l:=⟨_,rfl⟩
 rw [←eF]
 unfold fileF at eF
 unfold recsV
 refine ACalls.of mixed (fn:=Tryz.f37) (by kernel_rfl) (by kernel_rfl) rfl (by kernel_rfl) (by simp [Tryz.f37]) (fun hok=>?_)
 by_cases h1:1000<l.length
 ·rw [if_pos h1] at eF
  subst eF
  have h1':(1000<(l.length:Int))=True:=eq_true (by omega)
  simp -implicitDefEqProofs [h1']
 rw [if_neg h1] at eF
 have h1':(1000<(l.length:Int))=False:=eq_false (by omega)
 simp -implicitDefEqProofs [h1']
 refine ALoopS.of Nat (fun i=>[(3,.mp i (List.range i) (kvs ((l.take i).map Rec.id))),(4,.x (.one (.int .i64 (sumL (l.take i))))),(12,.x (.one (.list 7 (l.map Rec.row)))),(13,.x (.one (.int .i64 l.length))),(14,.x (.one (.int .i64 i)))])
  (fun i=>i≤l.length∧F=walkF ((l.take i).map Rec.id) (sumL (l.take i)) (l.drop i)∧∀r∈l.take i,recF r=0) (fun i=>l.length-i) 0 ⟨Nat.zero_le _,by simpa [sumL] using eF,by simp⟩ ?_ ?_
 ·simp [kvs,sumL]
 rintro i ⟨hi,hF,hok0⟩
 have hsum:=sumL_le hok0
 have htl:(l.take i).length≤1000:=by simp;omega
 by_cases hlt:i<l.length
 ·have hlt':((i:Int)<(l.length:Int))=True:=eq_true (by omega)
  have hwr:IntKind.i64.wrap ((i:Int)+1)=(i:Int)+1:=wrapS _ (by omega)
  have hrow:l[i].row=[.int .i64 l[i].kind,.str l[i].id,.str l[i].of,.int .i64 l[i].time,.str l[i].key,.list 2 (l[i].heads.map Head.row),fileB l[i].block]:=rfl
  have k1:=record_CheckRecord l[i]
  rw [List.drop_eq_getElem_cons hlt] at hF
  unfold walkF at hF
  have htake:l.take (i+1)=l.take i++[l[i]]:=List.take_succ_eq_append_getElem hlt
  obtain ⟨f1,f2⟩:=findK_kvs l[i].id ((l.take i).map Rec.id) 0
  rw [hrow] at k1
  simp -implicitDefEqProofs [hlt,hlt',hrow]
  refine ACallK.of k1 ?_
  by_cases hr:recF l[i]=0
  ·rw [if_neg (by simpa using hr)] at hF
   have hfit:=right_fits (recF_right hr)
   have hlen:=recL_len (recF_right hr)
   have k2:=record_write l[i] hfit
   rw [hrow] at k2
   rw [hr]
   have hRl:=rows_len (recL l[i])
   have hws:IntKind.i64.wrap ((sumL (l.take i):Int)+((recL l[i]).length:Int))=((sumL (l.take i):Int)+((recL l[i]).length:Int)):=wrapS _ (by omega)
   by_cases hin:l[i].id∈(l.take i).map Rec.id
   ·obtain ⟨j,hf,hj⟩:=f2 hin
    rw [Nat.zero_add] at hf
    rw [if_pos hin] at hF
    subst hF
    have hjv:(kvs ((l.take i).map Rec.id))[j]?=some (.one (.str l[i].id),.one (.bool true)):=by
     unfold kvs;rw [List.getElem?_map,hj];rfl
    simp only [List.map_take] at hf hjv
    simp -implicitDefEqProofs [hf,hjv]
   ·have hf:=f1 hin
    rw [if_neg hin] at hF
    simp only [List.map_take] at hf
    simp -implicitDefEqProofs [hf]
    refine ACallK.of k2 ?_
    simp -implicitDefEqProofs [hRl]
    refine Again.of (i+1) ⟨hlt,?_,fun r hm=>?_⟩ (by omega) ?_
    ·rw [htake,sumL_snoc,List.map_append];exact hF
    ·rw [htake] at hm
     rcases List.mem_append.1 hm with h | h
     ·exact hok0 r h
     ·obtain rfl:r=l[i]:=by simpa using h
      exact hr
    ·rw [htake,sumL_snoc]
     simp [hwr,hws,kvs,List.range_succ]
     rw [List.take_succ_eq_append_getElem (by simpa using hlt)];simp
  ·rw [if_pos hr] at hF
   subst hF
   simp -implicitDefEqProofs [hr]
 ·have hi':i=l.length:=by omega
  subst hi'
  have hlt':((l.length:Int)<(l.length:Int))=False:=eq_false (by omega)
  rw [List.drop_length] at hF
  unfold walkF at hF
  generalize sumL (l.take l.length)=n at *
  by_cases h5:500000<n
  ·rw [if_pos h5] at hF
   subst hF
   have h5':(500000<(n:Int))=True:=eq_true (by omega)
   simp -implicitDefEqProofs [h5']
  ·rw [if_neg h5] at hF
   subst hF
   have h5':(500000<(n:Int))=False:=eq_false (by omega)
   simp -implicitDefEqProofs [h5']
theorem crlN_ge (b:List UInt8) (a:Nat):a≤crlN b a:=by
 unfold crlN
 split<;>omega
theorem thenR_inv {P:RS→Prop} {r:Bool×RS} {f:RS→Bool×RS} (h:P r.2) (hf:∀x:RS,P x→P (f x).2):P (thenR r f).2:=by
 obtain ⟨c,x⟩:=r
 cases c
 ·exact h
 ·exact hf x h
def RS.from_ (a:Nat) (x:RS):Prop:=a≤x.at_
theorem wholeR_from {a:Nat} (w:List UInt8) {x:RS} (h:x.from_ a):(wholeR w x).2.from_ a:=by
 show a≤(wholeX x w).at_
 unfold wholeX
 split
 ·exact Nat.le_trans h (crlN_ge _ _)
 ·exact h
theorem lineR_from {a:Nat} (w:List UInt8) (F:List UInt8→Bool) (G:RS→List UInt8→RS) {x:RS} (h:x.from_ a) (hG:∀s,(G x s).at_=x.at_):(lineR w F G x).2.from_ a:=by
 show a≤(lineX x w F (G x)).at_
 unfold lineX
 split
 ·split
  ·exact Nat.le_trans h (crlN_ge _ _)
  ·rw [hG];exact h
 ·exact h
theorem hdsG_from {a:Nat}:∀(n:Nat) {y:RS},y.from_ a→(hdsG n y).2.from_ a
 | 0,y,h=>h
 | n+1,y,h=>by
  unfold hdsG
  split
  ·exact h
  ·split
   ·exact hdsG_from n (y:={ y with heads:=_,at_:=_ }) (Nat.le_trans h (crlN_ge _ _))
   ·exact h
theorem linesR_from {a:Nat} {x:RS} (h:x.from_ a):(linesR rdV rdOk hdsR x).2.from_ a:=by
 unfold linesR
 refine thenR_inv (wholeR_from _ h) fun x h=>thenR_inv (lineR_from _ _ _ h fun _=>rfl) fun x h=>thenR_inv ?_ fun x h=>thenR_inv (lineR_from _ _ _ h fun _=>rfl) fun x h =>
  thenR_inv (lineR_from _ _ _ h fun _=>rfl) fun x h=>thenR_inv (lineR_from _ _ _ h fun _=>rfl) fun x h=>thenR_inv (hdsG_from _ h) fun x h =>
  thenR_inv (lineR_from _ _ _ h fun s=>by split<;>rfl) fun x h=>thenR_inv (lineR_from _ _ _ h fun _=>rfl) fun x h=>wholeR_from _ h
 unfold ofR
 split
 ·exact lineR_from _ _ _ h fun _=>rfl
 ·exact h
theorem rs0_good {b:List UInt8} {a:Nat} (hb:b.length≤16777216) (ha:a≤b.length):(rs0 b a).good b:=⟨⟨hb,ha⟩,rfl,by simp [rs0],by simp [rs0]⟩
theorem oneR_next {b:List UInt8} {a:Nat} (hb:b.length≤16777216) (ha:a≤b.length) (h:(oneR b a).2.2=0):a<(oneR b a).2.1∧(oneR b a).2.1≤b.length∧recF (oneR b a).1=0:=by
 have hg:=linesR_good (rs0_good hb ha)
 have hf:=linesR_from (a:=a) (x:=rs0 b a) (Nat.le_refl a)
 unfold oneR at h ⊢
 generalize linesR rdV rdOk hdsR (rs0 b a)=r at *
 dsimp only at h ⊢
 unfold RS.from_ at hf
 by_cases h1:r.1=false
 ·rw [if_pos h1] at h;cases h
 rw [if_neg h1] at h ⊢
 by_cases h2:b.length<r.2.at_+r.2.length.toNat+4
 ·rw [if_pos h2] at h;cases h
 rw [if_neg h2] at h ⊢
 by_cases h3:(b.drop (r.2.at_+r.2.length.toNat)).take 4≠endL
 ·rw [if_pos h3] at h;cases h
 rw [if_neg h3] at h ⊢
 by_cases h4:digL ((b.drop r.2.at_).take r.2.length.toNat)≠r.2.digest
 ·rw [if_pos h4] at h;cases h
 rw [if_neg h4] at h ⊢
 by_cases h5:recF (r.2.rec_ ((b.drop r.2.at_).take r.2.length.toNat))≠0
 ·rw [if_pos h5] at h;exact absurd h h5
 rw [if_neg h5]
 exact ⟨by simp only;omega,by simp only;omega,by simpa using h5⟩
structure Mark where
 id:List UInt8
 lo:Nat
 hi:Nat
def Mark.row (m:Mark):List CV:=[.str m.id,.int .i64 m.lo,.int .i64 m.hi]
def marksV (l:List Mark):XV:=.one (.list 3 (l.map Mark.row))
def goF:Nat→List UInt8→Nat→List Rec→List Mark→List Rec×List Mark×Nat×Int
 | 0,_,_,_,_=>([],[],0,0)
 | n+1,b,a,L,M =>
  if a<b.length then
   if (oneR b a).2.2≠0 then ([],[],(oneR b a).2.1,(oneR b a).2.2)
   else goF n b (oneR b a).2.1 (L++[(oneR b a).1]) (M++[⟨(oneR b a).1.id,a,(oneR b a).2.1⟩])
  else if fileF L≠0 then ([],[],0,fileF L) else (L,M,0,0)
def goR (b:List UInt8) (a:Nat) (L:List Rec) (M:List Mark):List Rec×List Mark×Nat×Int:=goF (b.length+1) b a L M
def readF (b:List UInt8):List Rec×List Mark×Nat×Int:=if 500000<b.length then ([],[],0,2) else goR b 0 [] []
theorem goF_irrel {b:List UInt8} (hb:b.length≤16777216):∀(n m a:Nat) (L:List Rec) (M:List Mark),a≤b.length→b.length<n+a→b.length<m+a→goF n b a L M=goF m b a L M
 | 0,_,a,_,_,h,h1,_=>by omega
 | _+1,0,a,_,_,h,_,h2=>by omega
 | n+1,m+1,a,L,M,h,h1,h2=>by
  unfold goF
  by_cases hlt:a<b.length
  ·rw [if_pos hlt,if_pos hlt]
   by_cases hf:(oneR b a).2.2≠0
   ·rw [if_pos hf,if_pos hf]
   ·rw [if_neg hf,if_neg hf]
    obtain ⟨k1,k2,_⟩:=oneR_next hb h (by simpa using hf)
    exact goF_irrel hb n m _ _ _ k2 (by omega) (by omega)
  ·rw [if_neg hlt,if_neg hlt]
theorem goR_step {b:List UInt8} (hb:b.length≤16777216) {a:Nat} (h:a≤b.length) (L:List Rec) (M:List Mark):goR b a L M =
  if a<b.length then
   if (oneR b a).2.2≠0 then ([],[],(oneR b a).2.1,(oneR b a).2.2)
   else goR b (oneR b a).2.1 (L++[(oneR b a).1]) (M++[⟨(oneR b a).1.id,a,(oneR b a).2.1⟩])
  else if fileF L≠0 then ([],[],0,fileF L) else (L,M,0,0):=by
 conv=>lhs;unfold goR goF
 by_cases hlt:a<b.length
 ·rw [if_pos hlt,if_pos hlt]
  by_cases hf:(oneR b a).2.2≠0
  ·rw [if_pos hf,if_pos hf]
  ·rw [if_neg hf,if_neg hf]
   obtain ⟨k1,k2,_⟩:=oneR_next hb h (by simpa using hf)
   exact goF_irrel hb _ _ _ _ _ k2 (by omega) (by omega)
 ·rw [if_neg hlt,if_neg hlt]
theorem record_readFile (b:List UInt8):ACalls Tryz.prog 83 [.one (fileB b)] (.tup [recsV (readF b).1,marksV (readF b).2.1,.one (.int .i64 (readF b).2.2.1),.one (.int .i64 (readF b).2.2.2)]):=by
 obtain ⟨R,eR⟩:∃R,R=readF b:=⟨_,rfl⟩
 rw [←eR]
 unfold readF at eR
 unfold recsV marksV
 have hRl:=rows_len b
 refine @ACalls.of _ (wilds [(10,[1,1,1,4,8,7,7,7,7,7,7,7,9,0,0])]) _ _ _ _ _ mixed (fn:=Tryz.f83) (by kernel_rfl) (by kernel_rfl) rfl (by kernel_rfl) (by simp [Tryz.f83]) (fun hok=>?_)
 by_cases h1:500000<b.length
 ·rw [if_pos h1] at eR
  subst eR
  have h1':(500000<(b.length:Int))=True:=eq_true (by omega)
  simp -implicitDefEqProofs [hRl,h1']
 rw [if_neg h1] at eR
 have h1':(500000<(b.length:Int))=False:=eq_false (by omega)
 simp -implicitDefEqProofs [hRl,h1']
 refine ALoopS.of (Nat×List Rec×List Mark) (fun x=>[(0,.x (.one (fileB b))),(6,.own 55 7 (x.2.1.map Rec.row)),(7,.own 101 3 (x.2.2.map Mark.row)),(8,.x (.one (.int .i64 x.1)))])
  (fun x=>x.1≤b.length∧R=goR b x.1 x.2.1 x.2.2∧x.2.1.length≤x.1∧x.2.2.length≤x.1) (fun x=>b.length-x.1) (0,[],[]) ⟨Nat.zero_le _,eR,Nat.le_refl _,Nat.le_refl _⟩ ?_ ?_
 ·simp
 rintro ⟨a,L,M⟩ ⟨ha,hR,hL,hM⟩
 dsimp only at ha hR hL hM ⊢
 have hb:b.length≤16777216:=by omega
 rw [goR_step hb ha] at hR
 by_cases hlt:a<b.length
 ·rw [if_pos hlt] at hR
  have hlt':((a:Int)<(b.length:Int))=True:=eq_true (by omega)
  have k1:=record_readOne b a hb ha
  have hn:=oneR_next hb ha
  generalize oneR b a=o at *
  obtain ⟨r,nx,f⟩:=o
  unfold oneV at k1
  dsimp only at *
  have hrow:r.row=[.int .i64 r.kind,.str r.id,.str r.of,.int .i64 r.time,.str r.key,.list 2 (r.heads.map Head.row),fileB r.block]:=rfl
  rw [hrow] at k1
  simp -implicitDefEqProofs [hRl,hlt']
  refine ACallK.of k1 ?_
  by_cases hf:f=0
  ·subst hf
   rw [if_neg (by decide)] at hR
   obtain ⟨n1,n2,_⟩:=hn rfl
   simp -implicitDefEqProofs
   refine ⟨by unfold maxLen;omega,by unfold maxLen;omega,?_⟩
   exact Again.of (nx,L++[r],M++[⟨r.id,a,nx⟩]) ⟨n2,hR,by simp;omega,by simp;omega⟩ (by simp only;omega) (by simp [hrow,Mark.row])
  ·rw [if_pos hf] at hR
   subst hR
   have hf':(f=0)=False:=eq_false hf
   simp -implicitDefEqProofs [hf']
 ·rw [if_neg hlt] at hR
  have hlt':((a:Int)<(b.length:Int))=False:=eq_false (by omega)
  have k2:=record_CheckFile L
  unfold recsV at k2
  generalize fileF L=f at *
  simp -implicitDefEqProofs [hRl,hlt']
  refine ACallK.of k2 ?_
  by_cases hf:f=0
  ·rw [if_neg (by simpa using hf)] at hR
   subst hR
   subst hf
   simp -implicitDefEqProofs
  ·rw [if_pos hf] at hR
   subst hR
   have hf':(f=0)=False:=eq_false hf
   simp -implicitDefEqProofs [hf']
theorem record_ReadFile (b:List UInt8):ACalls Tryz.prog 41 [.one (fileB b)] (.tup [recsV (readF b).1,.one (.int .i64 (readF b).2.2.1),.one (.int .i64 (readF b).2.2.2)]):=by
 have k:=record_readFile b
 generalize readF b=R at *
 unfold recsV marksV at *
 refine ACalls.of mixed (fn:=Tryz.f41) (by kernel_rfl) (by kernel_rfl) rfl (by kernel_rfl) (by simp [Tryz.f41]) (fun hok=>?_)
 simp -implicitDefEqProofs
 refine ACallK.of k ?_
 simp -implicitDefEqProofs
theorem record_Marks (b:List UInt8):ACalls Tryz.prog 42 [.one (fileB b)] (.tup [marksV (readF b).2.1,.one (.int .i64 (readF b).2.2.2)]):=by
 have k:=record_readFile b
 generalize readF b=R at *
 unfold recsV marksV at *
 refine ACalls.of mixed (fn:=Tryz.f42) (by kernel_rfl) (by kernel_rfl) rfl (by kernel_rfl) (by simp [Tryz.f42]) (fun hok=>?_)
 simp -implicitDefEqProofs
 refine ACallK.of k ?_
 simp -implicitDefEqProofs
def ixI {α:Type} (p:α→Bool) (l:List α):Int:=match l.findIdx? p with
 | some i=>(i:Int)
 | none=>-1
theorem ixI_hit {α:Type} {p:α→Bool} {l:List α} {i:Nat} (h:Upto (fun e=>!p e) l i) (hlt:i<l.length) (hp:p l[i]=true):ixI p l=(i:Int):=by
 unfold ixI
 have:l.findIdx? p=some i:=by
  rw [List.findIdx?_eq_some_iff_getElem]
  refine ⟨hlt,hp,fun j hj=>?_⟩
  have:=List.all_eq_true.1 h.2 l[j] (by rw [List.mem_take_iff_getElem];exact ⟨j,by omega,rfl⟩)
  simpa using this
 rw [this]
theorem ixI_none {α:Type} {p:α→Bool} {l:List α} (h:Upto (fun e=>!p e) l l.length):ixI p l=-1:=by
 unfold ixI
 have:l.findIdx? p=none:=by
  rw [List.findIdx?_eq_none_iff]
  intro x hx
  have h2:=h.2
  rw [List.take_length] at h2
  have:=List.all_eq_true.1 h2 x hx
  simpa using this
 rw [this]
theorem ixI_spec {α:Type} (p:α→Bool) (l:List α):(ixI p l=-1∧l.findIdx? p=none)∨∃i:Nat,ixI p l=(i:Int)∧l.findIdx? p=some i∧i<l.length:=by
 unfold ixI
 cases h:l.findIdx? p with
 | none=>exact .inl ⟨rfl,rfl⟩
 | some i=>exact .inr ⟨i,rfl,rfl,(List.findIdx?_eq_some_iff_getElem.1 h).1⟩
theorem slices_IndexFuncR (l:List Rec) (g:FuncId) (c:CV) (p:Rec→Bool) (hc:∀r∈l,ACalls Tryz.prog g [.agg r.row,.one c] (.x (.one (.bool (p r))))) (hl:l.length≤1000000000) :
  ACalls Tryz.prog 109 [recsV l,.one (.clo g [c])] (.x (.one (.int .i64 (ixI p l)))):=by
 obtain ⟨R,eR⟩:∃R,R=ixI p l:=⟨_,rfl⟩
 rw [←eR]
 unfold recsV
 refine ACalls.of mixed (fn:=Tryz.f109) (by kernel_rfl) (by kernel_rfl) rfl (by kernel_rfl) (by simp [Tryz.f109]) (fun hok=>?_)
 simp -implicitDefEqProofs
 refine ALoopS.of Nat (fun i=>[(0,.x (.one (.list 7 (l.map Rec.row)))),(1,.x (.one (.clo g [c]))),(7,.x (.one (.int .i64 l.length))),(8,.x (.one (.int .i64 i)))]) (Upto (fun e=>!p e) l) (fun i=>l.length-i) 0 Upto.zero ?_ ?_
 ·simp
 intro i hi
 have hle:=hi.1
 by_cases hlt:i<l.length
 ·have hlt':((i:Int)<(l.length:Int))=True:=eq_true (by omega)
  have wi:IntKind.i64.wrap ((i:Int)+1)=(i:Int)+1:=wrapS _ (by omega)
  have k1:=hc l[i] (List.getElem_mem hlt)
  have hrow:l[i].row=[.int .i64 l[i].kind,.str l[i].id,.str l[i].of,.int .i64 l[i].time,.str l[i].key,.list 2 (l[i].heads.map Head.row),fileB l[i].block]:=rfl
  rw [hrow] at k1
  simp -implicitDefEqProofs [hlt,hlt',hrow]
  refine ACallK.of k1 ?_
  cases hp:p l[i]
  ·simp -implicitDefEqProofs [wi]
   exact Again.of (i+1) (hi.step hlt (by rw [hp];rfl)) (by omega) (by simp [wi])
  ·have:=ixI_hit hi hlt hp
   rw [this] at eR
   subst eR
   simp -implicitDefEqProofs
 ·have hlt':((i:Int)<(l.length:Int))=False:=eq_false (by omega)
  have hil:i=l.length:=by omega
  subst hil
  have:=ixI_none hi
  rw [this] at eR
  subst eR
  simp -implicitDefEqProofs [hlt']
theorem slices_IndexFuncH (l:List Head) (g:FuncId) (c:CV) (p:Head→Bool) (hc:∀r∈l,ACalls Tryz.prog g [.agg r.row,.one c] (.x (.one (.bool (p r))))) (hl:l.length≤1000000000) :
  ACalls Tryz.prog 235 [headsV l,.one (.clo g [c])] (.x (.one (.int .i64 (ixI p l)))):=by
 obtain ⟨R,eR⟩:∃R,R=ixI p l:=⟨_,rfl⟩
 rw [←eR]
 refine ACalls.of mixed (fn:=Tryz.f235) (by kernel_rfl) (by kernel_rfl) rfl (by kernel_rfl) (by simp [Tryz.f235]) (fun hok=>?_)
 simp -implicitDefEqProofs
 refine ALoopS.of Nat (fun i=>[(0,.x (headsV l)),(1,.x (.one (.clo g [c]))),(7,.x (.one (.int .i64 l.length))),(8,.x (.one (.int .i64 i)))]) (Upto (fun e=>!p e) l) (fun i=>l.length-i) 0 Upto.zero ?_ ?_
 ·simp
 intro i hi
 have hle:=hi.1
 by_cases hlt:i<l.length
 ·have hlt':((i:Int)<(l.length:Int))=True:=eq_true (by omega)
  have wi:IntKind.i64.wrap ((i:Int)+1)=(i:Int)+1:=wrapS _ (by omega)
  have k1:=hc l[i] (List.getElem_mem hlt)
  have hrow:∀h:Head,h.row=[.str h.name,.str h.value]:=fun _=>rfl
  rw [hrow] at k1
  simp -implicitDefEqProofs [hlt,hlt',hrow]
  refine ACallK.of k1 ?_
  cases hp:p l[i]
  ·simp -implicitDefEqProofs [wi]
   exact Again.of (i+1) (hi.step hlt (by rw [hp];rfl)) (by omega) (by simp [wi])
  ·have:=ixI_hit hi hlt hp
   rw [this] at eR
   subst eR
   simp -implicitDefEqProofs
 ·have hlt':((i:Int)<(l.length:Int))=False:=eq_false (by omega)
  have hil:i=l.length:=by omega
  subst hil
  have:=ixI_none hi
  rw [this] at eR
  subst eR
  simp -implicitDefEqProofs [hlt']
theorem record_find1 (r:Rec) (w:List UInt8):ACalls Tryz.prog 146 [.agg r.row,.one (.ref [.str w])] (.x (.one (.bool (r.id==w)))):=by
 unfold Rec.row
 refine ACalls.of mixed (fn:=Tryz.f146) (by kernel_rfl) (by kernel_rfl) rfl (by kernel_rfl) (by simp [Tryz.f146]) (fun hok=>?_)
 simp -implicitDefEqProofs
theorem record_head1 (h:Head) (w:List UInt8):ACalls Tryz.prog 236 [.agg h.row,.one (.ref [.str w])] (.x (.one (.bool (smallL h.name==w)))):=by
 have k:=address_Small h.name
 unfold Head.row
 refine ACalls.of mixed (fn:=Tryz.f236) (by kernel_rfl) (by kernel_rfl) rfl (by kernel_rfl) (by simp [Tryz.f236]) (fun hok=>?_)
 simp -implicitDefEqProofs
 refine ACallK.of k ?_
 simp -implicitDefEqProofs
def findIx (l:List Rec) (w:List UInt8):Option Nat:=l.findIdx? fun r=>r.id==w
def findD (l:List Rec) (w:List UInt8):Rec:=((findIx l w).bind fun i=>l[i]?).getD rec0
theorem record_find (l:List Rec) (w:List UInt8) (hl:l.length≤1000000000):ACalls Tryz.prog 84 [recsV l,.one (.str w)] (.tup [.agg (findD l w).row,.one (.bool (findIx l w).isSome)]):=by
 have k:=slices_IndexFuncR l 146 (.ref [.str w]) (fun r=>r.id==w) (fun r _=>record_find1 r w) hl
 have hs:=ixI_spec (fun r:Rec=>r.id==w) l
 unfold findD findIx
 unfold recsV at *
 generalize ixI (fun r:Rec=>r.id==w) l=I at *
 generalize l.findIdx? (fun r:Rec=>r.id==w)=O at *
 refine ACalls.of mixed (fn:=Tryz.f84) (by kernel_rfl) (by kernel_rfl) rfl (by kernel_rfl) (by simp [Tryz.f84]) (fun hok=>?_)
 simp -implicitDefEqProofs
 refine ACallK.of k ?_
 rcases hs with ⟨rfl,rfl⟩ | ⟨i,rfl,rfl,hlt⟩
 ·simp -implicitDefEqProofs [rec0,Rec.row]
 ·have h0:((i:Int)<0)=False:=eq_false (by omega)
  have hlt':((i:Int)<(l.length:Int))=True:=eq_true (by omega)
  have hrow:l[i].row=[.int .i64 l[i].kind,.str l[i].id,.str l[i].of,.int .i64 l[i].time,.str l[i].key,.list 2 (l[i].heads.map Head.row),fileB l[i].block]:=rfl
  simp -implicitDefEqProofs [h0,hlt,hlt',hrow]
def headIx (l:List Head) (w:List UInt8):Option Nat:=l.findIdx? fun h=>smallL h.name==w
def headI (l:List Head) (w:List UInt8):Int:=ixI (fun h=>smallL h.name==w) l
theorem record_head (r:Rec) (w:List UInt8) (hl:r.heads.length≤1000000000):ACalls Tryz.prog 149 [.agg r.row,.one (.str w)] (.x (.one (.int .i64 (headI r.heads w)))):=by
 have k:=slices_IndexFuncH r.heads 236 (.ref [.str w]) (fun h=>smallL h.name==w) (fun h _=>record_head1 h w) hl
 unfold headI Rec.row
 refine ACalls.of mixed (fn:=Tryz.f149) (by kernel_rfl) (by kernel_rfl) rfl (by kernel_rfl) (by simp [Tryz.f149]) (fun hok=>?_)
 simp -implicitDefEqProofs
 refine ACallK.of k ?_
 simp -implicitDefEqProofs
def numN (s:List UInt8):Nat:=if numK 4 s=true then decV s else 0
theorem record_number (s:List UInt8):ACalls Tryz.prog 150 [.one (.str s)] (.x (.one (.int .i64 (numN s)))):=by
 have k:=message_DigitsK 4 (by omega) s
 unfold numN
 refine ACalls.of mixed (fn:=Tryz.f150) (by kernel_rfl) (by kernel_rfl) rfl (by kernel_rfl) (by simp [Tryz.f150]) (fun hok=>?_)
 simp -implicitDefEqProofs
 refine ACallK.of k ?_
 cases h:numK 4 s
 ·simp -implicitDefEqProofs
 ·obtain ⟨h1,h2,_⟩:=numK_atoi h
  have k2:=strconv_Atoi1 s _ (by omega) h1
  simp -implicitDefEqProofs
  refine ACallK.of k2 ?_
  simp -implicitDefEqProofs
theorem slices_CloneHs (l:List Head) (hl:l.length≤1000000):ACalls Tryz.prog 148 [headsV l] (.own 84 2 (l.map Head.row)):=by
 cases l with
 | nil =>
  refine ACalls.split_list (pre:=[]) (post:=[]) ?_ ?_
  ·refine ACalls.of mixed (fn:=Tryz.f148) (by kernel_rfl) (by kernel_rfl) rfl (by kernel_rfl) (by simp [Tryz.f148]) (fun hok=>?_)
   simp -implicitDefEqProofs
  ·refine ACalls.of mixed (fn:=Tryz.f148) (by kernel_rfl) (by kernel_rfl) rfl (by kernel_rfl) (by simp [Tryz.f148]) (fun hok=>?_)
   simp -implicitDefEqProofs
 | cons x r =>
  have hrow:x.row=[.str x.name,.str x.value]:=rfl
  simp at hl
  refine ACalls.of mixed (fn:=Tryz.f148) (by kernel_rfl) (by kernel_rfl) rfl (by kernel_rfl) (by simp [Tryz.f148]) (fun hok=>?_)
  simp -implicitDefEqProofs [hrow]
  unfold maxLen
  omega
theorem slices_CloneBs (l:List UInt8) (hb:l.length≤16777216):ACalls Tryz.prog 97 [.one (fileB l)] (.own 5 1 (byteRows l)):=by
 cases l with
 | nil =>
  refine ACalls.split_list (pre:=[]) (post:=[]) ?_ ?_
  ·refine ACalls.of mixed (fn:=Tryz.f97) (by kernel_rfl) (by kernel_rfl) rfl (by kernel_rfl) (by simp [Tryz.f97]) (fun hok=>?_)
   simp -implicitDefEqProofs [byteRows]
  ·refine ACalls.of mixed (fn:=Tryz.f97) (by kernel_rfl) (by kernel_rfl) rfl (by kernel_rfl) (by simp [Tryz.f97]) (fun hok=>?_)
   simp -implicitDefEqProofs [byteRows]
 | cons x r =>
  simp at hb
  refine ACalls.of mixed (fn:=Tryz.f97) (by kernel_rfl) (by kernel_rfl) rfl (by kernel_rfl) (by simp [Tryz.f97]) (fun hok=>?_)
  simp -implicitDefEqProofs [byteRows,byteRow]
  unfold maxLen
  omega
end Go.Proofs.YtlcmnclbljedfaaGreatDoor
