/- Lemmas. -/
import Derived.Test.YtmlnbemjmlogiaaGreatDoorIxGTa
import Derived.Shelf.Strings.Cut
import Derived.Deep.RegionLaw
import Derived.Lib.SliceRun
import Derived.Laws.IdiomCopy
set_option linter.all false
set_option maxHeartbeats 8000000
set_option maxRecDepth 1000000
namespace Go.Proofs.YtmlnbemjmlogiaaGreatDoor
open Go Go.Ab Go.IntKind Go.Proofs.Tryz
section
variable [bn][cF prog]
def yp(c:UInt8):Bool:=(decide (32<=c.toNat)&&decide (c.toNat<=126)) ||decide (c.toNat=9)
def MI{c:UInt8}(h:(32<=c.toNat/\c.toNat<=126)\/c.toNat=9):yp c=true:=by
 unfold yp;rcases h with h|h
 ·simp[h.1,h.2]
 ·simp[h]
def Fu{c:UInt8}(h:¬((32<=c.toNat/\c.toNat<=126)\/c.toNat=9)):yp c=false:=by
 unfold yp;cases aa:decide (32<=c.toNat)<;>cases ab:decide (c.toNat<=126)<;>cases au:decide (c.toNat=9) <;>
  simp only[hk,rp]at aa ab au<;>first|rfl|(exfalso;omega)
def Fv:aq:=[32,9]
def trimB(s:aq):aq:=Lib.trimS s Fv
def kS(s:aq):Bool:=decide (s.length<=1000)&&(decide (trimB s=s)&&s.all yp)
def zln(s:aq):az prog 175 [.one (.str s)] (.x (.one (.str (trimB s)))):=by have h:=Cq s Fv (by decide) (by decide);unfold trimB;unfold Fv at*;generalize Lib.trimS s [32,9]=T at h⊢;refine az.bd f175 mixed fun aD=>?_;simp;refine aH.of h ?_;simp
def Zp(s:aq):az prog 127 [.one (.str s)] (.x (.one (.bool (kS s)))):=by
 obtain⟨B,ca⟩:∃B,B=kS s:=⟨_,rfl⟩
 rw[<-ca];have gI:∀i (h:i<s.length),yp s[i]=false->B=false:=fun i h ap=>by rw[ca];unfold kS;rw[wR h ap,kJ,kJ]
 have bv:=zln s;refine az.bd f127 mixed fun aD=>?_;by_cases aa:1000<s.length
 ·have bk:B=false:=by rw[ca];unfold kS;rw[iI (by omega),h7]
  have dd:(1000<(s.length:Int))=True:=aY;simp[dd];refine ya ?_;simp[bk]
 have dd:(1000<(s.length:Int))=False:=a8;simp[dd];refine b_.of (fun _=>bv) rfl ?_;by_cases cp:trimB s=s;rotate_left
 ·have bk:B=false:=by rw[ca];unfold kS;rw[iI cp,h7,kJ]
  have fa:(trimB s==s)=false:=by simpa using cp
  simp[fa,bk]
 have fa:(trimB s==s)=true:=by simpa using cp
 simp[fa];refine ck.of Nat (fun i=>[(0,.x (.one (.str s))),(14,.x (.one (.int .i64 s.length))),(15,.x (.one (.int .i64 i)))]) (ft yp s) (fun i=>s.length-i) 0 ft.zero ?_ ?_
 ·simp
 intro i ah;by_cases ar:i<s.length
 ·have aS:((i:Int)<(s.length:Int))=True:=aY;have bC:=bc ((i:Int)+1);have gC:(s[i].toNat<=8)\/(9<=s[i].toNat/\s[i].toNat<=9)\/(10<=s[i].toNat/\s[i].toNat<=31)\/(32<=s[i].toNat/\s[i].toNat<=126)\/(127<=s[i].toNat):=by omega
  rcases gC with gC|gC|gC|gC|gC
  ·-- 0..8
   have eY:((s[i].toNat:Int)<32)=True:=aY;have dr:(126<(s[i].toNat:Int))=False:=a8;have q:((s[i].toNat:Int) != 9)=true:=by rw[uY];omega
   have bk:=gI i ar (Fu (by omega));simp[ar,aS,q,bk,eY,dr]
  ·-- 9..9
   have eY:((s[i].toNat:Int)<32)=True:=aY;have dr:(126<(s[i].toNat:Int))=False:=a8;have q:((s[i].toNat:Int) != 9)=false:=by rw[Rw];omega
   simp[ar,aS,q,bC,eY,dr];exact bt.of (i+1) (ah.step ar (MI (by omega))) (by omega) (by simp)
  ·-- 10..31
   have eY:((s[i].toNat:Int)<32)=True:=aY;have dr:(126<(s[i].toNat:Int))=False:=a8;have q:((s[i].toNat:Int) != 9)=true:=by rw[uY];omega
   have bk:=gI i ar (Fu (by omega));simp[ar,aS,q,bk,eY,dr]
  ·-- 32..126
   have eY:((s[i].toNat:Int)<32)=False:=a8;have dr:(126<(s[i].toNat:Int))=False:=a8;have q:((s[i].toNat:Int) != 9)=true:=by rw[uY];omega
   simp[ar,aS,q,bC,eY,dr];exact bt.of (i+1) (ah.step ar (MI (by omega))) (by omega) (by simp)
  ·-- 127..255
   have eY:((s[i].toNat:Int)<32)=False:=a8;have dr:(126<(s[i].toNat:Int))=True:=aY;have q:((s[i].toNat:Int) != 9)=true:=by rw[uY];omega
   have bk:=gI i ar (Fu (by omega));simp[ar,aS,q,bk,eY,dr]
 ·have aS:((i:Int)<(s.length:Int))=False:=a8;have bk:B=true:=by rw[ca];unfold kS;rw[ah.done ar,gw cp,gw (by omega)];rfl
  simp[aS,bk]
def Zq(s:aq):az prog 147 [.one (.str s)] (.x (.one (.bool (kS s)))):=by
 obtain⟨B,ca⟩:∃B,B=kS s:=⟨_,rfl⟩
 rw[<-ca];have gI:∀i (h:i<s.length),yp s[i]=false->B=false:=fun i h ap=>by rw[ca];unfold kS;rw[wR h ap,kJ,kJ]
 have bv:=Cq s Fv (by decide) (by decide);have zlo:trimB s=Lib.trimS s Fv:=rfl;rw[<-zlo]at bv;unfold Fv at bv;refine az.bd f147 mixed fun aD=>?_;simp;refine ck.of Nat (fun i=>[(0,.x (.one (.str s))),(3,.x (.one (.int .i64 i)))]) (ft yp s) (fun i=>s.length-i) 0 ft.zero ?_ ?_
 ·simp
 intro i ah;by_cases ar:i<s.length
 ·have aS:((i:Int)<(s.length:Int))=True:=aY;have bC:i64.wrap ((i:Int)+1)=(i:Int)+1:=lR _ (by have:=aD;simp[aG.ok,ag.ok,maxLen]at this;omega);have gC:(s[i].toNat<=8)\/(9<=s[i].toNat/\s[i].toNat<=9)\/(10<=s[i].toNat/\s[i].toNat<=31)\/(32<=s[i].toNat/\s[i].toNat<=126)\/(127<=s[i].toNat):=by omega
  rcases gC with gC|gC|gC|gC|gC
  ·-- 0..8
   have eY:((s[i].toNat:Int)<32)=True:=aY;have dr:(126<(s[i].toNat:Int))=False:=a8;have q:((s[i].toNat:Int) != 9)=true:=by rw[uY];omega
   have bk:=gI i ar (Fu (by omega));simp[ar,aS,q,bk,eY,dr]
  ·-- 9..9
   have eY:((s[i].toNat:Int)<32)=True:=aY;have dr:(126<(s[i].toNat:Int))=False:=a8;have q:((s[i].toNat:Int) != 9)=false:=by rw[Rw];omega
   simp[ar,aS,q,bC,eY,dr];exact bt.of (i+1) (ah.step ar (MI (by omega))) (by omega) (by simp)
  ·-- 10..31
   have eY:((s[i].toNat:Int)<32)=True:=aY;have dr:(126<(s[i].toNat:Int))=False:=a8;have q:((s[i].toNat:Int) != 9)=true:=by rw[uY];omega
   have bk:=gI i ar (Fu (by omega));simp[ar,aS,q,bk,eY,dr]
  ·-- 32..126
   have eY:((s[i].toNat:Int)<32)=False:=a8;have dr:(126<(s[i].toNat:Int))=False:=a8;have q:((s[i].toNat:Int) != 9)=true:=by rw[uY];omega
   simp[ar,aS,q,bC,eY,dr];exact bt.of (i+1) (ah.step ar (MI (by omega))) (by omega) (by simp)
  ·-- 127..255
   have eY:((s[i].toNat:Int)<32)=False:=a8;have dr:(126<(s[i].toNat:Int))=True:=aY;have q:((s[i].toNat:Int) != 9)=true:=by rw[uY];omega
   have bk:=gI i ar (Fu (by omega));simp[ar,aS,q,bk,eY,dr]
 ·have aS:((i:Int)<(s.length:Int))=False:=a8;by_cases aa:s.length<=1000
  ·have dd:((s.length:Int)<=1000)=True:=aY;have bk:B=decide (trimB s=s):=by rw[ca];unfold kS;rw[ah.done ar,gw aa,sE,ig]
   simp[aS,dd];refine b_.of (fun _=>bv) rfl ?_;simp;rw[bk];by_cases cp:trimB s=s
   ·simp[cp]
   ·simp[cp]
  ·have dd:((s.length:Int)<=1000)=False:=a8;have bk:B=false:=by rw[ca];unfold kS;rw[iI aa,h7]
   simp[aS,dd];refine ya ?_;simp[bk]
structure Head where
 name:aq
 value:aq
def Head.row(h:Head):List ag:=[.str h.name,.str h.value]
abbrev qs(l:List Head):aG:=.one (.list 2 (l.map Head.row))
def Ae(h:Head):Int:=if mq h.name=false then 5 else if kS h.value=false then 3 else 0
def vt:List Head->Int
 |[]=>0
 |h::r=>if Ae h=0 then vt r else Ae h
def j8(l:List Head):Int:=if 100<l.length then 2 else vt l
def R4(l:List Head):az prog 72 [qs l] (.x (.one (.int .i64 (j8 l)))):=by
 obtain⟨F,a7⟩:∃F,F=j8 l:=⟨_,rfl⟩
 rw[<-a7];unfold j8 at a7;refine az.bd f72 mixed fun aD=>?_;by_cases aa:100<l.length
 ·have dd:(100<(l.length:Int))=True:=aY;rw[av aa]at a7;subst a7;simp[dd]
 have dd:(100<(l.length:Int))=False:=a8;rw[an aa]at a7;simp[dd];refine ck.of Nat (fun i=>[(8,.x (qs l)),(9,.x (.one (.int .i64 l.length))),(10,.x (.one (.int .i64 i)))]) (fun i=>i<=l.length/\F=vt (l.drop i)) (fun i=>l.length-i) 0 ⟨cj _,a7⟩ ?_ ?_
 ·simp
 rintro i ⟨ah,a6⟩;by_cases ar:i<l.length
 ·have aS:((i:Int)<(l.length:Int))=True:=aY;have bC:=bc ((i:Int)+1);rw[jw ar,vt]at a6;have a_:l[i].row=[.str l[i].name,.str l[i].value]:=rfl;have aE:=Zo l[i].name;have aQ:=Zp l[i].value;have aw:Ae l[i]=if mq l[i].name=false then 5 else if kS l[i].value=false then 3 else 0:=rfl
  generalize mq l[i].name=p at aE aw;generalize kS l[i].value=q at aQ aw;simp[ar,aS,a_];refine aH.of aE ?_;cases p
  ·rw[av rfl]at aw;rw[aw,an (by decide)]at a6;subst a6;simp
  ·rw[an (by decide)]at aw;simp;refine aH.of aQ ?_;cases q
   ·rw[av rfl]at aw;rw[aw,an (by decide)]at a6;subst a6;simp
   ·rw[an (by decide)]at aw;rw[aw,av rfl]at a6;simp[bC];exact bt.of (i+1) ⟨by omega,a6⟩ (by omega) (by simp)
 ·have aS:((i:Int)<(l.length:Int))=False:=a8;have a6:F=0:=by rw[a6,List.drop_of_length_le (by omega)];rfl
  subst a6;simp[aS]
def Zr(l:List Head):az prog 148 [qs l] (.x (.one (.int .i64 (j8 l)))):=by
 obtain⟨F,a7⟩:∃F,F=j8 l:=⟨_,rfl⟩
 rw[<-a7];unfold j8 at a7;refine az.bd f148 mixed fun aD=>?_;by_cases aa:100<l.length
 ·have dd:(100<(l.length:Int))=True:=aY;rw[av aa]at a7;subst a7;simp[dd]
 have dd:(100<(l.length:Int))=False:=a8;rw[an aa]at a7;simp[dd];refine ck.of Nat (fun i=>[(0,.x (qs l)),(3,.x (.one (.int .i64 i)))]) (fun i=>i<=l.length/\F=vt (l.drop i)) (fun i=>l.length-i) 0 ⟨cj _,a7⟩ ?_ ?_
 ·simp
 rintro i ⟨ah,a6⟩;by_cases ar:i<l.length
 ·have aS:((i:Int)<(l.length:Int))=True:=aY;have bC:=bc ((i:Int)+1);rw[jw ar,vt]at a6;have a_:l[i].row=[.str l[i].name,.str l[i].value]:=rfl;have aE:=zlm l[i].name;have aQ:=Zq l[i].value;have aw:Ae l[i]=if mq l[i].name=false then 5 else if kS l[i].value=false then 3 else 0:=rfl
  generalize mq l[i].name=p at aE aw;generalize kS l[i].value=q at aQ aw;simp[ar,aS,a_];refine aH.of aE ?_;cases p
  ·rw[av rfl]at aw;rw[aw,an (by decide)]at a6;subst a6;simp
  ·rw[an (by decide)]at aw;simp[ar,aS,a_];refine aH.of aQ ?_;cases q
   ·rw[av rfl]at aw;rw[aw,an (by decide)]at a6;subst a6;simp
   ·rw[an (by decide)]at aw;rw[aw,av rfl]at a6;simp[bC];exact bt.of (i+1) ⟨by omega,a6⟩ (by omega) (by simp)
 ·have aS:((i:Int)<(l.length:Int))=False:=a8;have a6:F=0:=by rw[a6,List.drop_of_length_le (by omega)];rfl
  subst a6;simp[aS]
end
section
variable [bn]
abbrev b5(b:aq):ag:=.list 1 (bq b)
def ha:aq->Option (aq)
 |[]=>none
 |c::r=>if c=13/\r.head?=some 10 then some []else if c=13\/c=10 then none else (ha r).map (c::·)
def fj(b:aq)(a:Nat):aq:=(ha (b.drop a)).getD []
def eE(b:aq)(a:Nat):Nat:=match ha (b.drop a)with
 |some l=>a+l.length+2
 |none=>a
def eO(b:aq)(a:Nat):Bool:=(ha (b.drop a)).isSome
def R9:∀{b l:aq},ha b=some l->l=b.take l.length/\l.length+2<=b.length
 |[],l,h=>by simp[ha]at h
 |c::r,l,h=>by
  unfold ha at h;split at h
  ·rename_i ap;injection h with h
   subst h;cases r with
   |nil=>simp at ap
   |cons d r=>exact⟨rfl,by simp⟩
  ·split at h
   ·cases h
   ·cases al:ha r with
    |none=>rw[al]at h;cases h
    |some pN=>rw[al]at h;simp only[uF,b9]at h;subst h;obtain⟨aa,ab⟩:=R9 al;exact⟨by simp[<-aa],by simp;omega⟩
def tZ(b:aq)(a i:Nat):Prop:=a<=i/\i<=b.length/\∀k,ha (b.drop i)=k->ha (b.drop a)=k.map ((b.drop a).take (i-a)++·)
def tZ.zero{b:aq}{a:Nat}(h:a<=b.length):tZ b a a:=⟨f_ _,h,fun k ak=>by rw[ak];cases k<;>simp⟩
def R_{b:aq}{i:Nat}(h:i<b.length):b.drop i=b[i]::b.drop (i+1):=jw h
def zlx{b:aq}{a i:Nat}(aa:a<=i)(ab:i<b.length):(b.drop a).take (i+1-a)=(b.drop a).take (i-a)++[b[i]]:=by rw[show i+1-a=(i-a)+1 by omega,Co,js,show a+(i-a)=i by omega,cr ab];rfl
def tZ.step{b:aq}{a i:Nat}(h:tZ b a i)(ar:i<b.length)(aa:b[i]≠13)(ab:b[i]≠10):tZ b a (i+1):=by
 obtain⟨aE,aQ,bf⟩:=h;refine⟨by omega,by omega,fun k ak=>?_⟩;rw[bf (k.map (b[i]::·)) ?_]
 ·rw[zlx aE ar];cases k<;>simp
 ·rw[R_ ar];unfold ha;rw[an (by rintro⟨h,_⟩;exact aa h),an (by rintro (h|h);exact aa h;exact ab h),ak]
def tZ.none{b:aq}{a i:Nat}(h:tZ b a i)(he:ha (b.drop i)=none):ha (b.drop a)=none:=by rw[h.2.2 Option.none he];rfl
def tZ.some{b:aq}{a i:Nat}(h:tZ b a i)(he:ha (b.drop i)=some []):ha (b.drop a)=some ((b.drop a).take (i-a)):=by rw[h.2.2 _ he];simp
def Zu(k:Nat)(ak:k<256)(c:UInt8):((c.toNat:Int)=(k:Int))=(c=UInt8.ofNat k):=by
 apply propext;constructor
 ·intro h;have:c.toNat=k:=by exact_mod_cast h
  rw[<-this];simp
 ·rintro rfl;simp[GZ ak]
def Zv(c:UInt8):((c.toNat:Int)=13)=(c=13):=Zu 13 (by decide) c
def Zw(c:UInt8):((c.toNat:Int)=10)=(c=10):=Zu 10 (by decide) c
def oE{b:aq}{a i:Nat}(h:a<=i):b4 (bq b) (a:Int) (i:Int)=bq ((b.drop a).take (i-a)):=by unfold b4 bq;rw[show ((i:Int)).toNat=i by omega,show ((a:Int)).toNat=a by omega,GO,Fy,CC]
def I1(b:aq)(a:Nat)(ad:b.length<=16777216)(bj:a<=b.length):az prog 170 [.one (b5 b),.one (.int .i64 a)] (.b2 [.one (.str (fj b a)),.one (.int .i64 (eE b a)),.one (.bool (eO b a))]):=by
 obtain⟨S,oD⟩:∃S,S=fj b a:=⟨_,rfl⟩
 obtain⟨M,j5⟩:∃M,M=eE b a:=⟨_,rfl⟩
 obtain⟨B,ca⟩:∃B,B=eO b a:=⟨_,rfl⟩
 rw[<-oD,<-j5,<-ca];have cl:ha (b.drop a)=none->S=[]/\M=a/\B=false:=fun h=>by subst oD j5 ca;simp[fj,eE,eO,h]
 have yr:∀l,ha (b.drop a)=some l->S=l/\M=a+l.length+2/\B=true:=fun l h=>by subst oD j5 ca;simp[fj,eE,eO,h]
 refine az.bd f170 mixed fun aD=>?_;simp +contextual[-Bool.and_eq_false_imp];refine ck.of Nat (fun i=>[(0,.x (.one (b5 b))),(1,.x (.one (.int .i64 a))),(4,.x (.one (.str []))),(5,.x (.one (.int .i64 0))),(6,.x (.one (.bool false))),(7,.x (.one (.int .i64 i)))]) (fun i=>tZ b a i) (fun i=>b.length-i) a (tZ.zero bj) ?_ ?_
 ·simp
 rintro i ah;obtain⟨aa,ab,au⟩:=id ah;have e1:b4 (bq b) (a:Int) (i:Int)=bq ((b.drop a).take (i-a)):=oE aa;by_cases ar:i<b.length
 ·have aS:((i:Int)<(b.length:Int))=True:=aY;have bC:=bc ((i:Int)+1);have R':=bc ((i:Int)+2);have iE:=R_ ar;have bF:∀h,(bq b)[i]'h=[.int .u8 b[i].toNat]:=fun h=>by simp[bq,ie]
  have DQ:b[i]=13\/b[i]=10->¬(b[i]=13/\(b.drop (i+1)).head?=some 10)->S=[]/\(M:Int)=(a:Int)/\B=false:=by intro ap aA;obtain⟨aE,aQ,bf⟩:=cl (ah.none (by rw[iE];unfold ha;rw[an aA,av ap]));exact⟨aE,by rw[aQ],bf⟩
  have lL:¬b[i]=13->¬b[i]=10->tZ b a (i+1):=fun bw bA=>ah.step ar bw bA;by_cases aX:i+1<b.length
  ·have wk:((i:Int)+1<(b.length:Int))=True:=aY;have HH:∀h,(bq b)[i+1]'h=[.int .u8 b[i+1].toNat]:=fun h=>by simp[bq,ie]
   have MN:(b.drop (i+1)).head?=some b[i+1]:=by rw[R_ aX];rfl
   simp[ar,aS,bC,R',aX,wk,bF,HH,e1,Zv,Zw];refine⟨fun c=>by first|omega|exact⟨c,by omega⟩,fun bw bA=>?_,fun c=>⟨fun d=>DQ d (by rw[MN];rintro⟨d1,d2⟩;exact c d1 (by simpa using d2)),fun bw bA=>bt.of (i+1) (lL bw bA) (by omega) ?_⟩⟩
   ·obtain⟨aE,aQ,bf⟩:=yr _ (ah.some (by rw[iE];unfold ha;rw[av ⟨bw,by rw[MN,bA]⟩]));refine⟨⟨aa,ab⟩,aE,?_,bf⟩;rw[aQ,e',eP,Nat.min_eq_left (by omega)];omega
   ·simp
  ·have wk:((i:Int)+1<(b.length:Int))=False:=a8;have MN:(b.drop (i+1)).head?=none:=by rw[nu (by omega)];rfl
   have aZ:b[i+1]?=none:=pW (by omega);simp[ar,aS,bC,wk,bF,aZ,Zv,Zw];exact⟨fun d=>DQ d (by rw[MN];rintro⟨_,d2⟩;cases d2),fun bw bA=>bt.of (i+1) (lL bw bA) (by omega) (by simp)⟩
 ·have aS:((i:Int)<(b.length:Int))=False:=a8;obtain⟨aE,aQ,bf⟩:=cl (ah.none (by rw[nu (by omega)];rfl));simp[aS,aE,aQ,bf]
structure bh where
 b:aq
 at_:Nat
 kind:Int
 id:aq
 of:aq
 time:Int
 key:aq
 aT:List Head
 length:Int
 ee:aq
def nc(l:List Head):ag:=if l=[]then .nil else .list 2 (l.map Head.row)
@[simp]def zGZ(l:List Head):(nc l).isAny=false:=by unfold nc;split<;>rfl
def bh.cells(x:bh):List ag:=[b5 x.b,.int .i64 x.at_,.int .i64 x.kind,.str x.id,.str x.of,.int .i64 x.time,.str x.key,nc x.aT,.nil,.int .i64 x.length,.str x.ee]
def bh.ok(x:bh):Prop:=x.b.length<=16777216/\x.at_<=x.b.length
def dw:aq:=[58,32]
def oF{b:aq}{a:Nat}(h:a<=b.length):eE b a<=b.length:=by
 unfold eE;split
 ·rename_i l e;have:=(R9 e).2;simp at this;omega
 ·exact h
def Sa(b:aq)(a:Nat):(fj b a).length<=b.length:=by
 unfold fj;cases e:ha (b.drop a)with
 |none=>simp
 |some l=>have:=(R9 e).2;simp at this⊢;omega
def w3(x:bh)(w:aq):Bool:=eO x.b x.at_&&decide (fj x.b x.at_=w)
def qt(x:bh)(w:aq):bh:=if w3 x w=true then {x with at_:=eE x.b x.at_} else x
def zly(x:bh)(w:aq)(ai:x.ok):cx prog 215 [.box x.cells,.x (.one (.str w))] (.x (.one (.bool (w3 x w)))) [.box (qt x w).cells,.dead]:=by
 have k:=I1 x.b x.at_ ai.1 ai.2;obtain⟨X,i7⟩:∃X,X=qt x w:=⟨_,rfl⟩
 obtain⟨B,ca⟩:∃B,B=w3 x w:=⟨_,rfl⟩
 rw[<-i7,<-ca];unfold qt at i7;rw[<-ca]at i7;unfold w3 at ca;generalize fj x.b x.at_=S at k ca;generalize eE x.b x.at_=N at k i7;generalize eO x.b x.at_=L at k ca;unfold bh.cells at*;refine cx.bd f215 mixed fun aD=>?_;simp;refine aH.of k ?_;cases L
 ·simp only[h7]at ca;subst ca;rw[an (by decide)]at i7;subst i7;simp
 ·by_cases bS:S=w
  ·have Zx:(S==w)=true:=by simpa using bS
   simp only[ig,gw bS]at ca;subst ca;rw[av rfl]at i7;subst i7;simp[bS]
  ·simp only[ig,iI bS]at ca;subst ca;rw[an (by decide)]at i7;subst i7;simp[bS]
def nR(x:bh)(w:aq):Bool:=e9 (x.b.drop x.at_) (w++dw)
def zlz(x:bh)(w:aq)(ai:x.ok)(M:Nat)(j5:M=min x.b.length (x.at_+w.length+2)):e9 ((x.b.drop x.at_).take (M-x.at_)) (w++dw)=nR x w:=by
 unfold nR e9;rw[mm,tX,tX];constructor
 ·exact fun h=>h.trans (List.take_prefix _ _)
 ·intro h;rw[List.prefix_take_iff];refine⟨h,?_⟩;have:=h.length_le;simp[dw]at this⊢;omega
def Zy(x:bh)(w:aq)(ai:x.ok)(hw:w.length<=100):cx prog 217 [.box x.cells,.x (.one (.str w))] (.x (.one (.bool (nR x w)))) [.box x.cells,.dead]:=by
 obtain⟨M,j5⟩:∃M,M=min x.b.length (x.at_+w.length+2):=⟨_,rfl⟩
 have k:=RO ((x.b.drop x.at_).take (M-x.at_)) (w++dw);have e:e9 ((x.b.drop x.at_).take (M-x.at_)) (w++dw)=nR x w:=by
  have ab:=ai.2;unfold nR e9;rw[mm,tX,tX];constructor
  ·exact fun h=>h.trans (List.take_prefix _ _)
  ·intro h;rw[List.prefix_take_iff];refine⟨h,?_⟩;have:=h.length_le;simp[dw]at this⊢;omega
 rw[e]at k;generalize nR x w=B at k;have ab:=ai.2;have aa:=ai.1;have iZ:=bc ((x.at_:Int)+(w.length:Int));have qd:=bc ((x.at_:Int)+(w.length:Int)+2);have wW:min (x.b.length:Int) ((x.at_:Int)+(w.length:Int)+2)=(M:Int):=by omega
 have e1:b4 (bq x.b) (x.at_:Int) (M:Int)=bq ((x.b.drop x.at_).take (M-x.at_)):=oE (by omega);unfold bh.cells at*;refine cx.bd f217 mixed fun aD=>?_;simp[iZ,qd,wW,e1];refine⟨by omega,by unfold maxLen;omega,aH.of k ?_⟩;simp
def zlA(s p:aq):az prog 233 [.one (.str s),.one (.str p)] (.b2 [.one (.str (if e9 s p=true then s.drop p.length else s)),.one (.bool (e9 s p))]):=by
 refine az.bd f233 mixed fun aD=>?_;simp;refine aH.of (Y8 s p) ?_;cases h:e9 s p
 ·simp
 ·have al:p.length<=s.length:=(tX.1 h).length_le;have g1:((p.length:Int)<=(s.length:Int))=True:=aY;simp[g1]
def Zz(s p:aq):az prog 171 [.one (.str s),.one (.str p)] (.b2 [.one (.str (if e9 s p=true then s.drop p.length else s)),.one (.bool (e9 s p))]):=by refine az.bd f171 mixed fun aD=>?_;simp;refine aH.of (zlA s p) ?_;simp
def ZA(s:aq)(cs:List ag)(off:Nat)(h:off<cs.length)(bv:so ((cs.drop off).take 1)=false)(b:Nat):cx prog 214 [.x (.one (.str s)),.et 2 off,.cR b cs] (.x (.one (.bool true))) [.dead,.dead,.cR b (cZ cs off [.str s])]:=by refine cx.of mixed (fn:=f214) (by kernel_rfl) (by kernel_rfl) rfl (by kernel_rfl) (by kernel_rfl) (by simp[hh,eB]) (by simp[f214]) (fun aD=>?_);simp[bv];exact h
def zlB(s:aq)(x:bh)(b:Nat):cx prog 218 [.x (.one (.str s)),.et 2 0,.cR b x.cells] (.x (.one (.bool (decide (s≠[]))))) [.dead,.dead,.cR b {x with of:=s}.cells]:=by
 unfold bh.cells;refine cx.of mixed (fn:=f218) (by kernel_rfl) (by kernel_rfl) rfl (by kernel_rfl) (by kernel_rfl) (by simp[hh,eB]) (by simp[f218]) (fun aD=>?_);cases s with
 |nil=>simp
 |cons c r=>simp
def hQ:List (aq):=[[105,110,102,111],[114,101,113,117,101,115,116],[97,110,115,119,101,114],[114,101,118,105,115,105,116],[112,105,101,99,101]]
def Sb:az prog 220 [] (.x (strs hQ)):=by refine az.bd f220 mixed fun aD=>?_;simp[hQ]
def CD(x:bh)(w:aq)(F:aq->Bool):Bool:=eO x.b x.at_&&(e9 (fj x.b x.at_) (w++dw)&&F ((fj x.b x.at_).drop (w.length+2)))
def oG(x:bh)(w:aq)(F:aq->Bool)(G:aq->bh):bh:=
 if eO x.b x.at_=true/\e9 (fj x.b x.at_) (w++dw)=true then
  (if F ((fj x.b x.at_).drop (w.length+2))=true then {G ((fj x.b x.at_).drop (w.length+2))with at_:=eE x.b x.at_} else G ((fj x.b x.at_).drop (w.length+2)))
 else x
def CE(x:bh)(w:aq)(g off:Nat)(F:aq->Bool)(G:aq->bh)(ai:x.ok)(hw:w.length<=100)
  (ay:∀s,s.length<=x.b.length->∀b,cx prog g [.x (.one (.str s)),.et 2 off,.cR b x.cells] (.x (.one (.bool (F s)))) [.dead,.dead,.cR b (G s).cells]) :
  cx prog 216 [.box x.cells,.x (.one (.str w)),.df g [.inr (0,off+1000000)]] (.x (.one (.bool (CD x w F)))) [.box (oG x w F G).cells,.dead,.dead]:=by
 have k:=I1 x.b x.at_ ai.1 ai.2;have aQ:=Zz (fj x.b x.at_) (w++dw);have dO:=ay ((fj x.b x.at_).drop (w.length+2)) (by have:=Sa x.b x.at_;simp;omega);have cX:(w++dw).length=w.length+2:=by simp[dw]
 rw[cX]at aQ;obtain⟨X,i7⟩:∃X,X=oG x w F G:=⟨_,rfl⟩
 obtain⟨B,ca⟩:∃B,B=CD x w F:=⟨_,rfl⟩
 rw[<-i7,<-ca];unfold oG at i7;unfold CD at ca;generalize fj x.b x.at_=S at k aQ dO ca i7;generalize eE x.b x.at_=N at k i7;generalize eO x.b x.at_=L at k ca i7;generalize e9 S (w++dw)=H at aQ ca i7;unfold dw at aQ;refine cx.bd f216 mixed fun aD=>?_;unfold bh.cells at dO⊢;simp;refine aH.of k ?_;simp;refine⟨by unfold maxLen;omega,aH.of aQ ?_⟩;cases L
 ·rw[an (by simp)]at i7;simp only[h7]at ca;subst i7;subst ca;simp
 ·cases H
  ·rw[an (by simp)]at i7;simp only[h7,kJ]at ca;subst i7;subst ca;simp
  ·rw[av (by simp)]at i7;simp only[ig]at ca;simp;refine LJ.of (outs:=[.dead,.dead]) dO ?_;generalize G (S.drop (w.length+2))=Y at i7⊢;cases a6:F (S.drop (w.length+2))<;>rw[a6]at i7 ca<;>subst ca
   ·rw[an (by decide)]at i7;subst i7;simp
   ·rw[av rfl]at i7;subst i7;simp
def fw(k:Nat)(s:aq):Bool:=s.all da&&(decide (1<=s.length)&&(decide (s.length<=k)&&!I0 s))
def Sc(k:Nat)(b:UInt8)(r:aq):fw k (b::r)=((b::r).all da&&(decide (r.length+1<=k)&&(decide (b≠48) ||decide (r=[])))):=by
 unfold fw I0;rw[hz,List.head?_cons];have aa:decide (1<=r.length+1)=true:=by simp
 rw[aa,ig];congr 2;cases r with
 |nil=>simp
 |cons x y=>simp
def MO(k:Nat)(ak:k<=100000)(s:aq):az prog 172 [.one (.str s),.one (.int .i64 k)] (.x (.one (.bool (fw k s)))):=by
 refine az.bd f172 mixed fun aD=>?_;cases s with
 |nil=>simp;refine ya ?_;simp;rfl
 |cons b r=>
  rw[Sc];by_cases al:r.length+1<=k
  ·have dK:((r.length:Int)+1<=(k:Int))=True:=aY;simp[dK];refine b_.of (fun _=>Cq (b::r) yq (by decide) (by decide)) rfl ?_;by_cases aA:(b::r).all da=true
   ·have bv:=(R7 (b::r)).2 aA;rw[aA];by_cases ad:b=48
    ·subst ad;simp[al,bv];cases r<;>simp
    ·have cm:((b.toNat:Int)=48)=False:=bz fun h=>ad (by rw[<-su];simp;omega);have am:(1<=(r.length:Int)+1)=True:=aY;simp[al,bv,ad,cm,am]
   ·have bv:¬Lib.trimS (b::r) yq=[]:=fun h=>aA ((R7 (b::r)).1 h);rw[zN.2 aA];simp[al,bv]
  ·have dK:((r.length:Int)+1<=(k:Int))=False:=a8;simp[dK];refine ya ?_;simp[al]
def Af{k:Nat}{s:aq}(h:fw k s=true):Lib.atoi s=some (bV s:Int)/\s.length<=k/\s.all da=true:=by simp only[fw,b7,hk]at h;exact⟨by rw[Mo h.1 (by rintro rfl;simp at h)],h.2.2.1,h.1⟩
def lT(s:aq):Nat:=match hQ.findIdx? (·==s)with
 |some i=>i+1
 |none=>0
def zlC(s:aq)(x:bh)(b:Nat):cx prog 219 [.x (.one (.str s)),.et 2 0,.cR b x.cells] (.x (.one (.bool (decide (0<lT s))))) [.dead,.dead,.cR b {x with kind:=lT s}.cells]:=by
 have k:az prog 129 [strs hQ,.one (.str s)] (.x (.one (.int .i64 ((lT s:Int)-1)))):=by
  have k:=R8 hQ s;unfold lT;cases h:hQ.findIdx? (·==s)with
  |none=>rw[h]at k;exact k
  |some i=>rw[h]at k;simpa using k
 have ad:lT s<=5:=by
  unfold lT;cases h:hQ.findIdx? (·==s)with
  |none=>simp
  |some i=>have:=(kT.1 h).1;simp[hQ]at this⊢;omega
 generalize lT s=K at*;have hw:i64.wrap ((K:Int)-1+1)=(K:Int):=by rw[bc _];omega
 unfold bh.cells;refine cx.of mixed (fn:=f219) (by kernel_rfl) (by kernel_rfl) rfl (by kernel_rfl) (by kernel_rfl) (by simp[hh,eB]) (by simp[f219]) (fun aD=>?_);simp;refine m_.l ⟨by kernel_rfl,?_⟩;simp;refine aH.of Sb ?_;simp;refine aH.of k ?_;simp;have CF:i64.wrap (K:Int)=(K:Int):=bc _;rw[CF];exact⟨by omega,rfl⟩
def zlD(nS:aq->Int)(nT:aq->Bool)(hM:∀s,az prog 43 [.one (.str s)] (.b2 [.one (.int .i64 (nS s)),.one (.int .i64 (if nT s=true then 0 else 10))]))(s:aq)(x:bh)(b:Nat) :
  cx prog 221 [.x (.one (.str s)),.et 2 0,.cR b x.cells] (.x (.one (.bool (nT s)))) [.dead,.dead,.cR b {x with time:=nS s}.cells]:=by
 have k:=hM s;generalize nS s=T at*;generalize nT s=O at*;unfold bh.cells;refine cx.of mixed (fn:=f221) (by kernel_rfl) (by kernel_rfl) rfl (by kernel_rfl) (by kernel_rfl) (by simp[hh,eB]) (by simp[f221]) (fun aD=>?_);simp;refine aH.of k ?_;cases O
 ·simp
 ·simp
def zlE(s:aq)(x:bh)(b:Nat):cx prog 223 [.x (.one (.str s)),.et 2 0,.cR b x.cells] (.x (.one (.bool (fw 9 s)))) [.dead,.dead,.cR b (if fw 9 s=true then {x with length:=bV s} else x).cells]:=by
 have k:=MO 9 (by omega) s;unfold bh.cells;refine cx.of mixed (fn:=f223) (by kernel_rfl) (by kernel_rfl) rfl (by kernel_rfl) (by kernel_rfl) (by simp[hh,eB]) (by simp[f223]) (fun aD=>?_);simp;refine aH.of k ?_;cases h:fw 9 s
 ·simp
 ·obtain⟨aa,ab,_⟩:=Af h;have aQ:=wV s _ (by omega) aa;simp;refine m_.l ⟨by kernel_rfl,?_⟩;simp;refine aH.of aQ ?_;simp
def zlF(s:aq):az prog 225 [.one (.str s)] (.x (.one (.bool (nO s)))):=by
 have e:=Mg s yg;simp only[YG]at e;have k:=Cq s yg (by decide) (by decide);refine az.bd f225 mixed fun aD=>?_;unfold nO;by_cases h:s.length=16
 ·have bx:((s.length:Int)==16)=true:=by rw[h];rfl
  simp[h];refine b_.of (fun _=>k) rfl ?_;by_cases cp:Lib.trimS s yg=[]
  ·rw[cp,e.1 cp];simp[h]
  ·have aw:s.all qm=false:=by
    cases ad:s.all qm with
    |true=>exact absurd (e.2 ad) cp
    |false=>rfl
   rw[aw];simp[h,cp]
 ·have bx:((s.length:Int)==16)=false:=by simp;omega
  simp[bx];refine ya ?_;simp[h]
def zlG(s:aq)(x:bh)(b:Nat):cx prog 224 [.x (.one (.str s)),.et 2 0,.cR b x.cells] (.x (.one (.bool (nO s)))) [.dead,.dead,.cR b {x with ee:=s}.cells]:=by have k:=zlF s;unfold bh.cells;refine cx.of mixed (fn:=f224) (by kernel_rfl) (by kernel_rfl) rfl (by kernel_rfl) (by kernel_rfl) (by simp[hh,eB]) (by simp[f224]) (fun aD=>?_);simp;refine aH.of k ?_;simp
def Sd:BR prog 213 214:=by refine BR.of mixed (fn:=f213) (t:=2) (by kernel_rfl) rfl rfl (by kernel_rfl) (by simp[f213]) rfl (fun v=>?_);simp;exact⟨.inr rfl,1,by simp,by simp⟩
def rz:aq:=[75,69,80,84,47,49]
def CG:aq:=[105,100]
def iJ:aq:=[111,102]
def ir:aq:=[107,105,110,100]
def j9:aq:=[100,97,116,101]
def CH:aq:=[107,101,121]
def dS:aq:=[108,101,110,103,116,104]
def lf:aq:=[100,105,103,101,115,116]
def eF(r:Bool×bh)(f:bh->Bool×bh):Bool×bh:=match r with
 |(true,x)=>f x
 |(false,x)=>(false,x)
attribute[simp]eF.eq_1 eF.eq_2
def lg(w:aq)(x:bh):Bool×bh:=(w3 x w,qt x w)
def jL(w:aq)(F:aq->Bool)(G:bh->aq->bh)(x:bh):Bool×bh:=(CD x w F,oG x w F (G x))
def Fz:bh->Bool×bh:=jL CG (fun _=>true) fun x s=>{x with id:=s}
def ys(x:bh):Bool×bh:=if nR x iJ=true then jL iJ (fun s=>decide (s≠[])) (fun x s=>{x with of:=s}) x else (true,x)
def yt:bh->Bool×bh:=jL ir (fun s=>decide (0<lT s)) fun x s=>{x with kind:=lT s}
def CI(nS:aq->Int)(nT:aq->Bool):bh->Bool×bh:=jL j9 nT fun x s=>{x with time:=nS s}
def CJ:bh->Bool×bh:=jL CH (fun _=>true) fun x s=>{x with key:=s}
def CK:bh->Bool×bh:=jL dS (fw 9) fun x s=>if fw 9 s=true then {x with length:=bV s} else x
def CL:bh->Bool×bh:=jL lf nO fun x s=>{x with ee:=s}
def MP{x:bh}(h:x.ok)(w:aq):(lg w x).2.ok:=by
 show (qt x w).ok;unfold qt;split
 ·exact⟨h.1,oF h.2⟩
 ·exact h
def qu{x:bh}(h:x.ok)(w:aq)(F:aq->Bool)(G:bh->aq->bh)(dN:∀s,(G x s).b=x.b/\(G x s).at_=x.at_):(jL w F G x).2.ok:=by
 show (oG x w F (G x)).ok;unfold oG;split
 ·obtain⟨g1,g2⟩:=dN ((fj x.b x.at_).drop (w.length+2));split
  ·exact⟨by simp only[g1];exact h.1,by simp only[g1];exact oF h.2⟩
  ·exact⟨by rw[g1];exact h.1,by rw[g1,g2];exact h.2⟩
 ·exact h
@[simp]def zHa(x:bh):so x.cells=false:=by simp[bh.cells,so]
def ZB(x:bh)(w:aq):(lg w x).2.aT=x.aT:=by show (qt x w).aT=_;unfold qt;split<;>rfl
def vu(x:bh)(w:aq)(F:aq->Bool)(G:bh->aq->bh)(dN:∀s,(G x s).aT=x.aT):(jL w F G x).2.aT=x.aT:=by
 show (oG x w F (G x)).aT=_;unfold oG;split
 ·split
  ·exact dN _
  ·exact dN _
 ·rfl
def bh.j_(x:bh):Prop:=x.ok/\x.aT=[]
def oH(nS:aq->Int)(nT:aq->Bool)(af:bh->Bool×bh)(x:bh):Bool×bh:=
 eF (lg rz x) fun x=>eF (Fz x) fun x=>eF (ys x) fun x=>eF (yt x) fun x=>eF (CI nS nT x) fun x=>eF (CJ x) fun x=>eF (af x) fun x=>eF (CK x) fun x=>eF (CL x) fun x=>lg [] x
def zlH(nS:aq->Int)(nT:aq->Bool)(hM:∀s,az prog 43 [.one (.str s)] (.b2 [.one (.int .i64 (nS s)),.one (.int .i64 (if nT s=true then 0 else 10))]))
  (af:bh->Bool×bh)(tU:∀x:bh,x.j_->cx prog 222 [.box x.cells] (.x (.one (.bool (af x).1))) [.box (af x).2.cells]/\(af x).2.ok)(x:bh)(ai:x.j_) :
  cx prog 160 [.box x.cells] (.x (.one (.bool (oH nS nT af x).1))) [.box (oH nS nT af x).2.cells]:=by
 have kw:∀(w:aq) (y:bh),y.ok->cx prog 215 [.box y.cells,.x (.one (.str w))] (.x (.one (.bool (lg w y).1))) [.box (lg w y).2.cells,.dead]:=fun w y aU=>zly y w aU;have zlI:∀(y:bh),y.j_->cx prog 216 [.box y.cells,.x (.one (.str CG)),.df 214 [.inr (0,3+1000000)]] (.x (.one (.bool (Fz y).1))) [.box (Fz y).2.cells,.dead,.dead]:=fun y aU=>CE y CG _ 3 _ _ aU.1 (by decide) (fun s _ b=>ZA s y.cells 3 (by simp[bh.cells]) (by simp[bh.cells]) b);have ZC:∀(y:bh),y.j_->cx prog 216 [.box y.cells,.x (.one (.str CH)),.df 214 [.inr (0,6+1000000)]] (.x (.one (.bool (CJ y).1))) [.box (CJ y).2.cells,.dead,.dead]:=fun y aU=>CE y CH _ 6 _ _ aU.1 (by decide) (fun s _ b=>ZA s y.cells 6 (by simp[bh.cells]) (by simp[bh.cells]) b);have zlJ:∀(y:bh),y.j_->cx prog 216 [.box y.cells,.x (.one (.str iJ)),.df 218 [.inr (0,0+1000000)]] (.x (.one (.bool (jL iJ (fun s=>decide (s≠[])) (fun x s=>{x with of:=s}) y).1))) [.box (jL iJ (fun s=>decide (s≠[])) (fun x s=>{x with of:=s}) y).2.cells,.dead,.dead]:=fun y aU=>CE y iJ _ 0 _ _ aU.1 (by decide) (fun s _ b=>zlB s y b);have ZD:∀(y:bh),y.j_->cx prog 216 [.box y.cells,.x (.one (.str ir)),.df 219 [.inr (0,0+1000000)]] (.x (.one (.bool (yt y).1))) [.box (yt y).2.cells,.dead,.dead]:=fun y aU=>CE y ir _ 0 _ _ aU.1 (by decide) (fun s _ b=>zlC s y b);have ZE:∀(y:bh),y.j_->cx prog 216 [.box y.cells,.x (.one (.str j9)),.df 221 [.inr (0,0+1000000)]] (.x (.one (.bool (CI nS nT y).1))) [.box (CI nS nT y).2.cells,.dead,.dead]:=fun y aU=>CE y j9 _ 0 _ _ aU.1 (by decide) (fun s _ b=>zlD nS nT hM s y b);have ZF:∀(y:bh),y.ok->cx prog 216 [.box y.cells,.x (.one (.str dS)),.df 223 [.inr (0,0+1000000)]] (.x (.one (.bool (CK y).1))) [.box (CK y).2.cells,.dead,.dead]:=fun y aU=>CE y dS _ 0 _ _ aU (by decide) (fun s _ b=>zlE s y b);have ZG:∀(y:bh),y.ok->cx prog 216 [.box y.cells,.x (.one (.str lf)),.df 224 [.inr (0,0+1000000)]] (.x (.one (.bool (CL y).1))) [.box (CL y).2.cells,.dead,.dead]:=fun y aU=>CE y lf _ 0 _ _ aU (by decide) (fun s _ b=>zlG s y b);have zlK:=fun (y:bh) (aU:y.j_)=>Zy y iJ aU.1 (by decide);have zlL:∀(w:aq) (y:bh),y.j_->(lg w y).2.j_:=fun w y aU=>⟨MP aU.1 w,by rw[ZB];exact aU.2⟩
 have j_:∀(w:aq) (y:bh),y.ok->(lg w y).2.ok:=fun w y aU=>MP aU w;have zlM:∀y:bh,y.j_->(Fz y).2.j_:=fun y aU=>⟨qu aU.1 _ _ _ fun s=>⟨rfl,rfl⟩,(vu y _ _ _ fun s=>rfl).trans aU.2⟩
 have zlN:∀y:bh,y.j_->(jL iJ (fun s=>decide (s≠[])) (fun x s=>{x with of:=s}) y).2.j_:=fun y aU=>⟨qu aU.1 _ _ _ fun s=>⟨rfl,rfl⟩,(vu y _ _ _ fun s=>rfl).trans aU.2⟩
 have ZH:∀y:bh,y.j_->(yt y).2.j_:=fun y aU=>⟨qu aU.1 _ _ _ fun s=>⟨rfl,rfl⟩,(vu y _ _ _ fun s=>rfl).trans aU.2⟩
 have ZI:∀y:bh,y.j_->(CI nS nT y).2.j_:=fun y aU=>⟨qu aU.1 _ _ _ fun s=>⟨rfl,rfl⟩,(vu y _ _ _ fun s=>rfl).trans aU.2⟩
 have ZJ:∀y:bh,y.j_->(CJ y).2.j_:=fun y aU=>⟨qu aU.1 _ _ _ fun s=>⟨rfl,rfl⟩,(vu y _ _ _ fun s=>rfl).trans aU.2⟩
 have ZK:∀y:bh,y.ok->(CK y).2.ok:=fun y aU=>qu aU _ _ _ fun s=>by split<;>exact⟨rfl,rfl⟩
 have ZL:∀y:bh,y.ok->(CL y).2.ok:=fun y aU=>qu aU _ _ _ fun s=>⟨rfl,rfl⟩
 unfold rz CG iJ ir j9 CH dS lf at*;obtain⟨R,aC⟩:∃R,R=oH nS nT af x:=⟨_,rfl⟩
 rw[<-aC];unfold oH ys at aC;unfold rz iJ at aC;refine @cx.of _ (wH [(2,[1,0,1,1,1,1,1,1,1,1,2,0,1,1]),(6,[1,1,0,1,1,1,0,1,1,1,1,1,1,1,1,2,0,1,1,1,0,1,1,1,1,0,1,1,1,1,0,1,1,1,0,1,1])]) _ _ _ _ _ _ mixed (fn:=f160) (by kernel_rfl) (by kernel_rfl) rfl (by kernel_rfl) (by kernel_rfl) rfl (by simp[f160]) (fun aD=>?_);simp;have bw:=kw [75,69,80,84,47,49] x ai.1;have gN:=zlL [75,69,80,84,47,49] x ai;generalize lg [75,69,80,84,47,49] x=iy at bw gN aC;obtain⟨zlO,cH⟩:=iy;dsimp only at bw gN;refine c6.of bw ?_;cases zlO
 ·rw[eF.eq_2]at aC;subst aC;simp
 rw[eF.eq_1]at aC;simp;have bA:=zlI cH gN;have e0:=zlM cH gN;generalize Fz cH=mL at bA e0 aC;obtain⟨zlP,dl⟩:=mL;dsimp only at bA e0;refine Cg.of Sd ?_;simp;refine c6.of bA ?_;cases zlP
 ·rw[eF.eq_2]at aC;subst aC;simp
 rw[eF.eq_1]at aC;simp;have cJ:=zlK dl e0;generalize nR dl [111,102]=I at cJ aC;refine c6.of cJ ?_;cases I
 ·rw[an (by decide),eF.eq_1]at aC;simp;have fv:=ZD dl e0;have sG:=ZH dl e0;generalize yt dl=Se at fv sG aC;obtain⟨Sf,pm⟩:=Se;dsimp only at fv sG;refine c6.of fv ?_;cases Sf
  ·rw[eF.eq_2]at aC;subst aC;simp
  rw[eF.eq_1]at aC;simp;have lh:=ZE pm sG;have vv:=ZI pm sG;generalize CI nS nT pm=Sg at lh vv aC;obtain⟨Sh,CM⟩:=Sg;dsimp only at lh vv;refine c6.of lh ?_;cases Sh
  ·rw[eF.eq_2]at aC;subst aC;simp
  rw[eF.eq_1]at aC;simp;have qr:=ZC CM vv;have yu:=ZJ CM vv;generalize CJ CM=Si at qr yu aC;obtain⟨Sj,I2⟩:=Si;dsimp only at qr yu;refine Cg.of Sd ?_;simp;refine c6.of qr ?_;cases Sj
  ·rw[eF.eq_2]at aC;subst aC;simp
  rw[eF.eq_1]at aC;simp;obtain⟨CN,sH⟩:=tU I2 yu;generalize af I2=Sk at CN sH aC;obtain⟨Sl,CO⟩:=Sk;dsimp only at CN sH;refine c6.of CN ?_;cases Sl
  ·rw[eF.eq_2]at aC;subst aC;simp
  rw[eF.eq_1]at aC;simp;have CP:=ZF CO sH;have sI:=ZK CO sH;generalize CK CO=Sm at CP sI aC;obtain⟨Sn,CQ⟩:=Sm;dsimp only at CP sI;refine c6.of CP ?_;cases Sn
  ·rw[eF.eq_2]at aC;subst aC;simp
  rw[eF.eq_1]at aC;simp;have CR:=ZG CQ sI;have sJ:=ZL CQ sI;generalize CL CQ=So at CR sJ aC;obtain⟨Sp,CS⟩:=So;dsimp only at CR sJ;refine c6.of CR ?_;cases Sp
  ·rw[eF.eq_2]at aC;subst aC;simp
  rw[eF.eq_1]at aC;simp;have sK:=kw [] CS sJ;have I3:=j_ [] CS sJ;generalize lg [] CS=Sq at sK I3 aC;obtain⟨zlQ,zlR⟩:=Sq;dsimp only at sK I3;refine c6.of sK ?_;subst aC;simp
 ·rw[av rfl]at aC;simp;have cJ:=zlJ dl e0;have CT:=zlN dl e0;generalize jL [111,102] (fun s=>decide (s≠[])) (fun x s=>{x with of:=s}) dl=zlS at cJ CT aC;obtain⟨zlT,ox⟩:=zlS;dsimp only at cJ CT;refine c6.of cJ ?_;cases zlT
  ·rw[eF.eq_2]at aC;subst aC;simp
  rw[eF.eq_1]at aC;simp;have fv:=ZD ox CT;have sG:=ZH ox CT;generalize yt ox=Se at fv sG aC;obtain⟨Sf,pm⟩:=Se;dsimp only at fv sG;refine c6.of fv ?_;cases Sf
  ·rw[eF.eq_2]at aC;subst aC;simp
  rw[eF.eq_1]at aC;simp;have lh:=ZE pm sG;have vv:=ZI pm sG;generalize CI nS nT pm=Sg at lh vv aC;obtain⟨Sh,CM⟩:=Sg;dsimp only at lh vv;refine c6.of lh ?_;cases Sh
  ·rw[eF.eq_2]at aC;subst aC;simp
  rw[eF.eq_1]at aC;simp;have qr:=ZC CM vv;have yu:=ZJ CM vv;generalize CJ CM=Si at qr yu aC;obtain⟨Sj,I2⟩:=Si;dsimp only at qr yu;refine Cg.of Sd ?_;simp;refine c6.of qr ?_;cases Sj
  ·rw[eF.eq_2]at aC;subst aC;simp
  rw[eF.eq_1]at aC;simp;obtain⟨CN,sH⟩:=tU I2 yu;generalize af I2=Sk at CN sH aC;obtain⟨Sl,CO⟩:=Sk;dsimp only at CN sH;refine c6.of CN ?_;cases Sl
  ·rw[eF.eq_2]at aC;subst aC;simp
  rw[eF.eq_1]at aC;simp;have CP:=ZF CO sH;have sI:=ZK CO sH;generalize CK CO=Sm at CP sI aC;obtain⟨Sn,CQ⟩:=Sm;dsimp only at CP sI;refine c6.of CP ?_;cases Sn
  ·rw[eF.eq_2]at aC;subst aC;simp
  rw[eF.eq_1]at aC;simp;have CR:=ZG CQ sI;have sJ:=ZL CQ sI;generalize CL CQ=So at CR sJ aC;obtain⟨Sp,CS⟩:=So;dsimp only at CR sJ;refine c6.of CR ?_;cases Sp
  ·rw[eF.eq_2]at aC;subst aC;simp
  rw[eF.eq_1]at aC;simp;have sK:=kw [] CS sJ;have I3:=j_ [] CS sJ;generalize lg [] CS=Sq at sK I3 aC;obtain⟨zlQ,zlR⟩:=Sq;dsimp only at sK I3;refine c6.of sK ?_;subst aC;simp
end
def zlg:Go.Shelf.Ren:=⟨kn [(145,146),(217,176),(219,253),(220,204),(224,201),(225,210),(266,237),(267,268),(314,279)],kn [(3,3),(4,4),(5,5),(9,9),(46,209),(51,258),(59,194),(146,259)],kn [(1,0)]⟩
def zlh:Go.Proofs.Lays.n145 prog zlg where
 mixed:=by kernel_rfl
 f145:=b1 func146
 f217:=b1 func176
 f219:=b1 func253
 f220:=b1 func204
 f224:=b1 func201
 f225:=b1 func210
 f266:=b1 func237
 f267:=b1 func268
 f314:=b1 func279
 t3:=underlying3
 a3:=isAgg3
 z3:=sizeOf3
 v3:=zeroValue3
 t4:=underlying4
 a4:=isAgg4
 z4:=sizeOf4
 v4:=zeroValue4
 t5:=underlying5
 a5:=isAgg5
 z5:=sizeOf5
 v5:=zeroValue5
 t9:=underlying9
 a9:=isAgg9
 z9:=sizeOf9
 v9:=zeroValue9
 t46:=underlying209
 a46:=isAgg209
 z46:=sizeOf209
 v46:=zeroValue209
 t51:=underlying258
 a51:=isAgg258
 z51:=sizeOf258
 v51:=zeroValue258
 t59:=underlying194
 a59:=isAgg194
 z59:=sizeOf194
 v59:=zeroValue194
 t146:=underlying259
 a146:=isAgg259
 z146:=sizeOf259
 v146:=zeroValue259
 g1:=by kernel_rfl
section
class c1[bn](g:Nat):Prop where
 int:∀w,bn.holds w->∃m,w.cell? ⟨g,0,none⟩=some (.int .i64 m)
variable [bn][c1 0]
def E9{f:FuncId}{args:List aG}{r:bH}(vs:List aI)(ap:tv prog f)(bj:zT args=some vs)(ad:∀v,r.ij v=none)
  (h:(∀x∈args,x.ok)->∀w,bn.holds w->Calls prog f vs.toArray w fun e w'=>∃v,e=.returned v/\RowKit.Below w.heap.size w w'/\∀S,iT w' S r v):az prog f args r:=by
 refine⟨ap,fun w S us bS gF=>?_⟩;have e:us=vs.toArray:=by have:=L7 (us:=us.toList) (by rw[l4];exact gF.1) (fun j x ac=>by simpa using gF.2 j x ac) bj;rw[<-this]
 have aD:=Rg gF;subst e;refine(h aD w bS.xi).mono ?_;rintro e w' ⟨v,rfl,r2,ao⟩;exact⟨v,rfl,r2,ao _,fun b ew=>by rw[ad]at ew;cases ew⟩
def Sr(s:aq)(hs:s.length<=16777216):az prog 146 [.one (.str s),.one (.str dw)] (.b2 [.one (.str (Lib.cut s dw).1),.one (.str (Lib.cut s dw).2.1),.one (.bool (Lib.cut s dw).2.2)]):=by
 refine E9 [.string ⟨s.toArray⟩,.string ⟨dw.toArray⟩] (rf f146 (by kernel_rfl) (by kernel_rfl) rfl) rfl (fun _=>rfl) (fun _ w hw=>?_);obtain⟨m,hm⟩:=c1.int (g:=0) w hw;refine(Any.strings_Cut zlh ⟨s.toArray⟩ ⟨dw.toArray⟩ m w (by simp only[ByteArray.size,n3];omega) hm).mono ?_;rintro e w' ⟨rfl,n,rfl⟩;have aa:(Lib.cut s dw).1.length<=maxLen/\(Lib.cut s dw).2.1.length<=maxLen:=by unfold Lib.cut;split<;>(unfold maxLen;simp;try omega)
 refine⟨_,rfl,⟨rfl,rfl,rfl,f_ _,fun k _=>rfl⟩,fun S=>⟨_,rfl,rfl,fun j x ac=>?_⟩⟩
 match j,ac with
 |0,ac=>cases ac;exact⟨_,rfl,bD.str _ aa.1⟩
 |1,ac=>cases ac;exact⟨_,rfl,bD.str _ aa.2⟩
 |2,ac=>cases ac;exact⟨_,rfl,bD.bool _⟩
 |j+3,ac=>simp at ac
def zlU(s:aq)(c:UInt8):az prog 252 [.one (.str s),.one (.str [c])] (.x (.one (.int .i64 (if c∈s then ((ed c s).length:Int)else -1)))):=by refine az.bd f252 mixed fun aD=>?_;simp;refine aH.of (ZM s c) ?_;simp
def zlV(s:aq)(c:UInt8):az prog 256 [.one (.str s),.one (.str [c])] (.x (.one (.bool (decide (c∈s))))):=by
 refine az.bd f256 mixed fun aD=>?_;simp;refine aH.of (zlU s c) ?_;by_cases h:c∈s
 ·simp[h]
 ·simp[h]
def nU(s:aq):Option Head:=if (Lib.cut s dw).2.2=true/\(Lib.cut s dw).1≠[]/\58∉(Lib.cut s dw).1 then some ⟨(Lib.cut s dw).1,(Lib.cut s dw).2.1⟩else none
def headD(s:aq):Head:=(nU s).getD ⟨[],[]⟩
def ZN(s:aq)(hs:s.length<=16777216):az prog 234 [.one (.str s)] (.b2 [.agg (headD s).row,.one (.bool (nU s).isSome)]):=by
 have k:=Sr s hs;have aQ:=zlV (Lib.cut s dw).1 58;unfold headD nU;generalize Lib.cut s dw=T at*;obtain⟨n,v,b⟩:=T;dsimp only at*;unfold dw at k;refine az.bd f234 mixed fun aD=>?_;simp;refine aH.of k ?_;cases b
 ·simp;refine e7 false ?_;simp[Head.row]
 ·cases n with
  |nil=>simp;refine e7 false ?_;simp[Head.row]
  |cons c r=>
   simp;refine b_.of (fun _=>aQ) rfl ?_;by_cases h:(58:UInt8)∈c::r
   ·have aA:decide ((58:UInt8)∈c::r)=true:=by simpa using h
    rw[aA,an (by simp[h])];simp[Head.row]
   ·have aA:decide ((58:UInt8)∈c::r)=false:=by simpa using h
    rw[aA,av ⟨rfl,by simp,h⟩];simp[Head.row]
def kp:Nat->bh->Bool×bh
 |0,x=>(false,x)
 |n+1,x=>if nR x dS=true then (true,x)else if eO x.b x.at_=true/\(nU (fj x.b x.at_)).isSome=true then kp n {x with aT:=x.aT++[headD (fj x.b x.at_)],at_:=eE x.b x.at_} else (false,x)
def h8(x:bh):Bool×bh:=kp (x.b.length+1) x
def Ag{b:aq}{a:Nat}(h:eO b a=true):a<eE b a:=by
 unfold eO at h;unfold eE;cases e:ha (b.drop a)with
 |none=>rw[e]at h;cases h
 |some l=>simp only;omega
def ZO:∀(n m:Nat) (y:bh),y.ok->y.b.length<n+y.at_->y.b.length<m+y.at_->kp n y=kp m y
 |0,_,y,h,aa,_=>by have:=h.2;omega
 |_+1,0,y,h,_,ab=>by have:=h.2;omega
 |n+1,m+1,y,h,aa,ab=>by
  unfold kp;split
  ·rfl
  ·split
   ·rename_i ap;have ay:=Ag ap.1;exact ZO n m _ ⟨h.1,oF h.2⟩ (by simp only;omega) (by simp only;omega)
   ·rfl
def Ss:∀(n:Nat) (y:bh),y.ok->(kp n y).2.ok
 |0,y,h=>h
 |n+1,y,h=>by
  unfold kp;split
  ·exact h
  ·split
   ·exact Ss n _ ⟨h.1,oF h.2⟩
   ·exact h
def ZP{y:bh}(h:y.ok):h8 y=if nR y dS=true then (true,y)else if eO y.b y.at_=true/\(nU (fj y.b y.at_)).isSome=true then h8 {y with aT:=y.aT++[headD (fj y.b y.at_)],at_:=eE y.b y.at_} else (false,y):=by
 conv=>lhs;unfold h8 kp
 split
 ·rfl
 ·split
  ·rename_i ap;have ay:=Ag ap.1;exact ZO _ _ _ ⟨h.1,oF h.2⟩ (by simp only;omega) (by simp only;omega)
  ·rfl
def zlW(x:bh)(w:aq)(ai:x.ok)(hw:w.length<=100):az prog 217 [.one (.ref x.cells),.one (.str w)] (.x (.one (.bool (nR x w)))):=by
 obtain⟨M,j5⟩:∃M,M=min x.b.length (x.at_+w.length+2):=⟨_,rfl⟩
 have k:=RO ((x.b.drop x.at_).take (M-x.at_)) (w++dw);rw[zlz x w ai M j5]at k;generalize nR x w=B at k;have ab:=ai.2;have aa:=ai.1;have iZ:=bc ((x.at_:Int)+(w.length:Int));have qd:=bc ((x.at_:Int)+(w.length:Int)+2);have wW:min (x.b.length:Int) ((x.at_:Int)+(w.length:Int)+2)=(M:Int):=by omega
 have e1:b4 (bq x.b) (x.at_:Int) (M:Int)=bq ((x.b.drop x.at_).take (M-x.at_)):=oE (by omega);unfold bh.cells at*;refine az.bd f217 mixed fun aD=>?_;simp[iZ,qd,wW,e1];refine⟨by omega,by unfold maxLen;omega,aH.of k ?_⟩;simp
def St(y:bh):List (Nat×ae):=match y.aT with
 |[]=>[(0,.box [b5 y.b,.int .i64 y.at_,.int .i64 y.kind,.str y.id,.str y.of,.int .i64 y.time,.str y.key,.nil,.nil,.int .i64 y.length,.str y.ee]),(999999,.res [(0,7)])]
 |h::r=>[(0,.box [b5 y.b,.int .i64 y.at_,.int .i64 y.kind,.str y.id,.str y.of,.int .i64 y.time,.str y.key,.any,.nil,.int .i64 y.length,.str y.ee]),(44,.own 153 2 ((h::r).map Head.row)),(1000007,.link 0 7 44),(999999,.res [(0,7)])]
def zlX(x:bh)(ai:x.j_):cx prog 222 [.box x.cells] (.x (.one (.bool (h8 x).1))) [.box (h8 x).2.cells]:=by
 obtain⟨R,aC⟩:∃R,R=h8 x:=⟨_,rfl⟩
 rw[<-aC];obtain⟨Qe,HV⟩:=R;dsimp only;have ap:x.cells=[b5 x.b,.int .i64 x.at_,.int .i64 x.kind,.str x.id,.str x.of,.int .i64 x.time,.str x.key,.nil,.nil,.int .i64 x.length,.str x.ee]:=by unfold bh.cells nc;rw[av ai.2]
 rw[ap];refine @cx.E2 _ (wH [(6,[6,6,1,1,1,1,1,1,1,4,6,1,1,1,5,1,1,0])]) [(0,7)] [(0,7)] _ _ _ _ _ _ (by simp) mixed (fn:=f222) (by kernel_rfl) (by kernel_rfl) rfl (by kernel_rfl) (by kernel_rfl) rfl (by simp[f222]) (fun aD=>?_);simp;refine ck.of bh St (fun y=>(y.ok/\y.aT.length<=y.at_)/\(Qe,HV)=h8 y) (fun y=>y.b.length-y.at_) x ⟨⟨ai.1,by rw[ai.2];simp⟩,aC⟩ ?_ ?_
 ·unfold St;rw[ai.2];simp
 rintro y ⟨⟨aU,zlY⟩,af⟩;rw[ZP aU]at af;have aE:=Zy y dS aU (by decide);have I4:=zlW y dS aU (by decide);have aQ:=I1 y.b y.at_ aU.1 aU.2;have bf:=ZN (fj y.b y.at_) (by have:=Sa y.b y.at_;have:=aU.1;omega);have I5:=Ag (b:=y.b) (a:=y.at_);have aD:∀l:List Head,({y with aT:=l,at_:=eE y.b y.at_}:bh).ok:=fun l=>⟨aU.1,oF aU.2⟩
 have cG:=oF aU.2;unfold dS at aE I4 af;unfold bh.cells at aE I4;generalize nR y [108,101,110,103,116,104]=I at af aE I4;generalize fj y.b y.at_=S at*;generalize eE y.b y.at_=N at*;generalize eO y.b y.at_=L at*;have a_:(headD S).row=[.str (headD S).name,.str (headD S).value]:=rfl;generalize headD S=H at*;generalize (nU S).isSome=Q at*;unfold St;cases bo:y.aT with
 |nil=>
  dsimp only;have uQ:nc y.aT=.nil:=by rw[bo];rfl
  rw[uQ]at aE;simp;refine c6.of aE ?_;cases I
  ·rw[an (by decide)]at af;simp;refine aH.of aQ ?_;simp;refine aH.of bf ?_;cases L
   ·rw[an (by simp)]at af;obtain⟨rfl,rfl⟩:=CU af;simp[a_];unfold bh.cells;rw[uQ]
   ·cases Q
    ·rw[an (by simp)]at af;obtain⟨rfl,rfl⟩:=CU af;simp[a_];unfold bh.cells;rw[uQ]
    ·rw[av ⟨rfl,rfl⟩]at af;simp[cU,a_];exact bt.of {y with aT:=y.aT++[H],at_:=N} ⟨⟨aD _,by have:=I5 rfl;simp only[bo,List.nil_append,qN];omega⟩,af⟩ (by have:=I5 rfl;have:=aU.2;simp only;omega) (by simp[bo,Head.row])
  ·rw[av rfl]at af;obtain⟨rfl,rfl⟩:=CU af;simp;unfold bh.cells;rw[uQ]
 |cons h r=>
  dsimp only;have uQ:nc y.aT=.list 2 ((h::r).map Head.row):=by rw[bo];rfl
  rw[uQ]at I4;simp;refine aH.of I4 ?_;cases I
  ·rw[an (by decide)]at af;simp;refine aH.of aQ ?_;simp;refine aH.of bf ?_;cases L
   ·rw[an (by simp)]at af;obtain⟨rfl,rfl⟩:=CU af;simp[a_];unfold bh.cells;rw[uQ];rfl
   ·cases Q
    ·rw[an (by simp)]at af;obtain⟨rfl,rfl⟩:=CU af;simp[a_];unfold bh.cells;rw[uQ];rfl
    ·rw[av ⟨rfl,rfl⟩]at af;simp[cU,a_];have cX:y.aT.length=r.length+1:=by rw[bo];rfl
     have vm:=aU.1;have zHb:=aU.2;refine⟨⟨by omega,by unfold maxLen;omega⟩,?_⟩;exact bt.of {y with aT:=y.aT++[H],at_:=N} ⟨⟨aD _,by have:=I5 rfl;simp only[eG,qN];omega⟩,af⟩ (by have:=I5 rfl;simp only;omega) (by simp[bo,Head.row])
  ·rw[av rfl]at af;obtain⟨rfl,rfl⟩:=CU af;simp;unfold bh.cells;rw[uQ];rfl
end
section
variable [bn]
def yw(n:Int)(c:UInt8):Int:=u64.wrap (xk .xor .u64 n c.toNat*1099511628211)
def oM(b:aq):Int:=b.foldl yw 14695981039346656037
def Sz(b:aq)(c:UInt8):oM (b++[c])=yw (oM b) c:=by simp[oM]
def zmp(n:Int)(c:UInt8):0<=yw n c/\yw n c<18446744073709551616:=by unfold yw;generalize xk .xor .u64 n c.toNat*1099511628211=z;simp only[IntKind.wrap,IntKind.signed,IntKind.bits];simp only[h7,pP,hy];omega
def ZX(b:aq):0<=oM b/\oM b<18446744073709551616:=by
 rcases List.eq_nil_or_concat b with rfl|⟨r,c,rfl⟩
 ·decide
 ·rw[List.concat_eq_append,Sz];exact zmp _ _
def ZY(c:UInt8):u64.wrap (c.toNat:Int)=(c.toNat:Int):=by have:=c.toNat_lt;simp only[IntKind.wrap,IntKind.signed,IntKind.bits];simp only[h7,pP,hy];omega
def zmq(b:aq)(ad:b.length<=4611686018427387904):az prog 227 [.one (b5 b)] (.x (.one (.int .u64 (oM b)))):=by
 refine az.bd f227 mixed fun aD=>?_;simp;have af:=e8 b;refine ck.of Nat (fun i=>[(0,.x (.one (b5 b))),(3,.x (.one (.int .u64 (oM (b.take i))))),(6,.x (.one (.int .i64 b.length))),(7,.x (.one (.int .i64 i)))]) (fun i=>i<=b.length) (fun i=>b.length-i) 0 (cj _) ?_ ?_
 ·simp[oM]
 intro i ah;by_cases ar:i<b.length
 ·have aS:((i:Int)<(b.length:Int))=True:=aY;have bC:=bc ((i:Int)+1);have bF:∀h,(bq b)[i]'h=ie b[i]:=fun h=>by rw[IE]
  have cu:oM (b.take (i+1))=yw (oM (b.take i)) b[i]:=by rw[k6 ar,Sz]
  have HX:=ZY b[i];simp[ar,aS,af,bF,HX];refine bt.of (i+1) ar (by omega) ?_;simp[cu,bC,yw]
 ·have aS:((i:Int)<(b.length:Int))=False:=a8;have e_:i=b.length:=by omega
  subst e_;simp[aS]
def Ah(n:Int):UInt8:=([48,49,50,51,52,53,54,55,56,57,97,98,99,100,101,102]:aq).getD n.toNat 0
def kU:Nat->Int->aq
 |0,_=>[]
 |k+1,n=>Ah (n/16^k%16)::kU k n
def MR(k:Nat)(n:Int):(kU k n).length=k:=by
 induction k with
 |zero=>rfl
 |succ k ba=>simp[kU,ba]
def zmr(m:Int)(a1:0<=m)(aa:m<18446744073709551616):xk .and .u64 m 15=m%16:=by
 obtain⟨M,rfl⟩:∃M:Nat,m=M:=⟨m.toNat,by omega⟩
 have fK:M<2^64:=by omega
 have e:(BitVec.ofInt 64 (M:Int) &&& BitVec.ofInt 64 15).toNat=M%16:=by
  have aK:(BitVec.ofInt 64 (15:Int)).toNat=2^4-1:=by decide
  rw[BitVec.toNat_and,aK,BitVec.ofInt_natCast,BitVec.toNat_ofNat,GZ fK,Nat.and_two_pow_sub_one_eq_mod]
 show u64.wrap ((BitVec.ofInt 64 (M:Int) &&& BitVec.ofInt 64 15).toNat:Int)=_;rw[e];have:=Nat.mod_lt M (show 16 > 0 by decide);simp only[IntKind.wrap,IntKind.signed,IntKind.bits,h7,pP,hy];omega
def zms(n:Int)(a1:0<=n)(i:Nat):0<=n/16^i/\n/16^i<=n/\n/16^(i+1)=(n/16^i)/16:=by have am:(0:Int)<16^i:=Int.pow_pos (by decide);refine⟨Int.ediv_nonneg a1 (by omega),Int.ediv_le_self _ a1,?_⟩;rw[Int.pow_succ,Int.ediv_ediv,an (by omega)];omega
def zmt(n:Int)(a1:0<=n)(aa:n<18446744073709551616):az prog 226 [.one (.int .u64 n)] (.x (.one (.str (kU 16 n)))):=by
 refine az.bd f226 mixed fun aD=>?_;simp;refine ck.of Nat (fun i=>[(0,.x (.one (.int .u64 (n/16^i)))),(3,.own 5 1 (bq (List.replicate (16-i) 0++kU i n))),(7,.x (.one (.int .i64 16))),(8,.x (.one (.int .i64 i)))]) (fun i=>i<=16) (fun i=>16-i) 0 (cj _) ?_ ?_
 ·simp[kU,bq,ie]
 intro i ah;by_cases ar:i<16
 ·have aS:((i:Int)<16)=True:=aY;have bC:=bc ((i:Int)+1);have R':i64.wrap (15-(i:Int))=((15-i:Nat):Int):=by rw[show (15:Int)-i=((15-i:Nat):Int) by omega];exact bc _
  obtain⟨d0,d1,d2⟩:=zms n a1 i;have hand:=zmr (n/16^i) d0 (by omega);have al:=MR i n;obtain⟨D,j6⟩:∃D,D=n/16^i%16:=⟨_,rfl⟩
  have IZ:(0<=D)=True:=aY;have R6:(D<16)=True:=aY;have cu:kU (i+1) n=Ah D::kU i n:=by rw[j6];rfl
  rw[<-j6]at hand;have gB:(bq (List.replicate (16-i) 0++kU i n)).length=16:=by simp[bq,al];omega
  have DF:15-i<16:=by omega
  have zmu:(((15-i:Nat):Int)<16)=True:=aY;have zmv:D.toNat<16:=by omega
  obtain⟨C,hZ⟩:∃C,C=Ah D:=⟨_,rfl⟩
  have en:([48,49,50,51,52,53,54,55,56,57,97,98,99,100,101,102]:aq)[D.toNat]?=some C:=by rw[hZ];unfold Ah;rw[lF,cr (by simpa using zmv)];rfl
  have zmw:∀h,([48,49,50,51,52,53,54,55,56,57,97,98,99,100,101,102]:aq)[D.toNat]'h=C:=fun h=>by have:=cr h;rw[this]at en;injection en
  have qb:bq (List.replicate (15-i) 0++C::kU i n)=(bq (List.replicate (16-i) 0++kU i n)).set (15-i) (ie C):=by rw[LZ];congr 1;rw[show 16-i=(15-i)+1 by omega,List.replicate_succ',pG,List.set_append_right _ _ (by simp)];simp
  have bF:∀h,(bq (List.replicate (16-i) 0++kU i n))[15-i]'h=ie ((List.replicate (16-i) 0++kU i n)[15-i]'(by simpa[bq]using h)):=fun h=>by rw[IE]
  have th:(n/16^i).fdiv 16=n/16^(i+1):=by rw[d2,RT _ (by decide)]
  simp[aS,R',hand,IZ,R6,gB,DF,zmu,bF,zmw,ie];refine bt.of (i+1) ar (by omega) ?_;rw[<-hZ]at cu;simp[cu,bC,qb,ie,IntKind.bits,th,show 16-(i+1)=15-i by omega]
 ·have aS:((i:Int)<16)=False:=a8;have e_:i=16:=by omega
  subst e_;have zO:=vj (kU 16 n);have uJ:=vi (kU 16 n);have al:=MR 16 n;have gB:(bq (kU 16 n)).length=16:=by simp[bq,al]
  simp[zO,uJ]
def sL(b:aq):aq:=kU 16 (oM b)
def ZZ(b:aq):(sL b).length=16:=MR _ _
def SA(b:aq)(ad:b.length<=4611686018427387904):az prog 162 [.one (b5 b)] (.x (.one (.str (sL b)))):=by refine az.bd f162 mixed fun aD=>?_;simp;refine aH.of (zmq b ad) ?_;obtain⟨a1,aa⟩:=ZX b;simp;refine aH.of (zmt _ a1 aa) ?_;simp[sL]
def zmx(l:aq)(ad:l.length<=16777216):az prog 161 [.one (b5 l)] (.x (.one (b5 l))):=by
 cases l with
 |nil=>
  refine az.Rj (pre:=[]) (post:=[]) ?_ ?_
  ·refine az.bd f161 mixed fun aD=>?_;simp +contextual[-Bool.and_eq_false_imp,bq]
  ·refine az.bd f161 mixed fun aD=>?_;simp +contextual[-Bool.and_eq_false_imp,bq]
 |cons x r=>refine az.bd f161 mixed fun aD=>?_;simp +contextual[-Bool.and_eq_false_imp,bq,ie];simp at ad;unfold maxLen;omega
def gJ(w v:aq):aq:=w++[58,32]++v++[13,10]
def FD(w v:aq):(gJ w v).length=w.length+v.length+4:=by simp[gJ];omega
def zmy(w v:aq)(xs:List (List ag))(h:xs.length+(w.length+v.length+4)<=1099511627776):xH prog 229 [.x (.one (.str w)),.x (.one (.str v)),.box [.any]] [(5,1,xs)] [(2,0)] (.b2 []) [.dead,.dead,.box [.any]] [(5,1,xs++bq (gJ w v))]:=by
 refine xH.of [(2,0)] (by simp) mixed (fn:=f229) (by kernel_rfl) (by kernel_rfl) rfl (by kernel_rfl) (by kernel_rfl) rfl (by simp[f229]) rfl rfl (fun _=>rfl) (fun g aD=>?_);have hw:gJ w v=w++58::32::(v++[13,10]):=by simp[gJ]
 simp[cU,hw];unfold maxLen;omega
def rA(acc w v pQ:aq)(e:pQ=acc++gJ w v)(h:pQ.length<=1099511627776):xH prog 229 [.x (.one (.str w)),.x (.one (.str v)),.box [.any]] [(5,1,bq acc)] [(2,0)] (.b2 []) [.dead,.dead,.box [.any]] [(5,1,bq pQ)]:=by
 have al:pQ.length=acc.length+(w.length+v.length+4):=by rw[e,eG,FD]
 have k:=zmy w v (bq acc) (by rw[e8];omega);have:bq acc++bq (gJ w v)=bq pQ:=by rw[e];simp[bq]
 rw[this]at k;exact k
end
section
variable [bn][cF prog]
structure Rec where
 kind:Int
 id:aq
 of:aq
 time:Int
 key:aq
 aT:List Head
 block:aq
def Rec.row(r:Rec):List ag:=[.int .i64 r.kind,.str r.id,.str r.of,.int .i64 r.time,.str r.key,.list 2 (r.aT.map Head.row),b5 r.block]
def FE:aq:=[75,69,80,84,47,49,13,10]
def fO(l:List Head):aq:=l.flatMap fun h=>gJ h.name h.value
def nd(k:Int):aq:=hQ.getD (k-1).toNat []
def pz(r:Rec):aq:=FE++gJ [105,100] r.id
def nV(r:Rec):aq:=if r.of=[]then pz r else pz r++gJ [111,102] r.of
def oN(r:Rec):aq:=nV r++gJ [107,105,110,100] (nd r.kind)
def nW(r:Rec):aq:=oN r++gJ [100,97,116,101] (hl r.time)
def iK(r:Rec):aq:=nW r++gJ [107,101,121] r.key
def kV(r:Rec):aq:=iK r++fO r.aT
def oO(r:Rec):aq:=kV r++gJ [108,101,110,103,116,104] (zY r.block.length)
def nX(r:Rec):aq:=oO r++gJ [100,105,103,101,115,116] (sL r.block)
def mv(r:Rec):aq:=nX r++([13,10]++(r.block++[13,10,13,10]))
def Rec.fits(r:Rec):Prop:=1<=r.kind/\r.kind<=5/\fM r.time=true/\(mv r).length<=1099511627776
def SB:∀l:List Head,l.length<=(fO l).length
 |[]=>f_ _
 |h::r=>by have:=SB r;unfold fO at this⊢;simp only[List.flatMap_cons,eG,hz,FD];omega
def MS(a b:aq):bq a++bq b=bq (a++b):=by simp[bq]
def zmz(r:Rec)(ao:r.fits):az prog 164 [.one .nil,.agg r.row] (.own 5 1 (bq (mv r))):=by
 obtain⟨w4,YZ,hm,cX⟩:=ao;have zmA:(nX r).length+r.block.length+6<=1099511627776:=by unfold mv at cX;simp at cX;omega
 have zmB:(oO r).length<=(nX r).length:=by unfold nX;simp
 have zX:(kV r).length<=(oO r).length:=by unfold oO;simp
 have sw:(iK r).length<=(kV r).length:=by unfold kV;simp
 have jI:(nW r).length<=(iK r).length:=by unfold iK;simp
 have i6:(oN r).length<=(nW r).length:=by unfold nW;simp
 have l2:(nV r).length<=(oN r).length:=by unfold oN;simp
 have eo:(pz r).length<=(nV r).length:=by unfold nV;split<;>simp
 refine @az.E2 _ (Lv [3,5,6,8,9,13,15,16] [(6,[1,1,1,1,1,1,1,0]),(17,[1,4,7,7,0,0])]) [(2,0)] [] _ _ _ _ _ (by simp) mixed (fn:=f164) (by kernel_rfl) (by kernel_rfl) rfl (by kernel_rfl) (by simp[f164]) (fun aD=>?_);unfold Rec.row;simp[cU];refine oA.of (rA FE [105,100] r.id (pz r) rfl (by omega)) ?_;intro g1;obtain⟨K,I8⟩:∃K:Nat,r.kind=(K:Int)+1:=⟨(r.kind-1).toNat,by omega⟩
 have zmC:K<5:=by omega
 have MT:i64.wrap (r.kind-1)=(K:Int):=by rw[I8,show (K:Int)+1-1=K by omega];exact bc _
 have Z0:((K:Int)<(hQ.length:Int))=True:=bW (by show (K:Int)<5;omega);have Z1:hQ[K]?=some (nd r.kind):=by unfold nd;rw[lF,I8,show ((K:Int)+1-1).toNat=K by omega,cr (show K<hQ.length from zmC)];rfl
 have zHm:r.aT.length<=1099511627776:=by
  have:=SB r.aT;have:(fO r.aT).length<=(kV r).length:=by unfold kV;simp
  omega
 have zw:=zmo r.time;rw[av hm,av hm]at zw;by_cases aB:r.of=[]
 ·have cd:oN r=pz r++gJ [107,105,110,100] (nd r.kind):=by unfold oN nV;rw[av aB]
  have FF:(r.of=[])=True:=bW aB;simp[cU,FF];refine aH.of Sb ?_;simp[cU,MT,Z0,Z1];refine oA.of (rA (pz r) [107,105,110,100] (nd r.kind) (oN r) cd (by omega)) ?_;intro g2;simp;refine aH.of zw ?_;simp[cU];refine oA.of (rA (oN r) [100,97,116,101] (hl r.time) (nW r) rfl (by omega)) ?_;intro g3;simp[cU];refine oA.of (rA (nW r) [107,101,121] r.key (iK r) rfl (by omega)) ?_;intro g4;simp;refine ck.of (Nat×aI) (fun x=>[(2,.box [.any]),(3,.box r.row),(5,.df 229 [.inr (2,0)]),(12,.db x.2 5 1 (bq (iK r++fO (r.aT.take x.1)))),(46,.x (.one (.list 2 (r.aT.map Head.row)))),(47,.x (.one (.int .i64 r.aT.length))),(48,.x (.one (.int .i64 x.1))),(999999,.res [(2,0)]),(1002000,.link 2 0 12)])
   (fun x=>x.1<=r.aT.length) (fun x=>r.aT.length-x.1) (0,g4 0) (cj _) ?_ ?_
  ·simp[fO,Rec.row]
  rintro⟨i,v⟩ ah;dsimp only at ah⊢;by_cases ar:i<r.aT.length
  ·have aS:((i:Int)<(r.aT.length:Int))=True:=aY;have bC:=bc ((i:Int)+1);have a_:∀h:Head,h.row=[.str h.name,.str h.value]:=fun _=>rfl;have cu:fO (r.aT.take (i+1))=fO (r.aT.take i)++gJ r.aT[i].name r.aT[i].value:=by
    unfold fO;rw[k6 ar,FG];simp
   have I9:(iK r++fO (r.aT.take (i+1))).length<=(kV r).length:=by
    unfold kV fO;have:(r.aT.take (i+1)).flatMap (fun h=>gJ h.name h.value) <+: r.aT.flatMap (fun h=>gJ h.name h.value):=by
     conv=>rhs;rw[<-Df (i+1) r.aT]
     rw[FG];exact List.prefix_append _ _
    have:=this.length_le;simp only[eG];omega
   unfold Rec.row;simp[cU,ar,aS,a_];refine oA.of (rA (iK r++fO (r.aT.take i)) r.aT[i].name r.aT[i].value (iK r++fO (r.aT.take (i+1))) (by rw[cu,pG]) (by omega)) ?_;intro g5;simp;refine bt.of (i+1,g5 0) ar (by simp only;omega) ?_;simp[bC]
  have aS:((i:Int)<(r.aT.length:Int))=False:=a8;have e_:i=r.aT.length:=by omega
  subst e_;have bU:=e8 r.block;have cp:iK r++fO (r.aT.take r.aT.length)=kV r:=by rw[pw];rfl
  have FH:=strconv_Itoa (r.block.length:Int) (by unfold ym;omega);rw[cp];unfold Rec.row;simp[aS];refine aH.of FH ?_;simp[cU];refine oA.of (rA (kV r) [108,101,110,103,116,104] (zY r.block.length) (oO r) rfl (by omega)) ?_;intro g6;simp;refine aH.of (SA r.block (by omega)) ?_;simp[cU];refine oA.of (rA (oO r) [100,105,103,101,115,116] (sL r.block) (nX r) rfl (by omega)) ?_;intro g7;have SC:(bq (nX r)).length=(nX r).length:=e8 _;simp[cU,bU,SC];exact⟨by omega,⟨by omega,by unfold maxLen;omega⟩,by omega,by simp[mv,bq]⟩
 ·have aK:nV r=pz r++gJ [111,102] r.of:=by unfold nV;rw[an aB]
  have FF:(r.of=[])=False:=bz aB;simp[cU,FF];refine oA.of (rA (pz r) [111,102] r.of (nV r) aK (by omega)) ?_;intro zHn;simp;refine aH.of Sb ?_;simp[cU,MT,Z0,Z1];refine oA.of (rA (nV r) [107,105,110,100] (nd r.kind) (oN r) rfl (by omega)) ?_;intro g2;simp;refine aH.of zw ?_;simp[cU];refine oA.of (rA (oN r) [100,97,116,101] (hl r.time) (nW r) rfl (by omega)) ?_;intro g3;simp[cU];refine oA.of (rA (nW r) [107,101,121] r.key (iK r) rfl (by omega)) ?_;intro g4;simp;refine ck.of (Nat×aI) (fun x=>[(2,.box [.any]),(3,.box r.row),(5,.df 229 [.inr (2,0)]),(12,.db x.2 5 1 (bq (iK r++fO (r.aT.take x.1)))),(46,.x (.one (.list 2 (r.aT.map Head.row)))),(47,.x (.one (.int .i64 r.aT.length))),(48,.x (.one (.int .i64 x.1))),(999999,.res [(2,0)]),(1002000,.link 2 0 12)])
   (fun x=>x.1<=r.aT.length) (fun x=>r.aT.length-x.1) (0,g4 0) (cj _) ?_ ?_
  ·simp[fO,Rec.row]
  rintro⟨i,v⟩ ah;dsimp only at ah⊢;by_cases ar:i<r.aT.length
  ·have aS:((i:Int)<(r.aT.length:Int))=True:=aY;have bC:=bc ((i:Int)+1);have a_:∀h:Head,h.row=[.str h.name,.str h.value]:=fun _=>rfl;have cu:fO (r.aT.take (i+1))=fO (r.aT.take i)++gJ r.aT[i].name r.aT[i].value:=by
    unfold fO;rw[k6 ar,FG];simp
   have I9:(iK r++fO (r.aT.take (i+1))).length<=(kV r).length:=by
    unfold kV fO;have:(r.aT.take (i+1)).flatMap (fun h=>gJ h.name h.value) <+: r.aT.flatMap (fun h=>gJ h.name h.value):=by
     conv=>rhs;rw[<-Df (i+1) r.aT]
     rw[FG];exact List.prefix_append _ _
    have:=this.length_le;simp only[eG];omega
   unfold Rec.row;simp[cU,ar,aS,a_];refine oA.of (rA (iK r++fO (r.aT.take i)) r.aT[i].name r.aT[i].value (iK r++fO (r.aT.take (i+1))) (by rw[cu,pG]) (by omega)) ?_;intro g5;simp;refine bt.of (i+1,g5 0) ar (by simp only;omega) ?_;simp[bC]
  have aS:((i:Int)<(r.aT.length:Int))=False:=a8;have e_:i=r.aT.length:=by omega
  subst e_;have bU:=e8 r.block;have cp:iK r++fO (r.aT.take r.aT.length)=kV r:=by rw[pw];rfl
  have FH:=strconv_Itoa (r.block.length:Int) (by unfold ym;omega);rw[cp];unfold Rec.row;simp[aS];refine aH.of FH ?_;simp[cU];refine oA.of (rA (kV r) [108,101,110,103,116,104] (zY r.block.length) (oO r) rfl (by omega)) ?_;intro g6;simp;refine aH.of (SA r.block (by omega)) ?_;simp[cU];refine oA.of (rA (oO r) [100,105,103,101,115,116] (sL r.block) (nX r) rfl (by omega)) ?_;intro g7;have SC:(bq (nX r)).length=(nX r).length:=e8 _;simp[cU,bU,SC];exact⟨by omega,⟨by omega,by unfold maxLen;omega⟩,by omega,by simp[mv,bq]⟩
def hb:List (aq):=[[105,100],[111,102],[107,105,110,100],[100,97,116,101],[107,101,121],[108,101,110,103,116,104],[100,105,103,101,115,116]]
def Z2:az prog 228 [] (.x (strs hb)):=by refine az.bd f228 mixed fun aD=>?_;simp[hb]
def sM(h:Head):Bool:=decide (eN h.name∈hb)
def hH(r:Rec):Int:=
 if r.kind<1\/5<r.kind then 4 else if kl r.id=false\/(r.of≠[]/\kl r.of=false)then 5 else if r.of=r.id\/(r.of=[]/\(r.kind=4\/r.kind=5))\/(r.of≠[]/\r.kind=1)then 12
 else if fM r.time=false then 1 else if j2 r.key=false then 3 else if 30<r.aT.length then 2 else if j8 r.aT≠0 then j8 r.aT else if r.aT.any sM=true then 12
 else if 200000<r.block.length then 2 else if r.kind=4/\r.block≠[]then 3 else 0
def MU(r:Rec):az prog 163 [.agg r.row] (.x (.one (.int .i64 (hH r)))):=by
 obtain⟨F,a7⟩:∃F,F=hH r:=⟨_,rfl⟩
 rw[<-a7];unfold hH at a7;have aE:=Mi r.id;have aQ:=Mi r.of;have bf:=E' r.time;have bM:=Md r.key;have dz:=R4 r.aT;have bU:=e8 r.block;have SD:∀h,sM h=decide (eN h.name∈hb):=fun _=>rfl;obtain⟨A,jM⟩:∃A,A=r.aT.any sM:=⟨_,rfl⟩
 have zv:∀i (h:i<r.aT.length),sM r.aT[i]=true->A=true:=fun i h ad=>by rw[jM,AP];exact⟨_,hS h,ad⟩
 have q3:(∀i (h:i<r.aT.length),sM r.aT[i]=false)->A=false:=fun h=>by rw[jM,y3];intro x ai;obtain⟨i,ah,rfl⟩:=GF ai;simp[h i ah]
 rw[<-jM]at a7;unfold Rec.row;generalize kl r.id=MV at aE a7;generalize kl r.of=Ai at aQ a7;generalize fM r.time=I_ at bf a7;generalize j2 r.key=I' at bM a7;generalize j8 r.aT=Ja at dz a7;clear jM;obtain⟨kind,id,of,time,key,aT,block⟩:=r;dsimp only at*;refine az.bd f163 mixed fun aD=>?_;by_cases aa:kind<1
 ·rw[av (.inl aa)]at a7;subst a7;have dd:(kind<1)=True:=bW aa;simp[dd]
 have dd:(kind<1)=False:=bz aa;by_cases ab:5<kind
 ·rw[av (.inr ab)]at a7;subst a7;have ny:(5<kind)=True:=bW ab;simp[dd,ny]
 have ny:(5<kind)=False:=bz ab;rw[an (by omega)]at a7;simp[dd,ny];refine aH.of aE ?_;cases MV
 ·rw[av (.inl rfl)]at a7;subst a7;simp;refine e7 false ?_;simp
 cases of with
 |nil=>
  rw[an (by simp)]at a7;simp;refine e7 false ?_;by_cases hid:id=[]
  ·rw[av (.inl hid.symm)]at a7;subst a7;have lU:(id=[])=True:=bW hid;simp[lU]
  have lU:(id=[])=False:=bz hid;by_cases qw:kind=4\/kind=5
  ·rw[av (.inr (.inl ⟨rfl,qw⟩))]at a7;subst a7;rcases qw with qw|qw
   ·have vw:(kind=4)=True:=bW qw;simp[lU,vw]
   ·have vw:(kind=4)=False:=a8;have sN:(kind=5)=True:=bW qw;simp[lU,vw,sN]
  have vw:(kind=4)=False:=a8;have sN:(kind=5)=False:=a8;rw[an (by rintro (h|⟨_,h⟩|⟨h,_⟩);exact hid h.symm;exact qw h;exact h rfl)]at a7;simp[lU,vw,sN];refine aH.of bf ?_;cases I_
  ·rw[av rfl]at a7;subst a7;simp
  rw[an (by decide)]at a7;simp;refine aH.of bM ?_;cases I'
  ·rw[av rfl]at a7;subst a7;simp
  rw[an (by decide)]at a7;by_cases vx:30<aT.length
  ·rw[av vx]at a7;subst a7;have qx:(30<(aT.length:Int))=True:=aY;simp[qx]
  rw[an vx]at a7;have qx:(30<(aT.length:Int))=False:=a8;simp[qx];refine aH.of dz ?_;by_cases m8:Ja=0
  ·rw[an (by simpa using m8)]at a7;subst m8;simp;refine ck.of Nat (fun i=>[(1,.box [.int .i64 kind,.str id,.str [],.int .i64 time,.str key,.list 2 (aT.map Head.row),b5 block]),(80,.x (.one (.list 2 (aT.map Head.row)))),(81,.x (.one (.int .i64 aT.length))),(82,.x (.one (.int .i64 i)))])
    (fun i=>i<=aT.length/\∀j (h:j<aT.length),j<i->sM aT[j]=false) (fun i=>aT.length-i) 0 ⟨cj _,fun j h bx=>by omega⟩ ?_ ?_
   ·simp
   rintro i ⟨ah,am⟩;by_cases ar:i<aT.length
   ·have aS:((i:Int)<(aT.length:Int))=True:=aY;have bC:=bc ((i:Int)+1);have a_:∀h:Head,h.row=[.str h.name,.str h.value]:=fun _=>rfl;simp[ar,aS,a_];refine aH.of Z2 ?_;simp;refine aH.of (IF aT[i].name) ?_;simp;have iV:=MM hb (eN aT[i].name);rw[<-SD]at iV;refine aH.of iV ?_;cases ap:sM aT[i]
    ·simp;refine bt.of (i+1) ⟨ar,fun j h ac=>?_⟩ (by omega) ?_
     ·rcases mH j i with bx|bx
      ·exact am j h bx
      ·obtain rfl:j=i:=by omega
       exact ap
     ·simp[bC]
    ·rw[av (zv i ar ap)]at a7;subst a7;simp
   have aS:((i:Int)<(aT.length:Int))=False:=a8;have c0:A=false:=q3 (fun j h=>am j h (by omega));rw[an (by rw[c0];decide)]at a7;by_cases bk:200000<block.length
   ·rw[av bk]at a7;subst a7;have jh:(200000<(block.length:Int))=True:=aY;simp[aS,bU,jh]
   rw[an bk]at a7;have jh:(200000<(block.length:Int))=False:=a8;by_cases ak:kind=4
   ·have dx:(kind=4)=True:=bW ak;by_cases eJ:block=[]
    ·rw[an (by simp[eJ])]at a7;subst a7;have qy:(block=[])=True:=bW eJ;simp[aS,bU,jh,dx,qy]
    ·rw[av ⟨ak,eJ⟩]at a7;subst a7;have qy:(block=[])=False:=bz eJ;simp[aS,bU,jh,dx,qy]
   ·rw[an (by rintro⟨h,_⟩;exact ak h)]at a7;subst a7;have dx:(kind=4)=False:=bz ak;simp[aS,bU,jh,dx]
  ·rw[av m8]at a7;subst a7;have CV:(F=0)=False:=bz m8;simp[CV]
 |cons yx ol=>
  simp;refine b_.of (fun _=>aQ) rfl ?_;cases Ai
  ·rw[av (.inr ⟨by simp,rfl⟩)]at a7;subst a7;simp
  rw[an (by simp)]at a7;by_cases hid:yx::ol=id
  ·rw[av (.inl hid)]at a7;subst a7;have lU:(yx::ol=id)=True:=bW hid;simp[lU]
  have lU:(yx::ol=id)=False:=bz hid;by_cases w4:kind=1
  ·rw[av (.inr (.inr ⟨by simp,w4⟩))]at a7;subst a7;have CW:(kind=1)=True:=bW w4;simp[lU,CW]
  have CW:(kind=1)=False:=bz w4;rw[an (by rintro (h|⟨h,_⟩|⟨_,h⟩);exact hid h;cases h;exact w4 h)]at a7;simp[lU,CW];refine aH.of bf ?_;cases I_
  ·rw[av rfl]at a7;subst a7;simp
  rw[an (by decide)]at a7;simp;refine aH.of bM ?_;cases I'
  ·rw[av rfl]at a7;subst a7;simp
  rw[an (by decide)]at a7;by_cases vx:30<aT.length
  ·rw[av vx]at a7;subst a7;have qx:(30<(aT.length:Int))=True:=aY;simp[qx]
  rw[an vx]at a7;have qx:(30<(aT.length:Int))=False:=a8;simp[qx];refine aH.of dz ?_;by_cases m8:Ja=0
  ·rw[an (by simpa using m8)]at a7;subst m8;simp;refine ck.of Nat (fun i=>[(1,.box [.int .i64 kind,.str id,.str (yx::ol),.int .i64 time,.str key,.list 2 (aT.map Head.row),b5 block]),(80,.x (.one (.list 2 (aT.map Head.row)))),(81,.x (.one (.int .i64 aT.length))),(82,.x (.one (.int .i64 i)))])
    (fun i=>i<=aT.length/\∀j (h:j<aT.length),j<i->sM aT[j]=false) (fun i=>aT.length-i) 0 ⟨cj _,fun j h bx=>by omega⟩ ?_ ?_
   ·simp
   rintro i ⟨ah,am⟩;by_cases ar:i<aT.length
   ·have aS:((i:Int)<(aT.length:Int))=True:=aY;have bC:=bc ((i:Int)+1);have a_:∀h:Head,h.row=[.str h.name,.str h.value]:=fun _=>rfl;simp[ar,aS,a_];refine aH.of Z2 ?_;simp;refine aH.of (IF aT[i].name) ?_;simp;have iV:=MM hb (eN aT[i].name);rw[<-SD]at iV;refine aH.of iV ?_;cases ap:sM aT[i]
    ·simp;refine bt.of (i+1) ⟨ar,fun j h ac=>?_⟩ (by omega) ?_
     ·rcases mH j i with bx|bx
      ·exact am j h bx
      ·obtain rfl:j=i:=by omega
       exact ap
     ·simp[bC]
    ·rw[av (zv i ar ap)]at a7;subst a7;simp
   have aS:((i:Int)<(aT.length:Int))=False:=a8;have c0:A=false:=q3 (fun j h=>am j h (by omega));rw[an (by rw[c0];decide)]at a7;by_cases bk:200000<block.length
   ·rw[av bk]at a7;subst a7;have jh:(200000<(block.length:Int))=True:=aY;simp[aS,bU,jh]
   rw[an bk]at a7;have jh:(200000<(block.length:Int))=False:=a8;by_cases ak:kind=4
   ·have dx:(kind=4)=True:=bW ak;by_cases eJ:block=[]
    ·rw[an (by simp[eJ])]at a7;subst a7;have qy:(block=[])=True:=bW eJ;simp[aS,bU,jh,dx,qy]
    ·rw[av ⟨ak,eJ⟩]at a7;subst a7;have qy:(block=[])=False:=bz eJ;simp[aS,bU,jh,dx,qy]
   ·rw[an (by rintro⟨h,_⟩;exact ak h)]at a7;subst a7;have dx:(kind=4)=False:=bz ak;simp[aS,bU,jh,dx]
  ·rw[av m8]at a7;subst a7;have CV:(F=0)=False:=bz m8;simp[CV]
end
section
variable [bn][c1 0][cF prog]
def fk(b:aq)(a:Nat):bh:=⟨b,a,0,[],[],0,[],[],0,[]⟩
def bh.nf(b:aq)(x:bh):Prop:=x.ok/\x.b=b/\0<=x.length/\x.length<1000000000
def yy{b:aq}{r:Bool×bh}{f:bh->Bool×bh}(h:r.2.nf b)(aw:∀x:bh,x.nf b->(f x).2.nf b):(eF r f).2.nf b:=by
 obtain⟨c,x⟩:=r;cases c
 ·exact h
 ·exact aw x h
def Z3{b:aq}(w:aq){x:bh}(h:x.nf b):(lg w x).2.nf b:=by
 have a1:=MP h.1 w;have:(lg w x).2.b=x.b/\(lg w x).2.length=x.length:=by show (qt x w).b=_/\(qt x w).length=_;unfold qt;split<;>exact⟨rfl,rfl⟩
 exact⟨a1,this.1.trans h.2.1,by rw[this.2];exact h.2.2.1,by rw[this.2];exact h.2.2.2⟩
def CX{b:aq}(w:aq)(F:aq->Bool)(G:bh->aq->bh){x:bh}(h:x.nf b)(dN:∀s,(G x s).b=x.b/\(G x s).at_=x.at_)
  (al:∀s,0<=(G x s).length/\(G x s).length<1000000000):(jL w F G x).2.nf b:=by
 have a1:=qu h.1 w F G dN;have:(jL w F G x).2.b=x.b/\0<=(jL w F G x).2.length/\(jL w F G x).2.length<1000000000:=by
  show (oG x w F (G x)).b=_/\0<=(oG x w F (G x)).length/\(oG x w F (G x)).length<_;unfold oG;split
  ·split
   ·exact⟨(dN _).1,al _⟩
   ·exact⟨(dN _).1,al _⟩
  ·exact⟨rfl,h.2.2⟩
 exact⟨a1,this.1.trans h.2.1,this.2⟩
def SE{b:aq}:∀(n:Nat) {y:bh},y.nf b->(kp n y).2.nf b
 |0,y,h=>h
 |n+1,y,h=>by
  unfold kp;split
  ·exact h
  ·split
   ·exact SE n ⟨⟨h.1.1,oF h.1.2⟩,h.2⟩
   ·exact h
def zmD{s:aq}(h:fw 9 s=true):bV s<1000000000:=by obtain⟨_,aa,ab⟩:=Af h;have:=qo s ab;have am:(10:Nat)^s.length<=10^9:=Cs (by decide) aa;omega
def Z4{b:aq}{x:bh}(h:x.nf b):(oH h9 hn h8 x).2.nf b:=by
 unfold oH;refine yy (Z3 _ h) fun x h=>yy (CX _ _ _ h (fun _=>⟨rfl,rfl⟩) (fun _=>h.2.2)) fun x h=>yy ?_ fun x h=>yy (CX _ _ _ h (fun _=>⟨rfl,rfl⟩) (fun _=>h.2.2)) fun x h=>
  yy (CX _ _ _ h (fun _=>⟨rfl,rfl⟩) (fun _=>h.2.2)) fun x h=>yy (CX _ _ _ h (fun _=>⟨rfl,rfl⟩) (fun _=>h.2.2)) fun x h=>yy (SE _ h) fun x h=>
  yy (CX _ _ _ h (fun s=>by split<;>exact⟨rfl,rfl⟩) (fun s=>?_)) fun x h=>yy (CX _ _ _ h (fun _=>⟨rfl,rfl⟩) (fun _=>h.2.2)) fun x h=>Z3 _ h
 ·unfold ys;split
  ·exact CX _ _ _ h (fun _=>⟨rfl,rfl⟩) (fun _=>h.2.2)
  ·exact h
 ·split
  ·rename_i aX;have:=zmD aX;exact⟨by simp,by simp only;omega⟩
  ·exact h.2.2
def fS:Rec:=⟨0,[],[],0,[],[],[]⟩
def bh.t_(x:bh)(k:aq):Rec:=⟨x.kind,x.id,x.of,x.time,x.key,x.aT,k⟩
def FI:aq:=[13,10,13,10]
def iL(b:aq)(a:Nat):Rec×Nat×Int:=
 let r:=oH h9 hn h8 (fk b a)
 if r.1=false then (fS,r.2.at_,10)
 else if b.length<r.2.at_+r.2.length.toNat+4 then (fS,b.length,10)
 else if (b.drop (r.2.at_+r.2.length.toNat)).take 4≠FI then (fS,r.2.at_+r.2.length.toNat,10)
 else if sL ((b.drop r.2.at_).take r.2.length.toNat)≠r.2.ee then (fS,r.2.at_,15)
 else if hH (r.2.t_ ((b.drop r.2.at_).take r.2.length.toNat))≠0 then (fS,a,hH (r.2.t_ ((b.drop r.2.at_).take r.2.length.toNat)))
 else (r.2.t_ ((b.drop r.2.at_).take r.2.length.toNat),r.2.at_+r.2.length.toNat+4,0)
def FJ(r:Rec×Nat×Int):bH:=.b2 [.agg r.1.row,.one (.int .i64 r.2.1),.one (.int .i64 r.2.2)]
def Z5(l:List Head):Q7 (nc l) (.list 2 (l.map Head.row)):=by
 unfold nc;split
 ·rename_i h;subst h;exact .inr ⟨rfl,2,rfl⟩
 ·exact .inl rfl
@[simp]def zHo(l:List Head):q4 (.list 2 (l.map Head.row)) (nc l)=True:=by
 unfold nc;split
 ·rename_i h;subst h;simp
 ·simp
def zmE(x:bh)(k:aq):az prog 163 [.agg [.int .i64 x.kind,.str x.id,.str x.of,.int .i64 x.time,.str x.key,nc x.aT,b5 k]] (.x (.one (.int .i64 (hH (x.t_ k))))):=
 az.Q8 (cs':=(x.t_ k).row) ⟨.inl rfl,.inl rfl,.inl rfl,.inl rfl,.inl rfl,Z5 _,.inl rfl,trivial⟩ (MU _)
def zmF(b:aq)(a:Nat)(ad:b.length<=16777216)(bj:a<=b.length):az prog 114 [.one (b5 b),.one (.int .i64 a)] (FJ (iL b a)):=by
 have Aj:(fk b a).j_:=⟨⟨ad,bj⟩,rfl⟩
 have aE:=zlH h9 hn ZW h8 (fun x ai=>⟨zlX x ai,Ss _ _ ai.1⟩) (fk b a) Aj;have ay:(oH h9 hn h8 (fk b a)).2.nf b:=Z4 ⟨Aj.1,rfl,by simp[fk],by simp[fk]⟩;obtain⟨R,aC⟩:∃R,R=iL b a:=⟨_,rfl⟩
 rw[<-aC];unfold iL at aC;have GR:(fk b a).cells=[b5 b,.int .i64 a,.int .i64 0,.str [],.str [],.int .i64 0,.str [],.nil,.nil,.int .i64 0,.str []]:=by simp[bh.cells,fk,nc]
 rw[GR]at aE;generalize oH h9 hn h8 (fk b a)=r at*;obtain⟨B,x⟩:=r;dsimp only at*;obtain⟨⟨_,GN⟩,oo,zmG,mJ⟩:=ay;obtain⟨L,Ak⟩:∃L:Nat,x.length=(L:Int):=⟨x.length.toNat,by omega⟩
 rw[Ak,kO]at aC;have bU:=e8 b;have iZ:=bc ((x.at_:Int)+(L:Int));have qd:=bc ((x.at_:Int)+(L:Int)+4);unfold FJ;refine az.bd f114 mixed fun aD=>?_;simp;refine c6.of aE ?_;unfold bh.cells;rw[Ak,oo];cases B
 ·rw[av rfl]at aC;subst aC;simp;refine m_.r ⟨[13],by kernel_rfl,?_⟩;simp[fS,Rec.row]
 rw[an (by decide)]at aC;by_cases aa:b.length<x.at_+L+4
 ·have dd:((b.length:Int)<(x.at_:Int)+(L:Int)+4)=True:=aY;rw[av aa]at aC;subst aC;simp[iZ,qd,dd,fS,Rec.row,bU]
 rw[an aa]at aC;have dd:((b.length:Int)<(x.at_:Int)+(L:Int)+4)=False:=a8;have e1:b4 (bq b) ((x.at_:Int)+(L:Int)) ((x.at_:Int)+(L:Int)+4)=bq ((b.drop (x.at_+L)).take 4):=by have:=oE (b:=b) (a:=x.at_+L) (i:=x.at_+L+4) (by omega);rw[show x.at_+L+4-(x.at_+L)=4 by omega]at this;exact_mod_cast this
 have sO:b4 (bq b) (x.at_:Int) ((x.at_:Int)+(L:Int))=bq ((b.drop x.at_).take L):=by have:=oE (b:=b) (a:=x.at_) (i:=x.at_+L) (by omega);rw[show x.at_+L-x.at_=L by omega]at this;exact_mod_cast this
 have g1:(0<=(x.at_:Int)+(L:Int))=True:=aY;have g2:((x.at_:Int)+(L:Int)+4<=(b.length:Int))=True:=aY;have g3:((x.at_:Int)+(L:Int)<=(x.at_:Int)+(L:Int)+4)=True:=aY;have g4:((x.at_:Int)+(L:Int)<=(b.length:Int))=True:=aY;have g5:((x.at_:Int)<=(x.at_:Int)+(L:Int))=True:=aY;generalize cp:(b.drop (x.at_+L)).take 4=T at*;by_cases ab:T=FI
 ·rw[an (by simpa using ab)]at aC;subst ab;have aQ:=zmx ((b.drop x.at_).take L) (by simp;omega);have bf:=SA ((b.drop x.at_).take L) (by simp;omega);have bM:=zmE x ((b.drop x.at_).take L);generalize (b.drop x.at_).take L=W at*;unfold FI at e1;have jC:=vi [13,10,13,10];have gD:=vj [13,10,13,10];simp[iZ,qd,dd,bU,e1,sO,g1,g2,g3,g4,g5,jC,gD];refine aH.of aQ ?_;simp;refine aH.of bf ?_;by_cases au:sL W=x.ee
  ·rw[an (by simpa using au)]at aC;simp[au];refine aH.of bM ?_;generalize hH (x.t_ W)=F at*;by_cases aN:F=0
   ·rw[an (by simpa using aN)]at aC;subst aC;subst aN;simp[bh.t_,Rec.row,qd]
   ·rw[av aN]at aC;subst aC;simp[aN,fS,Rec.row]
  ·rw[av au]at aC;subst aC;simp[au];refine m_.r ⟨[13],by kernel_rfl,?_⟩;simp[fS,Rec.row]
 ·rw[av ab]at aC;subst aC;have jC:=vi T;have gD:=vj T;unfold FI at ab;simp[iZ,qd,dd,bU,e1,g1,g2,g3,jC,gD,ab,fS,Rec.row]
end
section
variable [bn]
def z7:∀a:aq,dD a a=false
 |[]=>rfl
 |a::x=>by have ba:=z7 x;unfold dD at ba⊢;simp[Op.bytesLess,ba]
def Fm:∀{a b c:aq},dD a b=true->dD b c=true->dD a c=true
 |a,b,[],_,ab=>by unfold dD at ab;cases b<;>simp[Op.bytesLess]at ab
 |a,[],c::z,aa,_=>by unfold dD at aa;cases a<;>simp[Op.bytesLess]at aa
 |[],b::y,c::z,_,_=>by simp[dD,Op.bytesLess]
 |a::x,b::y,c::z,aa,ab=>by
  have ba:=@Fm x y z;unfold dD at aa ab ba⊢;simp only[Op.bytesLess,gl,hk,b7,fc]at aa ab⊢;rcases aa with aa|⟨rfl,aa⟩
  ·rcases ab with ab|⟨rfl,ab⟩
   ·exact .inl (UInt8.lt_trans aa ab)
   ·exact .inl aa
  ·rcases ab with ab|⟨rfl,ab⟩
   ·exact .inl ab
   ·exact .inr ⟨rfl,ba aa ab⟩
def IU:∀{a b:aq},dD a b=false->dD b a=false->a=b
 |[],[],_,_=>rfl
 |[],b::y,h,_=>by simp[dD,Op.bytesLess]at h
 |a::x,[],_,h=>by simp[dD,Op.bytesLess]at h
 |a::x,b::y,aa,ab=>by have ba:=@IU x y;unfold dD at aa ab ba;simp only[Op.bytesLess,Ro,rp]at aa ab;have wS:a=b:=UInt8.le_antisymm (UInt8.not_lt.1 ab.1) (UInt8.not_lt.1 aa.1);subst wS;simp only[BEq.rfl,ig]at aa ab;rw[ba aa.2 ab.2]
def Y9{a b:aq}(h:dD a b=true):dD b a=false:=by
 cases ad:dD b a with
 |false=>rfl
 |true=>have:=Fm h ad;rw[z7]at this;cases this
def RP{a b:aq}:Lib.compareBytes a b<0↔dD a b=true:=by
 rw[Iz];split
 ·simp[*]
 ·rename_i h;split<;>simp[h]
def RQ{a b:aq}:Lib.compareBytes a b=0↔a=b:=by
 rw[Iz];split
 ·rename_i h;simp;rintro rfl;rw[z7]at h;cases h
 ·split<;>simp[*]
def Y_{a b:Int}:hY a b<0↔a<b:=by unfold hY;split<;>(try split)<;>omega
def zkr{a b:Int}:hY a b=0↔a=b:=by unfold hY;split<;>(try split)<;>omega
def zks{a b c d:Int}:kP [a,b,c,d]<0↔a<0\/(a=0/\(b<0\/(b=0/\(c<0\/(c=0/\d<0))))):=by simp only[kP];split<;>(try split)<;>(try split)<;>(try split)<;>omega
def sC(a b:Entry):Prop:=dD a.key b.key=true\/(a.key=b.key/\(a.time<b.time\/(a.time=b.time/\(dD a.file b.file=true\/(a.file=b.file/\a.aO<b.aO)))))
def zkt{a b:Entry}:Ct a b<0↔sC a b:=by unfold Ct cmpL sC;rw[zks,RP,RQ,Y_,zkr,RP,RQ,Y_]
def sC.trans{a b c:Entry}(aa:sC a b)(ab:sC b c):sC a c:=by
 unfold sC at*;rcases aa with aa|⟨ax,aa⟩
 ·rcases ab with ab|⟨aK,_⟩
  ·exact .inl (Fm aa ab)
  ·exact .inl (aK▸aa)
 ·rcases ab with ab|⟨aK,ab⟩
  ·exact .inl (ax▸ab)
  ·refine .inr ⟨ax.trans aK,?_⟩;rcases aa with aa|⟨t1,aa⟩
   ·rcases ab with ab|⟨t2,_⟩<;>exact .inl (by omega)
   ·rcases ab with ab|⟨t2,ab⟩
    ·exact .inl (by omega)
    ·refine .inr ⟨t1.trans t2,?_⟩;rcases aa with aa|⟨f1,aa⟩
     ·rcases ab with ab|⟨f2,_⟩
      ·exact .inl (Fm aa ab)
      ·exact .inl (f2▸aa)
     ·rcases ab with ab|⟨f2,ab⟩
      ·exact .inl (f1▸ab)
      ·exact .inr ⟨f1.trans f2,by omega⟩
abbrev IV(l:List Entry):Prop:=l.Pairwise sC
def RR:∀{l:List Entry} {p:Option Entry},nb p l=0->IV l/\(∀q,p=some q->∀x∈l,sC q x)/\∀x∈l,rm x=0
 |[],p,_=>⟨.nil,fun q _ x ai=>(by cases ai),fun x ai=>(by cases ai)⟩
 |e::r,none,h=>by
  simp only[nb]at h;split at h
  ·rename_i he;obtain⟨aa,ab,au⟩:=RR h;exact⟨.cons (ab e rfl) aa,fun q bK=>(by cases bK),fun x ai=>by rcases fp.1 ai with rfl|ai;exact he;exact au x ai⟩
  ·exact absurd h (by assumption)
 |e::r,some q,h=>by
  simp only[nb]at h;split at h
  ·rename_i he;split at h
   ·cases h
   ·split at h
    ·cases h
    ·rename_i aN bE;obtain⟨aa,ab,au⟩:=RR h;have Y':sC q e:=zkt.1 (by omega);refine⟨.cons (ab e rfl) aa,fun eI bK=>?_,fun x ai=>by rcases fp.1 ai with rfl|ai;exact he;exact au x ai⟩;injection bK with bK
     subst bK;intro x ai;rcases fp.1 ai with rfl|ai
     ·exact Y'
     ·exact Y'.trans (ab e rfl x ai)
  ·exact absurd h (by assumption)
def Za{l:List Entry}(h:iq l=0):IV l/\∀x∈l,rm x=0:=by
 unfold iq at h;split at h
 ·cases h
 ·obtain⟨aa,_,ab⟩:=RR h;exact⟨aa,ab⟩
def sC.key{a b:Entry}(h:sC a b):dD b.key a.key=false:=by
 rcases h with h|⟨e,_⟩
 ·exact Y9 h
 ·rw[e];exact z7 _
abbrev Zb(f:Nat):aG:=.one (.atom (.func (.func f) #[] #[]))
def Zc(e:Entry)(k:aq):az prog 118 [.agg e.row,.one (.str k)] (.x (.one (.int .i64 (Lib.compareBytes e.key k)))):=by refine az.bd f118 mixed fun aD=>?_;simp +contextual[-Bool.and_eq_false_imp];refine aH.of (strings_Compare _ _) ?_;simp +contextual[-Bool.and_eq_false_imp]
def lowerB(l:List Entry)(k:aq):Nat:=(l.takeWhile fun e=>dD e.key k).length
def Zd{l:List Entry}{k:aq}{i:Nat}(ah:i<=l.length)(aa:∀(j:Nat) (x:Entry),j<i->l[j]?=some x->dD x.key k=true)(ab:∀x,l[i]?=some x->dD x.key k=false):lowerB l k=i:=by
 induction l generalizing i with
 |nil=>simp at ah;subst ah;rfl
 |cons a r ba=>
  unfold lowerB at ba⊢;cases i with
  |zero=>have:=ab a rfl;rw[Mx (by simp[this])];rfl
  |succ i=>have:=aa 0 a (by omega) rfl;rw[My (by exact this),hz,ba (by simpa using ah) (fun j x ac ai=>aa (j+1) x (by omega) (by simpa using ai)) (fun x ai=>ab x (by simpa using ai))]
def zku(l:List Entry)(k:aq)(hs:IV l)(ad:l.length<=3000):az prog 117 [entries l,.one (.str k),Zb 118] (.b2 [.one (.int .i64 (lowerB l k)),.one (.bool (match l[lowerB l k]? with|some x=>decide (x.key=k)|none=>false))]):=by
 refine az.bd f117 mixed fun aD=>?_;have IP:∀i j (ac:j<l.length) (cV:i<=j),dD l[j].key k=true->dD l[i].key k=true:=by
  intro i j ac cV h;by_cases he:i=j
  ·subst he;exact h
  ·have:=(RS.1 hs) i j (by omega) ac (by omega);cases ad:dD l[i].key k with
   |true=>rfl
   |false=>
    have ab:=this.key;cases ap:dD l[i].key l[j].key with
    |true=>rw[Fm ap h]at ad;cases ad
    |false=>rw[IU ap ab]at ad;rw[ad]at h;cases h
 simp +contextual[-Bool.and_eq_false_imp];refine ck.of (Nat×Nat) (fun i=>[(0,.x (.one (.list 9 (l.map Entry.row)))),(1,.x (.one (.str k))),(2,.x (Zb 118)),(8,.x (.one (.int .i64 l.length))),(9,.x (.one (.int .i64 i.1))),(10,.x (.one (.int .i64 i.2)))])
  (fun i=>i.1<=i.2/\i.2<=l.length/\(∀(j:Nat) (h:j<l.length),j<i.1->dD l[j].key k=true)/\(∀(j:Nat) (h:j<l.length),i.2<=j->dD l[j].key k=false)) (fun i=>i.2-i.1) (0,l.length) ⟨cj _,f_ _,by intro j h ac;omega,by intro j h ac;simp only at ac;omega⟩ ?_ ?_
 ·simp
 rintro⟨i,j⟩ ⟨aa,ab,au,aN⟩;simp only at aa ab au aN;by_cases ar:i<j
 ·have hm:i64.wrap ((u64.wrap (i64.wrap ((i:Int)+j))).fdiv (2^min 1 u64.bits))=(((i+j)/2:Nat):Int):=by
   rw[lR ((i:Int)+j) (by omega)];have:u64.wrap ((i:Int)+j)=(i:Int)+j:=by simp[IntKind.wrap,IntKind.signed,IntKind.bits];omega
   rw[this];have:((i:Int)+j).fdiv (2^min 1 u64.bits)=((i+j)/2:Nat):=by show ((i:Int)+j).fdiv 2=_;rw[RT _ (by omega)];omega
   rw[this];exact bc _
  obtain⟨m,em⟩:∃m,m=(i+j)/2:=⟨_,rfl⟩
  rw[<-em]at hm;have nx:m<l.length:=by omega
  simp +contextual[-Bool.and_eq_false_imp,ar,hm,nx];refine aH.of (Zc _ _) ?_;have ap:=RP (a:=l[m].key) (b:=k);simp +contextual[-Bool.and_eq_false_imp];refine⟨fun h=>?_,fun h=>?_⟩
  ·refine bt.of (m+1,j) ⟨by simp only;omega,ab,fun x ai Fo=>IP x m nx (by simp only at Fo;omega) (ap.1 h),aN⟩ (by simp only;omega) ?_;simp;exact bc _
  ·refine bt.of (i,m) ⟨by simp only;omega,by simp only;omega,au,fun x ai Fo=>?_⟩ (by simp only;omega) ?_
   ·simp only at Fo;cases ad:dD l[x].key k with
    |false=>rfl
    |true=>have:=IP m x ai Fo ad;rw[<-ap]at this;omega
   ·simp
 ·have cV:i=j:=by omega
  subst cV;have qQ:lowerB l k=i:=Zd ab (fun x y ai aU=>by
   obtain⟨aS,rfl⟩:=eQ.1 aU;exact au x aS ai) (fun y aU=>by
   obtain⟨aS,rfl⟩:=eQ.1 aU;exact aN i aS (f_ _))
  rw[qQ];by_cases jV:i<l.length
  ·simp +contextual[-Bool.and_eq_false_imp,jV];refine b_.of (fun _=>Zc _ _) rfl ?_;have ap:=RQ (a:=l[i].key) (b:=k);simp +contextual[-Bool.and_eq_false_imp,jV];rw[mm];simp[ap]
  ·simp[jV];refine b_.of (r:=.x (.one (.int .i64 0))) (fun h=>by cases h) rfl ?_;simp +contextual[-Bool.and_eq_false_imp,jV]
def j7(l:List Entry)(k:aq):List Entry:=l.filter fun e=>decide (e.key=k)
def Ze{α:Type}(p:α->Bool):∀(l:List α) (i:Nat),i<=l.length->(∀(j:Nat) (x:α),j<i->l[j]?=some x->p x=true)->(∀x,l[i]?=some x->p x=false)->l.takeWhile p=l.take i
 |[],i,ah,_,_=>by simp
 |a::r,0,_,_,ab=>by rw[Mx (by simp[ab a rfl])];rfl
 |a::r,i+1,ah,aa,ab=>by rw[My (aa 0 a (by omega) rfl),Ze p r i (by simpa using ah) (fun j x ac ai=>aa (j+1) x (by omega) (by simpa using ai)) (fun x ai=>ab x (by simpa using ai))];rfl
def RU{k:aq}:∀{l:List Entry},IV l->j7 l k=(l.drop (lowerB l k)).takeWhile fun e=>decide (e.key=k)
 |[],_=>rfl
 |a::r,h=>by
  have ao:=D4.1 h;unfold j7 lowerB;by_cases ar:dD a.key k=true
  ·have bY:¬a.key=k:=by rintro rfl;rw[z7]at ar;cases ar
   rw[My (by exact ar),hz,JZ,List.filter_cons_of_neg (by simp[bY])];exact RU ao.2
  ·rw[Mx (by exact ar),ur,List.drop_zero];by_cases he:a.key=k
   ·rw[List.filter_cons_of_pos (by simp[he]),My (by simp[he])];congr 1;have:=RU (k:=k) ao.2;unfold j7 at this;rw[this];have a1:lowerB r k=0:=Zd (cj _) (fun j x ac=>by omega) (fun x ai=>by
     have:=(ao.1 x (kt ai)).key;rw[he]at this;exact this)
    rw[a1,List.drop_zero]
   ·rw[List.filter_cons_of_neg (by simp[he]),Mx (by simp[he])];rw[Mz];intro x ai;simp only[hk];rintro rfl;have aa:=(ao.1 x ai).key;exact he (IU (by simpa using ar) aa)
def zkv(l:List Entry)(k:aq)(hs:IV l)(ad:l.length<=3000):az prog 69 [entries l,.one (.str k)] (.x (entries (j7 l k))):=by
 refine az.bd f69 mixed fun aD=>?_;simp +contextual[-Bool.and_eq_false_imp];refine aH.of (zku l k hs ad) ?_;have qQ:lowerB l k<=l.length:=by unfold lowerB;exact(List.takeWhile_sublist _).length_le
 rw[RU hs];generalize lowerB l k=aO at qQ;simp +contextual[-Bool.and_eq_false_imp];refine ck.of Nat (fun i=>[(0,.x (.one (.list 9 (l.map Entry.row)))),(1,.x (.one (.str k))),(5,.x (.one (.int .i64 aO))),(7,.x (.one (.int .i64 i)))]) (fun i=>aO<=i/\i<=l.length/\∀(j:Nat) (x:Entry),aO<=j->j<i->l[j]?=some x->x.key=k) (fun i=>l.length-i) aO ⟨f_ _,qQ,fun j x aa ab=>by omega⟩ ?_ ?_
 ·simp
 rintro i ⟨aa,ab,au⟩;have Zf:(∀x,l[i]?=some x->¬x.key=k)->(l.drop aO).takeWhile (fun e=>decide (e.key=k))=(l.take i).drop aO:=by
  intro ai;rw[Ze _ (l.drop aO) (i-aO) (by simp;omega) (fun j x ac vo=>by
   rw[js]at vo;simp[au (aO+j) x (by omega) (by omega) vo]) (fun x vo=>by
   rw[js,show aO+(i-aO)=i by omega]at vo;simp[ai x vo])]
  rw[GO]
 by_cases ar:i<l.length
 ·simp +contextual[-Bool.and_eq_false_imp,ar];refine⟨fun he=>bt.of (i+1) ⟨by omega,ar,fun j x Cj MA vo=>?_⟩ (by omega) ?_,fun bY=>?_⟩
  ·by_cases fU:j=i
   ·subst fU;rw[cr ar]at vo;injection vo with vo
    rw[<-vo];exact he
   ·exact au j x Cj (by omega) vo
  ·simp;exact bc _
  ·rw[Zf (fun x ai=>by rw[cr ar]at ai;injection ai with ai;rw[<-ai];exact bY)];refine⟨by omega,?_⟩;simp[b4]
 ·simp[ar];rw[Zf (fun x ai=>by rw[pW (by omega)]at ai;cases ai)];refine⟨by omega,?_⟩;simp[b4]
structure MB where
 key:aq
 many:Int
 other:Int
 first:Int
 last:Int
 deriving DecidableEq
def MB.row(x:MB):List ag:=[.str x.key,.int .i64 x.many,.int .i64 x.other,.int .i64 x.first,.int .i64 x.last]
abbrev zGW(l:List MB):aG:=.one (.list 5 (l.map MB.row))
def z8(bp:List (aq)):List (aG×aG):=bp.map fun d=>(.one (.str d),.one (.bool true))
def Zg(d:aq):∀(bp:List (aq)) (i:Nat),(d∉bp->fz .s (.one (.str d)) (z8 bp) i=some none)/\(d∈bp->∃j,fz .s (.one (.str d)) (z8 bp) i=some (some (i+j))/\bp[j]?=some d)
 |[],i=>⟨fun _=>rfl,fun h=>by cases h⟩
 |k::r,i=>by
  have ba:=Zg d r (i+1);simp only[z8,kC,fz,uw];by_cases h:d=k
  ·subst h;simp only[BEq.rfl];exact⟨fun h=>absurd (kH) h,fun _=>⟨0,rfl,rfl⟩⟩
  ·have ad:(d==k)=false:=by simpa using h
   rw[ad];refine⟨fun aX=>ba.1 (fun hm=>aX (oc _ hm)),fun hm=>?_⟩;obtain⟨j,aa,ab⟩:=ba.2 ((fp.1 hm).resolve_left h);exact⟨j+1,by rw[show i+(j+1)=i+1+j by omega];exact aa,ab⟩
def zGX(l:List Entry):List (aq):=l.map Entry.ee
end
section
variable [bn][c1 0][cF prog]
attribute[simp]Ab.bH.dj.eq_3
def Z6:∀{l:List Head},vt l=0->∀h∈l,mq h.name=true/\kS h.value=true
 |[],_,h,hm=>by cases hm
 |x::r,e,h,hm=>by
  have ai:Ae x=if mq x.name=false then 5 else if kS x.value=false then 3 else 0:=rfl
  unfold vt at e;have ax:Ae x=0:=by
   by_cases a1:Ae x=0
   ·exact a1
   ·rw[an a1]at e;exact absurd e a1
  rw[av ax]at e;rcases fp.1 hm with rfl|hm
  ·rw[ax]at ai;cases aa:mq h.name<;>cases ab:kS h.value<;>rw[aa,ab]at ai<;>first|exact⟨rfl,rfl⟩|(simp at ai)
  ·exact Z6 e h hm
def Z7{l:List Head}(h:j8 l=0):∀x∈l,x.name.length<=40/\x.value.length<=1000:=by
 intro x ai;unfold j8 at h;split at h
 ·cases h
 ·obtain⟨aa,ab⟩:=Z6 h x ai;unfold mq dh at aa;unfold kS at ab;simp only[b7,hk]at aa ab;exact⟨by omega,ab.1⟩
def Z8:∀{l:List Head},(∀x∈l,x.name.length<=40/\x.value.length<=1000)->(fO l).length<=1044*l.length
 |[],_=>by simp[fO]
 |h::r,ai=>by have aa:=ai h (by simp);have ba:=Z8 (l:=r) (fun x hm=>ai x (by simp[hm]));unfold fO at ba⊢;simp only[List.flatMap_cons,eG,FD,hz];omega
structure Rec.MW(r:Rec):Prop where
 zmH:1<=r.kind
 zmI:r.kind<=5
 id:kl r.id=true
 of:r.of=[]\/kl r.of=true
 Z9:fM r.time=true
 key:j2 r.key=true
 Jb:r.aT.length<=30
 aT:j8 r.aT=0
 own:r.aT.any sM=false
 block:r.block.length<=200000
def w5{r:Rec}(h:hH r=0):r.MW:=by
 unfold hH at h;split at h
 ·cases h
 rename_i aa;split at h
 ·cases h
 rename_i ab;split at h
 ·cases h
 rename_i au;split at h
 ·cases h
 rename_i aN;split at h
 ·cases h
 rename_i bE;split at h
 ·cases h
 rename_i cS;split at h
 ·rename_i d8;exact absurd h d8
 rename_i d8;split at h
 ·cases h
 rename_i ei;split at h
 ·cases h
 rename_i fA;refine⟨by omega,by omega,?_,?_,by simpa using aN,by simpa using bE,by omega,by simpa using d8,by simpa using ei,by omega⟩
 ·cases e:kl r.id with
  |true=>rfl
  |false=>exact absurd (.inl e) ab
 ·by_cases e:r.of=[]
  ·exact .inl e
  ·right;cases aK:kl r.of with
   |true=>rfl
   |false=>exact absurd (.inr ⟨e,aK⟩) ab
def Z_{s:aq}(h:kl s=true):1<=s.length/\s.length<=40:=by unfold kl dh at h;simp only[b7,hk]at h;omega
def zmJ{s:aq}(h:j2 s=true):1<=s.length/\s.length<=2000:=by unfold j2 ri dh at h;simp only[b7,hk]at h;omega
def MX(k:Int):(nd k).length<=7:=by
 unfold nd;rw[lF];generalize (k-1).toNat=n
 match n with
 |0=>decide
 |1=>decide
 |2=>decide
 |3=>decide
 |4=>decide
 |n+5=>simp[hQ]
def MY{r:Rec}(h:r.MW):(mv r).length<=300000:=by
 have aa:=(Z_ h.id).2;have ab:r.of.length<=40:=by
  rcases h.of with e|e
  ·rw[e];simp
  ·exact(Z_ e).2
 have au:=MX r.kind;have aN:=(Y5 r.time h.Z9).1;have bE:=(zmJ h.key).2;have cS:=Z8 (Z7 h.aT);have d8:=h.Jb;have ad:=h.block;have ei:(zY r.block.length).length<=21:=Z' (by unfold ym;omega);have fA:=ZZ r.block;have dV:(nV r).length<=(pz r).length+(gJ [111,102] r.of).length:=by unfold nV;split<;>simp
 unfold mv nX oO kV iK nW oN;unfold pz at dV;simp only[eG,FD,hz,ur]at dV⊢;have:FE.length=8:=rfl;omega
def zaa{r:Rec}(h:r.MW):r.fits:=⟨h.zmH,h.zmI,h.Z9,by have:=MY h;omega⟩
def fP(l:List Rec):aG:=.one (.list 7 (l.map Rec.row))
def ua:List (aq)->Nat->List Rec->Int
 |_,n,[]=>if 500000<n then 2 else 0
 |seen,n,r::l=>if hH r≠0 then hH r else if r.id∈seen then 7 else ua (seen++[r.id]) (n+(mv r).length) l
def kq(l:List Rec):Int:=if 1000<l.length then 2 else ua [] 0 l
def lj(l:List Rec):Nat:=(l.map fun r=>(mv r).length).sum
def SF:∀{l:List Rec},(∀r∈l,hH r=0)->lj l<=300000*l.length
 |[],_=>by simp[lj]
 |r::l,h=>by have aa:=MY (w5 (h r (by simp)));have ba:=SF (l:=l) (fun x ai=>h x (by simp[ai]));unfold lj at ba⊢;simp only[kC,List.sum_cons,hz];omega
def MZ(l:List Rec)(r:Rec):lj (l++[r])=lj l+(mv r).length:=by simp[lj]
def zab(l:List Rec):az prog 115 [fP l] (.x (.one (.int .i64 (kq l)))):=by
 obtain⟨F,a7⟩:∃F,F=kq l:=⟨_,rfl⟩
 rw[<-a7];unfold kq at a7;unfold fP;refine az.bd f115 mixed fun aD=>?_;by_cases aa:1000<l.length
 ·rw[av aa]at a7;subst a7;have dd:(1000<(l.length:Int))=True:=aY;simp[dd]
 rw[an aa]at a7;have dd:(1000<(l.length:Int))=False:=a8;simp[dd];refine ck.of Nat (fun i=>[(3,.mp i (List.range i) (z8 ((l.take i).map Rec.id))),(4,.x (.one (.int .i64 (lj (l.take i))))),(12,.x (.one (.list 7 (l.map Rec.row)))),(13,.x (.one (.int .i64 l.length))),(14,.x (.one (.int .i64 i)))])
  (fun i=>i<=l.length/\F=ua ((l.take i).map Rec.id) (lj (l.take i)) (l.drop i)/\∀r∈l.take i,hH r=0) (fun i=>l.length-i) 0 ⟨cj _,by simpa[lj]using a7,by simp⟩ ?_ ?_
 ·simp[z8,lj]
 rintro i ⟨ah,a6,Aj⟩;have zmK:=SF Aj;have zj:(l.take i).length<=1000:=by simp;omega
 by_cases ar:i<l.length
 ·have aS:((i:Int)<(l.length:Int))=True:=aY;have bC:=bc ((i:Int)+1);have a_:l[i].row=[.int .i64 l[i].kind,.str l[i].id,.str l[i].of,.int .i64 l[i].time,.str l[i].key,.list 2 (l[i].aT.map Head.row),b5 l[i].block]:=rfl;have aE:=MU l[i];rw[jw ar]at a6;unfold ua at a6;have gy:l.take (i+1)=l.take i++[l[i]]:=k6 ar;obtain⟨f1,f2⟩:=Zg l[i].id ((l.take i).map Rec.id) 0;rw[a_]at aE;simp[ar,aS,a_];refine aH.of aE ?_;by_cases ao:hH l[i]=0
  ·rw[an (by simpa using ao)]at a6;have fm:=zaa (w5 ao);have cX:=MY (w5 ao);have aQ:=zmz l[i] fm;rw[a_]at aQ;rw[ao];have bU:=e8 (mv l[i]);have FK:i64.wrap ((lj (l.take i):Int)+((mv l[i]).length:Int))=((lj (l.take i):Int)+((mv l[i]).length:Int)):=bc _;by_cases d9:l[i].id∈(l.take i).map Rec.id
   ·obtain⟨j,aw,ac⟩:=f2 d9;rw[hv]at aw;rw[av d9]at a6;subst a6;have zac:(z8 ((l.take i).map Rec.id))[j]?=some (.one (.str l[i].id),.one (.bool true)):=by
     unfold z8;rw[eZ,ac];rfl
    simp only[Fy]at aw zac;simp[aw,zac]
   ·have aw:=f1 d9;rw[an d9]at a6;simp only[Fy]at aw;simp[aw];refine aH.of aQ ?_;simp[bU];refine bt.of (i+1) ⟨ar,?_,fun r hm=>?_⟩ (by omega) ?_
    ·rw[gy,MZ,qa];exact a6
    ·rw[gy]at hm;rcases hg.1 hm with h|h
     ·exact Aj r h
     ·obtain rfl:r=l[i]:=by simpa using h
      exact ao
    ·rw[gy,MZ];simp[bC,FK,z8,List.range_succ];rw[k6 (by simpa using ar)];simp
  ·rw[av ao]at a6;subst a6;simp[ao]
 ·have e_:i=l.length:=by omega
  subst e_;have aS:((l.length:Int)<(l.length:Int))=False:=a8;rw[wT]at a6;unfold ua at a6;generalize lj (l.take l.length)=n at*;by_cases bE:500000<n
  ·rw[av bE]at a6;subst a6;have SG:(500000<(n:Int))=True:=aY;simp[SG]
  ·rw[an bE]at a6;subst a6;have SG:(500000<(n:Int))=False:=a8;simp[SG]
end
section
variable [bn][c1 0][cF prog]
def SH(b:aq)(a:Nat):a<=eE b a:=by unfold eE;split<;>omega
def yz{P:bh->Prop}{r:Bool×bh}{f:bh->Bool×bh}(h:P r.2)(aw:∀x:bh,P x->P (f x).2):P (eF r f).2:=by
 obtain⟨c,x⟩:=r;cases c
 ·exact h
 ·exact aw x h
def bh.from_(a:Nat)(x:bh):Prop:=a<=x.at_
def zad{a:Nat}(w:aq){x:bh}(h:x.from_ a):(lg w x).2.from_ a:=by
 show a<=(qt x w).at_;unfold qt;split
 ·exact jc h (SH _ _)
 ·exact h
def CY{a:Nat}(w:aq)(F:aq->Bool)(G:bh->aq->bh){x:bh}(h:x.from_ a)(dN:∀s,(G x s).at_=x.at_):(jL w F G x).2.from_ a:=by
 show a<=(oG x w F (G x)).at_;unfold oG;split
 ·split
  ·exact jc h (SH _ _)
  ·rw[dN];exact h
 ·exact h
def zae{a:Nat}:∀(n:Nat) {y:bh},y.from_ a->(kp n y).2.from_ a
 |0,y,h=>h
 |n+1,y,h=>by
  unfold kp;split
  ·exact h
  ·split
   ·exact zae n (y:={y with aT:=_,at_:=_}) (jc h (SH _ _))
   ·exact h
def zmL{a:Nat}{x:bh}(h:x.from_ a):(oH h9 hn h8 x).2.from_ a:=by
 unfold oH;refine yz (zad _ h) fun x h=>yz (CY _ _ _ h fun _=>rfl) fun x h=>yz ?_ fun x h=>yz (CY _ _ _ h fun _=>rfl) fun x h=>
  yz (CY _ _ _ h fun _=>rfl) fun x h=>yz (CY _ _ _ h fun _=>rfl) fun x h=>yz (zae _ h) fun x h=>
  yz (CY _ _ _ h fun s=>by split<;>rfl) fun x h=>yz (CY _ _ _ h fun _=>rfl) fun x h=>zad _ h
 unfold ys;split
 ·exact CY _ _ _ h fun _=>rfl
 ·exact h
def zHp{b:aq}{a:Nat}(ad:b.length<=16777216)(bj:a<=b.length):(fk b a).nf b:=⟨⟨ad,bj⟩,rfl,by simp[fk],by simp[fk]⟩
def Jc{b:aq}{a:Nat}(ad:b.length<=16777216)(bj:a<=b.length)(h:(iL b a).2.2=0):a<(iL b a).2.1/\(iL b a).2.1<=b.length/\hH (iL b a).1=0:=by
 have aw:=zmL (a:=a) (x:=fk b a) (f_ a);unfold iL at h⊢;generalize oH h9 hn h8 (fk b a)=r at*;dsimp only at h⊢;unfold bh.from_ at aw;by_cases aa:r.1=false
 ·rw[av aa]at h;cases h
 rw[an aa]at h⊢;by_cases ab:b.length<r.2.at_+r.2.length.toNat+4
 ·rw[av ab]at h;cases h
 rw[an ab]at h⊢;by_cases au:(b.drop (r.2.at_+r.2.length.toNat)).take 4≠FI
 ·rw[av au]at h;cases h
 rw[an au]at h⊢;by_cases aN:sL ((b.drop r.2.at_).take r.2.length.toNat)≠r.2.ee
 ·rw[av aN]at h;cases h
 rw[an aN]at h⊢;by_cases bE:hH (r.2.t_ ((b.drop r.2.at_).take r.2.length.toNat))≠0
 ·rw[av bE]at h;exact absurd h bE
 rw[an bE];exact⟨by simp only;omega,by simp only;omega,by simpa using bE⟩
structure Mark where
 id:aq
 aO:Nat
 ah:Nat
def Mark.row(m:Mark):List ag:=[.str m.id,.int .i64 m.aO,.int .i64 m.ah]
def rB(l:List Mark):aG:=.one (.list 3 (l.map Mark.row))
def lk:Nat->aq->Nat->List Rec->List Mark->List Rec×List Mark×Nat×Int
 |0,_,_,_,_=>([],[],0,0)
 |n+1,b,a,L,M=>
  if a<b.length then
   if (iL b a).2.2≠0 then ([],[],(iL b a).2.1,(iL b a).2.2)
   else lk n b (iL b a).2.1 (L++[(iL b a).1]) (M++[⟨(iL b a).1.id,a,(iL b a).2.1⟩])
  else if kq L≠0 then ([],[],0,kq L)else (L,M,0,0)
def FL(b:aq)(a:Nat)(L:List Rec)(M:List Mark):List Rec×List Mark×Nat×Int:=lk (b.length+1) b a L M
def cE(b:aq):List Rec×List Mark×Nat×Int:=if 500000<b.length then ([],[],0,2)else FL b 0 [] []
def zaf{b:aq}(ad:b.length<=16777216):∀(n m a:Nat) (L:List Rec) (M:List Mark),a<=b.length->b.length<n+a->b.length<m+a->lk n b a L M=lk m b a L M
 |0,_,a,_,_,h,aa,_=>by omega
 |_+1,0,a,_,_,h,_,ab=>by omega
 |n+1,m+1,a,L,M,h,aa,ab=>by
  unfold lk;by_cases ar:a<b.length
  ·rw[av ar,av ar];by_cases aw:(iL b a).2.2≠0
   ·rw[av aw,av aw]
   ·rw[an aw,an aw];obtain⟨aE,aQ,_⟩:=Jc ad h (by simpa using aw);exact zaf ad n m _ _ _ aQ (by omega) (by omega)
  ·rw[an ar,an ar]
def zag{b:aq}(ad:b.length<=16777216){a:Nat}(h:a<=b.length)(L:List Rec)(M:List Mark):FL b a L M =
  if a<b.length then
   if (iL b a).2.2≠0 then ([],[],(iL b a).2.1,(iL b a).2.2)
   else FL b (iL b a).2.1 (L++[(iL b a).1]) (M++[⟨(iL b a).1.id,a,(iL b a).2.1⟩])
  else if kq L≠0 then ([],[],0,kq L)else (L,M,0,0):=by
 conv=>lhs;unfold FL lk
 by_cases ar:a<b.length
 ·rw[av ar,av ar];by_cases aw:(iL b a).2.2≠0
  ·rw[av aw,av aw]
  ·rw[an aw,an aw];obtain⟨aE,aQ,_⟩:=Jc ad h (by simpa using aw);exact zaf ad _ _ _ _ _ aQ (by omega) (by omega)
 ·rw[an ar,an ar]
def zah(b:aq):az prog 61 [.one (b5 b)] (.b2 [fP (cE b).1,rB (cE b).2.1,.one (.int .i64 (cE b).2.2.1),.one (.int .i64 (cE b).2.2.2)]):=by
 obtain⟨R,aC⟩:∃R,R=cE b:=⟨_,rfl⟩
 rw[<-aC];unfold cE at aC;unfold fP rB;have bU:=e8 b;refine @az.of _ (wH [(10,[1,1,1,4,8,7,7,7,7,7,7,7,9,0,0])]) _ _ _ _ _ mixed (fn:=f61) (by kernel_rfl) (by kernel_rfl) rfl (by kernel_rfl) (by simp[f61]) (fun aD=>?_);by_cases aa:500000<b.length
 ·rw[av aa]at aC;subst aC;have dd:(500000<(b.length:Int))=True:=aY;simp[bU,dd]
 rw[an aa]at aC;have dd:(500000<(b.length:Int))=False:=a8;simp[bU,dd];refine ck.of (Nat×List Rec×List Mark) (fun x=>[(0,.x (.one (b5 b))),(6,.own 78 7 (x.2.1.map Rec.row)),(7,.own 97 3 (x.2.2.map Mark.row)),(8,.x (.one (.int .i64 x.1)))])
  (fun x=>x.1<=b.length/\R=FL b x.1 x.2.1 x.2.2/\x.2.1.length<=x.1/\x.2.2.length<=x.1) (fun x=>b.length-x.1) (0,[],[]) ⟨cj _,aC,f_ _,f_ _⟩ ?_ ?_
 ·simp
 rintro⟨a,L,M⟩ ⟨bj,af,l6,fK⟩;dsimp only at bj af l6 fK⊢;have ad:b.length<=16777216:=by omega
 rw[zag ad bj]at af;by_cases ar:a<b.length
 ·rw[av ar]at af;have aS:((a:Int)<(b.length:Int))=True:=aY;have aE:=zmF b a ad bj;have aX:=Jc ad bj;generalize iL b a=o at*;obtain⟨r,sP,f⟩:=o;unfold FJ at aE;dsimp only at*;have a_:r.row=[.int .i64 r.kind,.str r.id,.str r.of,.int .i64 r.time,.str r.key,.list 2 (r.aT.map Head.row),b5 r.block]:=rfl;rw[a_]at aE;simp[bU,aS];refine aH.of aE ?_;by_cases aw:f=0
  ·subst aw;rw[an (by decide)]at af;obtain⟨kI,jE,_⟩:=aX rfl;simp;refine⟨by unfold maxLen;omega,by unfold maxLen;omega,?_⟩;exact bt.of (sP,L++[r],M++[⟨r.id,a,sP⟩]) ⟨jE,af,by simp;omega,by simp;omega⟩ (by simp only;omega) (by simp[a_,Mark.row])
  ·rw[av aw]at af;subst af;have hC:(f=0)=False:=bz aw;simp[hC]
 ·rw[an ar]at af;have aS:((a:Int)<(b.length:Int))=False:=a8;have aQ:=zab L;unfold fP at aQ;generalize kq L=f at*;simp[bU,aS];refine aH.of aQ ?_;by_cases aw:f=0
  ·rw[an (by simpa using aw)]at af;subst af;subst aw;simp
  ·rw[av aw]at af;subst af;have hC:(f=0)=False:=bz aw;simp[hC]
def zai(b:aq):az prog 36 [.one (b5 b)] (.b2 [fP (cE b).1,.one (.int .i64 (cE b).2.2.1),.one (.int .i64 (cE b).2.2.2)]):=by have k:=zah b;generalize cE b=R at*;unfold fP rB at*;refine az.bd f36 mixed fun aD=>?_;simp;refine aH.of k ?_;simp
def zaj(b:aq):az prog 37 [.one (b5 b)] (.b2 [rB (cE b).2.1,.one (.int .i64 (cE b).2.2.2)]):=by have k:=zah b;generalize cE b=R at*;unfold fP rB at*;refine az.bd f37 mixed fun aD=>?_;simp;refine aH.of k ?_;simp
def jN{α:Type}(p:α->Bool)(l:List α):Int:=match l.findIdx? p with
 |some i=>(i:Int)
 |none=>-1
def zak{α:Type}{p:α->Bool}{l:List α}{i:Nat}(h:ft (fun e=>!p e) l i)(ar:i<l.length)(am:p l[i]=true):jN p l=(i:Int):=by
 unfold jN;have:l.findIdx? p=some i:=by rw[kT];refine⟨ar,am,fun j ac=>?_⟩;have:=hJ.1 h.2 l[j] (by rw[List.mem_take_iff_getElem];exact⟨j,by omega,rfl⟩);simpa using this
 rw[this]
def zal{α:Type}{p:α->Bool}{l:List α}(h:ft (fun e=>!p e) l l.length):jN p l=-1:=by
 unfold jN;have:l.findIdx? p=none:=by rw[sF];intro x ai;have ab:=h.2;rw[pw]at ab;have:=hJ.1 ab x ai;simpa using this
 rw[this]
def yA{α:Type}(p:α->Bool)(l:List α):(jN p l=-1/\l.findIdx? p=none)\/∃i:Nat,jN p l=(i:Int)/\l.findIdx? p=some i/\i<l.length:=by
 unfold jN;cases h:l.findIdx? p with
 |none=>exact .inl ⟨rfl,rfl⟩
 |some i=>exact .inr ⟨i,rfl,rfl,(kT.1 h).1⟩
def zam(l:List Rec)(g:FuncId)(c:ag)(p:Rec->Bool)(ap:∀r∈l,az prog g [.agg r.row,.one c] (.x (.one (.bool (p r)))))(al:l.length<=1000000000) :
  az prog 64 [fP l,.one (.jQ g [c])] (.x (.one (.int .i64 (jN p l)))):=by
 obtain⟨R,aC⟩:∃R,R=jN p l:=⟨_,rfl⟩
 rw[<-aC];unfold fP;refine az.bd f64 mixed fun aD=>?_;simp;refine ck.of Nat (fun i=>[(0,.x (.one (.list 7 (l.map Rec.row)))),(1,.x (.one (.jQ g [c]))),(7,.x (.one (.int .i64 l.length))),(8,.x (.one (.int .i64 i)))]) (ft (fun e=>!p e) l) (fun i=>l.length-i) 0 ft.zero ?_ ?_
 ·simp
 intro i ah;have cG:=ah.1;by_cases ar:i<l.length
 ·have aS:((i:Int)<(l.length:Int))=True:=aY;have Jd:=bc ((i:Int)+1);have aE:=ap l[i] (hS ar);have a_:l[i].row=[.int .i64 l[i].kind,.str l[i].id,.str l[i].of,.int .i64 l[i].time,.str l[i].key,.list 2 (l[i].aT.map Head.row),b5 l[i].block]:=rfl;rw[a_]at aE;simp[ar,aS,a_];refine aH.of aE ?_;cases am:p l[i]
  ·simp[Jd];exact bt.of (i+1) (ah.step ar (by rw[am];rfl)) (by omega) (by simp)
  ·have:=zak ah ar am;rw[this]at aC;subst aC;simp
 ·have aS:((i:Int)<(l.length:Int))=False:=a8;have jV:i=l.length:=by omega
  subst jV;have:=zal ah;rw[this]at aC;subst aC;simp[aS]
def zmM(l:List Head)(g:FuncId)(c:ag)(p:Head->Bool)(ap:∀r∈l,az prog g [.agg r.row,.one c] (.x (.one (.bool (p r)))))(al:l.length<=1000000000) :
  az prog 231 [qs l,.one (.jQ g [c])] (.x (.one (.int .i64 (jN p l)))):=by
 obtain⟨R,aC⟩:∃R,R=jN p l:=⟨_,rfl⟩
 rw[<-aC];refine az.bd f231 mixed fun aD=>?_;simp;refine ck.of Nat (fun i=>[(0,.x (qs l)),(1,.x (.one (.jQ g [c]))),(7,.x (.one (.int .i64 l.length))),(8,.x (.one (.int .i64 i)))]) (ft (fun e=>!p e) l) (fun i=>l.length-i) 0 ft.zero ?_ ?_
 ·simp
 intro i ah;have cG:=ah.1;by_cases ar:i<l.length
 ·have aS:((i:Int)<(l.length:Int))=True:=aY;have Jd:=bc ((i:Int)+1);have aE:=ap l[i] (hS ar);have a_:∀h:Head,h.row=[.str h.name,.str h.value]:=fun _=>rfl;rw[a_]at aE;simp[ar,aS,a_];refine aH.of aE ?_;cases am:p l[i]
  ·simp[Jd];exact bt.of (i+1) (ah.step ar (by rw[am];rfl)) (by omega) (by simp)
  ·have:=zak ah ar am;rw[this]at aC;subst aC;simp
 ·have aS:((i:Int)<(l.length:Int))=False:=a8;have jV:i=l.length:=by omega
  subst jV;have:=zal ah;rw[this]at aC;subst aC;simp[aS]
def zmN(r:Rec)(w:aq):az prog 165 [.agg r.row,.one (.ref [.str w])] (.x (.one (.bool (r.id==w)))):=by unfold Rec.row;refine az.bd f165 mixed fun aD=>?_;simp
def zmO(h:Head)(w:aq):az prog 232 [.agg h.row,.one (.ref [.str w])] (.x (.one (.bool (eN h.name==w)))):=by have k:=IF h.name;unfold Head.row;refine az.bd f232 mixed fun aD=>?_;simp;refine aH.of k ?_;simp
def ng(l:List Rec)(w:aq):Option Nat:=l.findIdx? fun r=>r.id==w
def h_(l:List Rec)(w:aq):Rec:=((ng l w).bind fun i=>l[i]?).getD fS
def zan(l:List Rec)(w:aq)(al:l.length<=1000000000):az prog 119 [fP l,.one (.str w)] (.b2 [.agg (h_ l w).row,.one (.bool (ng l w).isSome)]):=by
 have k:=zam l 165 (.ref [.str w]) (fun r=>r.id==w) (fun r _=>zmN r w) al;have hs:=yA (fun r:Rec=>r.id==w) l;unfold h_ ng;unfold fP at*;generalize jN (fun r:Rec=>r.id==w) l=I at*;generalize l.findIdx? (fun r:Rec=>r.id==w)=O at*;refine az.bd f119 mixed fun aD=>?_;simp;refine aH.of k ?_;rcases hs with⟨rfl,rfl⟩|⟨i,rfl,rfl,ar⟩
 ·simp[fS,Rec.row]
 ·have a1:((i:Int)<0)=False:=a8;have aS:((i:Int)<(l.length:Int))=True:=aY;have a_:l[i].row=[.int .i64 l[i].kind,.str l[i].id,.str l[i].of,.int .i64 l[i].time,.str l[i].key,.list 2 (l[i].aT.map Head.row),b5 l[i].block]:=rfl;simp[a1,ar,aS,a_]
def ub(l:List Head)(w:aq):Option Nat:=l.findIdx? fun h=>eN h.name==w
def M0(l:List Head)(w:aq):Int:=jN (fun h=>eN h.name==w) l
def zao(r:Rec)(w:aq)(al:r.aT.length<=1000000000):az prog 167 [.agg r.row,.one (.str w)] (.x (.one (.int .i64 (M0 r.aT w)))):=by have k:=zmM r.aT 232 (.ref [.str w]) (fun h=>eN h.name==w) (fun h _=>zmO h w) al;unfold M0 Rec.row;refine az.bd f167 mixed fun aD=>?_;simp;refine aH.of k ?_;simp
def uc(s:aq):Nat:=if fw 4 s=true then bV s else 0
def zap(s:aq):az prog 168 [.one (.str s)] (.x (.one (.int .i64 (uc s)))):=by
 have k:=MO 4 (by omega) s;unfold uc;refine az.bd f168 mixed fun aD=>?_;simp;refine aH.of k ?_;cases h:fw 4 s
 ·simp
 ·obtain⟨aa,ab,_⟩:=Af h;have aQ:=wV s _ (by omega) aa;simp;refine aH.of aQ ?_;simp
def zmP(l:List Head)(al:l.length<=1000000):az prog 166 [qs l] (.own 153 2 (l.map Head.row)):=by
 cases l with
 |nil=>
  refine az.Rj (pre:=[]) (post:=[]) ?_ ?_
  ·refine az.bd f166 mixed fun aD=>?_;simp
  ·refine az.bd f166 mixed fun aD=>?_;simp
 |cons x r=>have a_:x.row=[.str x.name,.str x.value]:=rfl;simp at al;refine az.bd f166 mixed fun aD=>?_;simp[a_];unfold maxLen;omega
def zmQ(l:aq)(ad:l.length<=16777216):az prog 161 [.one (b5 l)] (.own 5 1 (bq l)):=by
 cases l with
 |nil=>
  refine az.Rj (pre:=[]) (post:=[]) ?_ ?_
  ·refine az.bd f161 mixed fun aD=>?_;simp[bq]
  ·refine az.bd f161 mixed fun aD=>?_;simp[bq]
 |cons x r=>simp at ad;refine az.bd f161 mixed fun aD=>?_;simp[bq,ie];unfold maxLen;omega
open Go.Lib Go.RowKit
def SI(w:bb)(g o:Nat)(t:aP)(dF:Nat×Nat)(bN:Array aI)(vs:List aI)(ay:w.heap[g]?=some (.cells bN t dF))(aZ:Gj dF bN.size)(al:o+vs.length<=bN.size)(aa:∀v∈vs,v.oneCell'=true) :
  w.setCells g o vs=w.setRow g (bN.toList.take o++vs++bN.toList.drop (o+vs.length)).toArray:=by
 have ap:∀j,j<vs.length->w.cell? ⟨g,o+0+j,none⟩=some (bN.getD (o+0+j) undef):=by intro j ac;simp[World.cell?,ay,show o+j<bN.size by omega]
 have aw:∀j,j<vs.length->w.frozen? ⟨g,o+0+j,none⟩=false:=by
  intro j ac;rcases aZ with rfl|aZ
  ·simp[World.frozen?,ay]
  ·obtain⟨aO,e_⟩:=dF;simp[World.frozen?,ay];intro h;dsimp only at aZ;omega
 have ax:=De default g o t dF vs 0 bN w ay aZ (by omega) aa;have aK:=run_storeCells_cells (P:=default) g o vs 0 w (fun j ac=>by rw[ap j ac];rfl) aw aa;rw[ax]at aK;simp only[xg]at aK;injection aK with _ aK
 exact aK.symm
def zmR(w:bb)(t e ty:aP)(z:aI)(bv:prog.underlying t=some (.slice e))(aF:∀w,(zeroValue e).run prog w=.ok z w)(aZ:z.cells=#[.string ⟨#[]⟩,.string ⟨#[]⟩])(b o c:Nat)
  (ap:∀j,j<2->(w.cell? ⟨b,o+j,none⟩).isSome=true)(aw:∀j,j<2->w.frozen? ⟨b,o+j,none⟩=false) :
  (Builtin.clear_ #[t] ty #[.slice (some ⟨b,o,none⟩) 1 c]).run prog w=.ok (.tuple #[]) (w.setCells b o [.string ⟨#[]⟩,.string ⟨#[]⟩]):=by
 have zmS:(Builtin.zeroCells z.cells 1).toList=[.string ⟨#[]⟩,.string ⟨#[]⟩]:=by rw[aZ];simp[Builtin.zeroCells,List.range_succ]
 have cu:=run_storeCells_cells (P:=prog) b o [.string ⟨#[]⟩,.string ⟨#[]⟩] 0 w (fun j ac=>by simpa using ap j (by simpa using ac)) (fun j ac=>by simpa using aw j (by simpa using ac)) (by intro v h1;simp at h1;subst h1;rfl);simp only[xg]at cu;simp[Builtin.clear_,run_underlying bv,aF,zmS,cu]
def zmT(w:bb)(g n cap i:Nat)(bN:Array aI)(dF:Nat×Nat)(bo:w.heap[g]?=some (.cells bN 153 dF))(kb:Gj dF bN.size)(ah:i<n)(aX:n<=cap)(hm:cap<=9223372036854775807)(wk:n<=1000000)(eD:bN.size=cap*2)
  (aa:∀v∈bN.toList.take (n*2),v.oneCell'=true) :
  Calls prog 169 #[.slice (some ⟨g,0,none⟩) n cap,.int .i64 i,.int .i64 ((i:Int)+1)] w fun e w'=>e=.returned (.slice (some ⟨g,0,none⟩) (n-1) cap) /\
   w'=(w.drew.setCells g (i*2) ((bN.toList.drop ((i+1)*2)).take ((n-(i+1))*2))).setCells g ((n-1)*2) [.string ⟨#[]⟩,.string ⟨#[]⟩]:=by
 obtain⟨er,nl⟩:∃er,er=(bN.toList.drop ((i+1)*2)).take ((n-(i+1))*2):=⟨_,rfl⟩
 rw[<-nl];have cX:er.length=(n-(i+1))*2:=by rw[nl,e',eP,l4,eD];omega
 have ip:∀j,j<cap*2->w.cell? ⟨g,j,none⟩=bN.toList[j]?:=by intro j ac;rw[cell_of_row w g j bN _ dF bo];simp
 have JQ:∀j,j<cap*2->w.frozen? ⟨g,j,none⟩=false:=by
  intro j ac;rcases kb with rfl|aZ
  ·simp[World.frozen?,bo]
  ·obtain⟨aO,e_⟩:=dF;simp[World.frozen?,bo];intro h;dsimp only at aZ;omega
 have wb:∀t u,er[t]?=some u->w.cell? ⟨g,(i+1)*2+t,none⟩=some u:=by
  intro t u hu;have bv:=(eQ.1 hu).1;rw[ip _ (by omega)];rw[nl,l0]at hu;split at hu
  ·rw[js]at hu;exact hu
  ·cases hu
 obtain⟨A,c0,fB⟩:∃A:Go.Addr,(if cap=i+1 then some (⟨g,0,none⟩:Go.Addr)else some ⟨g,(i+1)*2,none⟩)=some A/\Hid (∀t u,er[t]?=some u->w.drew.cell? (A.add t)=some u):=by
  by_cases h:cap=i+1
  ·refine⟨⟨g,0,none⟩,by simp[h],fun t u hu=>?_⟩;have:=(eQ.1 hu).1;omega
  ·refine⟨⟨g,(i+1)*2,none⟩,by simp[h],fun t u hu=>?_⟩;rw[n7];exact wb t u hu
 have s1:Hid (er.length=(n-(i+1))*2):=cX;have s2:Hid (∀u∈er,u.oneCell'=true):=by intro u hu;rw[nl]at hu;rw[List.take_drop,show (i+1)*2+(n-(i+1))*2=n*2 by omega]at hu;exact aa u (vZ hu)
 have FM:Hid (∀t,t<er.length->(w.drew.cell? ⟨g,0+i*2+t,none⟩).isSome=true/\w.drew.frozen? ⟨g,0+i*2+t,none⟩=false):=by
  intro t bv;rw[cX]at bv;rw[hv];refine⟨?_,JQ _ (by omega)⟩;show (w.cell? _).isSome=true
  rw[ip _ (by omega),cr (by rw[l4,eD];omega)];rfl
 obtain⟨sQ,SJ⟩:∃sQ,sQ=w.drew.setCells g (0+i*2) er:=⟨_,rfl⟩
 have zaq:sQ=w.drew.setRow g (bN.toList.take (i*2)++er++bN.toList.drop (i*2+er.length)).toArray:=by rw[SJ,hv];exact SI w.drew g (i*2) _ dF bN er bo kb (by rw[cX,eD];omega) s2.out
 have a_:sQ.heap[g]?=some (.cells (bN.toList.take (i*2)++er++bN.toList.drop (i*2+er.length)).toArray 153 dF):=by rw[zaq];exact setRow_heap w.drew g bN _ _ dF bo
 have A3:(bN.toList.take (i*2)++er++bN.toList.drop (i*2+er.length)).length=cap*2:=by simp only[eG,e',eP,l4,eD,cX];omega
 have em:i+(n-(i+1))=n-1:=by omega
 have gC:∀ty,(Builtin.clear_ #[76] ty #[.slice (some ⟨g,(i+(n-(i+1)))*2,none⟩) (n-(i+(n-(i+1)))) (cap-(i+(n-(i+1))))]).run prog sQ=.ok (.tuple #[]) (sQ.setCells g ((n-1)*2) [.string ⟨#[]⟩,.string ⟨#[]⟩]):=by
  intro ty;rw[em,show n-(n-1)=1 by omega];exact zmR sQ _ 153 ty _ underlying76 (fun w=>zeroValue153 w) rfl g ((n-1)*2) _ (fun j ac=>by
   rw[cell_of_row sQ g _ _ _ dF a_];rw[List.getElem?_toArray,cr (by rw[A3];omega)];rfl) (fun j ac=>by
   rcases kb with rfl|aZ
   ·simp[World.frozen?,a_]
   ·obtain⟨aO,e_⟩:=dF;simp[World.frozen?,a_];intro h;dsimp only at aZ;omega)
 have g9:Hid (sQ=w.drew.setCells g (0+i*2) er):=SJ;have zHq:i<=cap:=by omega
 have zHr:i+1<=cap:=by omega
 have bC:i64.wrap ((i:Int)+1)=(i:Int)+1:=by rw[IntKind.wrap_i64];omega
 have zar:(0:Int)<=(i:Int)+1:=by omega
 have jf:(i:Int)+1<=(n:Int):=by omega
 have jU:((i:Int)+1).toNat=i+1:=by omega
 have Og:(i:Int)+1<=(cap:Int):=by omega
 have bY:¬((i:Int)=(i:Int)+1):=by omega
 have zmU:(prog.info? 153).map (·.size)=some 2:=by kernel_rfl
 obtain⟨i0,zx,zmV⟩:=SK.1 zmU;have sj:prog.follows .mixedOrders=true:=mixed;have zmW:Hid (i+(n-(i+1))=n-1):=em;clear em SJ zaq a_ A3 wb nl cX ip JQ bo kb aa eD
 go_enter func169,ntmps169
 go_wp2_with fail
 go_region_law_o (refine step_append_room rfl (.tmp 22) (.tmp 25) 76 rfl 153 i0 2 underlying76 zx zmV g 0 i cap (by simp[Act.eval,Act.put]) A (n-(i+1)) (cap-(i+1)) er (by simp[Act.eval,Act.put]) s1.out fB.out s2.out (by omega) FM.out ?_;rw[<-g9.out])
 go_wp2
 go_ret
 refine⟨by rw[zmW.out];rfl,?_⟩;rw[g9.out,hv]
def zmX(l:List Head)(i:Nat)(ah:i<l.length)(hA:l.length<=1000000) :
  cx prog 169 [.own 153 2 (l.map Head.row),.x (.one (.int .i64 i)),.x (.one (.int .i64 ((i:Int)+1)))] (.own 153 2 ((l.take i++l.drop (i+1)).map Head.row)) [.dead,.dead,.dead]:=by
 refine⟨(rf f169 (by kernel_rfl) (by kernel_rfl) rfl),rfl,fun w E vs eW fK=>?_⟩;have a1:=(fK.rep 0 _ rfl).2;have aa:bD w E.rd (.int .i64 i) (cw vs 1):=(fK.rep 1 _ rfl).2;have ab:bD w E.rd (.int .i64 ((i:Int)+1)) (cw vs 2):=(fK.rep 2 _ rfl).2;have ax:cw vs 1=.int .i64 i:=by generalize cw vs 1=u at aa;cases aa;rfl
 have aK:cw vs 2=.int .i64 ((i:Int)+1):=by generalize cw vs 2=u at ab;cases ab;rfl
 have gO:vs=#[cw vs 0,cw vs 1,cw vs 2]:=by
  have cB:=fK.size;simp only[hz,ur]at cB;have:2<vs.size:=by
   rcases mH 2 vs.size with h|h
   ·exact h
   ·exfalso;have:cw vs 2=undef:=by simp[cw,H3 h]
    rw[this]at aK;cases aK
  apply Array.ext
  ·simp;omega
  ·intro j Cj MA;have zmY:j<3:=by simpa using MA
   match j,zmY with
   |0,_=>simp[cw,vT Cj]
   |1,_=>simp[cw,vT Cj]
   |2,_=>simp[cw,vT Cj]
 obtain⟨us,aB,al,ai,hm,bk⟩:=a1;have D1:(l.map Head.row).length=l.length:=by simp
 rw[D1]at aB hm;rcases aB.2 with⟨_,h⟩|⟨g,cap,bN,aF,_,⟨dF,bo,kb⟩,rP,ht,eD,gy⟩
 ·omega
 have Je:E.fb g:=bk g (by rw[aF];rfl);have ak:=zmT w g l.length cap i bN dF bo kb ah rP (by unfold maxLen at ht;omega) hA eD (fun v Al=>by rw[gy]at Al;exact cO.zd al v Al);have zmZ:vs=#[.slice (some ⟨g,0,none⟩) l.length cap,.int .i64 i,.int .i64 ((i:Int)+1)]:=by rw[gO,aF,ax,aK]
 rw[zmZ];refine ak.mono ?_;rintro e w' ⟨rfl,rfl⟩;have nv:us.length=l.length*2:=aB.1;obtain⟨er,nl⟩:∃er,er=(bN.toList.drop ((i+1)*2)).take ((l.length-(i+1))*2):=⟨_,rfl⟩
 rw[<-nl];have gC:bN.toList.length=cap*2:=by simpa using eD
 have cX:er.length=(l.length-(i+1))*2:=by rw[nl,e',eP,gC];omega
 have zas:er=us.drop ((i+1)*2):=by rw[nl,List.take_drop,show (i+1)*2+(l.length-(i+1))*2=l.length*2 by omega,gy]
 have A0:∀v∈er,v.oneCell'=true:=by intro v Al;rw[zas]at Al;exact cO.zd al v (vZ Al)
 have pA:=SI w.drew g (i*2) _ dF bN er bo kb (by rw[cX,eD];omega) A0;obtain⟨iy,SL⟩:∃iy,iy=(bN.toList.take (i*2)++er++bN.toList.drop (i*2+er.length)).toArray:=⟨_,rfl⟩
 rw[<-SL]at pA;have SM:iy.size=bN.size:=by rw[SL,n3];simp only[eG,e',eP,gC,eD,cX];omega
 rw[pA];have zat:=setRow_heap w.drew g bN iy _ dF bo;have r8:=SI (w.drew.setRow g iy) g ((l.length-1)*2) _ dF iy [.string ⟨#[]⟩,.string ⟨#[]⟩] zat (by rw[SM];exact kb) (by rw[SM,eD];simp;omega) (by intro v Al;simp at Al;subst Al;rfl);rw[r8];obtain⟨mL,SN⟩:∃mL,mL=(iy.toList.take ((l.length-1)*2)++[Value.string ⟨#[]⟩,.string ⟨#[]⟩]++iy.toList.drop ((l.length-1)*2+2)).toArray:=⟨_,rfl⟩
 have zna:(iy.toList.take ((l.length-1)*2)++[Value.string ⟨#[]⟩,.string ⟨#[]⟩]++iy.toList.drop ((l.length-1)*2+[Value.string ⟨#[]⟩,.string ⟨#[]⟩].length)).toArray=mL:=by rw[SN];rfl
 rw[zna];have zau:mL.size=bN.size:=by
  have znb:iy.toList.length=cap*2:=by simpa[eD]using SM
  rw[SN,n3];simp only[eG,e',eP,hz,ur,znb,eD];omega
 have zav:=setRow_heap (w.drew.setRow g iy) g iy mL _ dF zat;obtain⟨w6,FN⟩:∃w6,w6=(w.drew.setRow g iy).setRow g mL:=⟨_,rfl⟩
 rw[<-FN]at zav⊢;have zaw:∀k,k≠g->w6.heap[k]?=w.heap[k]?:=by intro k ak;rw[FN,setRow_other _ g k _ ak,setRow_other _ g k _ ak];rfl
 have vI:w6.heap.size=w.heap.size:=by rw[FN,(DW (w:=w.drew.setRow g iy) g mL).2,(DW (w:=w.drew) g iy).2];rfl
 have I9:mL.toList.take ((l.length-1)*2)=us.take (i*2)++us.drop ((i+1)*2):=by
  have Mb:bN.toList.take (i*2)=us.take (i*2):=by rw[<-gy,List.take_take,Nat.min_eq_left (by omega)]
  have k3:(us.take (i*2)++us.drop ((i+1)*2)).length=(l.length-1)*2:=by simp[nv];omega
  have aa:iy.toList.take ((l.length-1)*2)=us.take (i*2)++us.drop ((i+1)*2):=by rw[SL,<-k3,Mb,zas,List.toList_toArray,Gk]
  rw[SN,List.toList_toArray,pG,List.take_left' (by rw[aa,k3]),aa]
 have k_:∀b,E.rd b->b≠g:=fun b ad oZ=>by subst oZ;exact eW.apart b ad Je
 have cl:∀b,¬wg [.dead,.dead,.dead] #[.slice (some ⟨g,0,none⟩) l.length cap,.int .i64 i,.int .i64 ((i:Int)+1)] b:=by
  rintro b ⟨j,o,ac,ad⟩
  match j,ac with
  |0,ac=>cases ac;cases ad
  |1,ac=>cases ac;cases ad
  |2,ac=>cases ac;cases ad
  |j+3,ac=>simp at ac
 refine⟨_,rfl,?_,⟨us.take (i*2)++us.drop ((i+1)*2),⟨?_,.inr ⟨g,cap,mL,?_,cj _,⟨dF,zav,by rw[zau];exact kb⟩,?_,ht,by rw[zau,eD],?_⟩⟩,?_,?_,?_,?_⟩,?_,?_⟩
 ·exact⟨by rw[FN];rfl,by rw[FN];rfl,by rw[FN];rfl,by rw[vI];exact f_ _,fun k _ ak=>zaw k (fun e=>ak (by rw[e];exact Je))⟩
 ·simp[nv];omega
 ·simp;omega
 ·simp;omega
 ·rw[<-I9];congr 1;simp;omega
 ·have fH:((l.take i++l.drop (i+1)).map Head.row).flatten=(l.map Head.row).flatten.take (i*2)++(l.map Head.row).flatten.drop ((i+1)*2):=by
   rw[qa,KL,Fy,CC,Dz ai,GJ ai]
  rw[fH];have ke:cO w6 (fun b=>jA w w6 E [.dead,.dead,.dead] #[.slice (some ⟨g,0,none⟩) l.length cap,.int .i64 i,.int .i64 ((i:Int)+1)] b/\Value.ownBlock (.slice (some ⟨g,0,none⟩) (l.length-1) cap)≠some b) (l.map Head.row).flatten us:=
   al.mono (fun b ad=>⟨⟨.inl ad,cl b⟩,fun h=>k_ b ad (by simpa[Value.ownBlock]using h.symm)⟩) (fun b ad=>zaw b (k_ b ad))
  have zax:(l.map Head.row).flatten.length=us.length:=ke.1.symm;refine⟨by simp[zax],fun j c ac=>?_⟩;rw[ze]at ac⊢;have vn:((l.map Head.row).flatten.take (i*2)).length=(us.take (i*2)).length:=by simp[zax]
  rw[vn]at ac;split at ac
  ·rename_i h;rw[av h];rw[l0]at ac⊢;split at ac
   ·rename_i bx;rw[av bx];exact ke.2 _ _ ac
   ·cases ac
  ·rename_i h;rw[an h];rw[js]at ac⊢;exact ke.2 _ _ ac
 ·intro x Fo;obtain⟨h,_,rfl⟩:=hx.1 Fo;rfl
 ·simp;unfold maxLen;omega
 ·intro b ad;have ad:g=b:=by simpa[Value.ownBlock]using ad
  subst ad;exact⟨.inr (.inl Je),cl g⟩
 ·intro b ad;have ad:g=b:=by simpa[bH.ij,Value.ownBlock]using ad
  subst ad;exact⟨⟨.inr (.inl Je),cl g⟩,fun h=>eW.apart g h Je⟩
 ·intro j o ac
  match j,ac with
  |0,ac=>cases ac;trivial
  |1,ac=>cases ac;trivial
  |2,ac=>cases ac;trivial
  |j+3,ac=>simp at ac
def oP:aq:=[112,105,101,99,101,115]
def sR:aq:=[110,117,109,98,101,114]
def j'(x:Rec):Nat:=uc (((ub x.aT sR).bind fun j=>x.aT[j]?).getD ⟨[],[]⟩).value
def mw(r:Rec)(id:aq)(x:Rec):Bool:=x.kind==5&&(x.of==id&&((ub x.aT sR).isSome&&(x.time==r.time&&x.key==r.key)))
def qz(l:List Rec)(r:Rec)(id:aq)(n:Nat):List Rec:=l.filter fun x=>mw r id x&&j' x==n
def rC(r:Rec)(hs:List Head)(vO:Nat->List Rec):Nat->Nat->aq->Rec×Int
 |0,_,b=>if hH {r with aT:=hs,block:=b}≠0 then (fS,hH {r with aT:=hs,block:=b})else ({r with aT:=hs,block:=b},0)
 |k+1,n,b=>if (vO n).length≠1 then (fS,9)else rC r hs vO k (n+1) (b++((vO n).headD fS).block)
def nh(l:List Rec)(id:aq):Rec×Int:=
 if (ng l id).isSome=false\/(h_ l id).kind=5 then (fS,9)
 else match ub (h_ l id).aT oP with
  |none=>(h_ l id,0)
  |some k=>
   if uc (((h_ l id).aT[k]?).getD ⟨[],[]⟩).value<2 then (fS,3)
   else rC (h_ l id) ((h_ l id).aT.take k++(h_ l id).aT.drop (k+1)) (qz l (h_ l id) id) (uc (((h_ l id).aT[k]?).getD ⟨[],[]⟩).value-1) 2 (h_ l id).block
structure ni where
 key:Nat
 v:aI
 fE:List Rec
def sS(D:List ni):List (aG×aG):=D.map fun d=>(.one (.int .i64 d.key),.one (.atom d.v))
def CZ(D:List ni):List (aG×aG):=D.map fun d=>(.one (.int .i64 d.key),.one (.list 7 (d.fE.map Rec.row)))
def qA(D:List ni):List (aI×List (List ag)):=D.map fun d=>(d.v,d.fE.map Rec.row)
def zay(n:Nat)(D:List ni)(f:ni->aG):∀i,fz (.i .i64) (.one (.int .i64 n)) (D.map fun d=>(.one (.int .i64 d.key),f d)) i=some ((D.findIdx? fun d=>d.key==n).map (·+i)):=by
 induction D with
 |nil=>intro i;rfl
 |cons d r ba=>
  intro i;simp only[kC,fz,uw,M1];by_cases h:d.key=n
  ·subst h;simp
  ·have aa:((n:Int)==(d.key:Int))=false:=by rw[jj];omega
   have ab:(d.key==n)=false:=by rw[jj];exact h
   rw[aa,ab,ba (i+1)];cases r.findIdx? fun d=>d.key==n with
   |none=>rfl
   |some j=>simp;omega
structure sT(r:Rec)(id:aq)(ls:List Rec)(D:List ni):Prop where
 M2:(D.map ni.key).Nodup
 fE:∀d∈D,d.fE=qz ls r id d.key
 all:∀x∈ls,mw r id x=true->j' x∈D.map ni.key
def sT.nil(r:Rec)(id:aq):sT r id [] []:=⟨by simp,by simp,by simp⟩
def SO(ls:List Rec)(r:Rec)(id:aq)(x:Rec)(n:Nat):qz (ls++[x]) r id n=qz ls r id n++(if (mw r id x&&j' x==n)=true then [x]else []):=by unfold qz;rw[ME];congr 1;simp only[L1,List.filter_nil]
def sT.skip{r:Rec}{id:aq}{ls:List Rec}{D:List ni}{x:Rec}(h:sT r id ls D)(ai:mw r id x=false):sT r id (ls++[x]) D:=by
 refine⟨h.M2,fun d aA=>?_,fun y aU am=>?_⟩
 ·rw[SO,ai];simpa using h.fE d aA
 ·rcases hg.1 aU with aa|aa
  ·exact h.all y aa am
  ·obtain rfl:y=x:=by simpa using aa
   rw[ai]at am;cases am
def sT.add{r:Rec}{id:aq}{ls:List Rec}{D:List ni}{x:Rec}(h:sT r id ls D)(ai:mw r id x=true)(aX:j' x∉D.map ni.key)(v:aI):sT r id (ls++[x]) (D++[⟨j' x,v,[x]⟩]):=by
 have cl:qz ls r id (j' x)=[]:=by unfold qz;rw[Mz];intro y aU ad;simp only[b7,fc]at ad;exact aX (by rw[<-ad.2];exact h.all y aU ad.1)
 refine⟨?_,fun d aA=>?_,fun y aU am=>?_⟩
 ·rw[qa,Iq];refine⟨h.M2,by simp,fun a bj b ad=>?_⟩;obtain rfl:b=j' x:=by simpa using ad
  rintro rfl;exact aX bj
 ·rw[SO];rcases hg.1 aA with aa|aa
  ·have bY:(j' x==d.key)=false:=by rw[jj];intro e;exact aX (by rw[e];exact hx.2 ⟨d,aa,rfl⟩)
   rw[ai,bY];simpa using h.fE d aa
  ·obtain rfl:d=⟨j' x,v,[x]⟩:=by simpa using aa
   simp only[cl];rw[ai];simp
 ·rw[qa,hg];rcases hg.1 aU with aa|aa
  ·exact .inl (h.all y aa am)
  ·obtain rfl:y=x:=by simpa using aa
   exact .inr (by simp)
def sT.grow{r:Rec}{id:aq}{ls:List Rec}{D:List ni}{x:Rec}{j:Nat}(h:sT r id ls D)(ai:mw r id x=true)(ac:j<D.length)(ak:D[j].key=j' x)(v:aI):sT r id (ls++[x]) (D.set j ⟨j' x,v,D[j].fE++[x]⟩):=by
 have zaz:(D.set j ⟨j' x,v,D[j].fE++[x]⟩).map ni.key=D.map ni.key:=by
  rw[List.map_set];apply y_;intro i;rw[y7];split
  ·rename_i e;subst e;simp[ac,ak]
  ·rfl
 refine⟨by rw[zaz];exact h.M2,fun d aA=>?_,fun y aU am=>?_⟩
 ·obtain⟨i,ah,rfl⟩:=GF aA;rw[SO];have e_:i<D.length:=by simpa using ah
  rw[List.getElem_set];by_cases e:j=i
  ·subst e;rw[av rfl];simp only;rw[ai];have:=h.fE D[j] (hS ac);rw[ak]at this;rw[this];simp
  ·rw[an e];have bY:(j' x==D[i].key)=false:=by
    rw[jj];intro aK;have aa:(D.map ni.key)[j]'(by simpa using ac)=(D.map ni.key)[i]'(by simpa using e_):=by simp[ak,aK]
    have am:=RS.1 h.M2;rcases mH j i with ab|ab
    ·exact am j i (by simpa using ac) (by simpa using e_) ab aa
    ·exact am i j (by simpa using e_) (by simpa using ac) (by omega) aa.symm
   rw[ai,bY];simpa using h.fE D[i] (hS e_)
 ·rw[zaz];rcases hg.1 aU with aa|aa
  ·exact h.all y aa am
  ·obtain rfl:y=x:=by simpa using aa
   rw[<-ak];exact hx.2 ⟨_,hS ac,rfl⟩
def rD{j a:Nat}(h:a<2000000):(2000000+j=a)=False:=a8
def Jf{j a:Nat}(h:a<2000000):(a=2000000+j)=False:=a8
@[simp]def zHs(s:aj)(v:aI):hO s (.x (.one (.atom v)))=none:=(rfl)
@[simp]def zHt:L4 none=none:=(rfl)
def znc{l:List Rec}{id:aq}(h:(ng l id).isSome=true):h_ l id∈l:=by
 unfold h_ ng at*;cases aw:l.findIdx? fun r=>r.id==id with
 |none=>rw[aw]at h;cases h
 |some i=>have ar:=(kT.1 aw).1;simp[ar]
def zaA{s:aq}:uc s<=9999:=by
 unfold uc;split
 ·rename_i h;obtain⟨_,aa,ab⟩:=Af h;have:=qo s ab;have am:(10:Nat)^s.length<=10^4:=Cs (by decide) aa;omega
 ·omega
def FO(l:List Rec)(id:aq)(r:Rec)(hs:List Head)(M:Nat)(D:List ni)(x:Nat×aq):List (Nat×ae):=
 [(0,.x (.one (.list 7 (l.map Rec.row)))),(1,.x (.one (.str id))),(4,.box [.int .i64 0,.str [],.str [],.int .i64 0,.str [],.nil,.nil]),(6,.box [.int .i64 r.kind,.str r.id,.str r.of,.int .i64 r.time,.str r.key,.any,.any]),
   (9,.x (.one (.int .i64 M))),(10,.mp D.length (List.range D.length) (CZ D)),(14,.x (.one (.int .i64 x.1))),(58,.own 153 2 (hs.map Head.row)),
   (999999,.res [(6,5),(6,6)]),(1006005,.link 6 5 58)]++(if x.1=2 then [(35,.own 5 1 (bq x.2)),(1006006,.link 6 6 35)]else [(136,.own 5 1 (bq x.2)),(1006006,.link 6 6 136)])
def zaB(l:List Rec)(id:aq)(al:l.length<=1000)(ao:∀r∈l,hH r=0):az prog 121 [fP l,.one (.str id)] (.b2 [.agg (nh l id).1.row,.one (.int .i64 (nh l id).2)]):=by
 obtain⟨R,aC⟩:∃R,R=nh l id:=⟨_,rfl⟩
 rw[<-aC];unfold nh at aC;have aE:=zan l id (by omega);have Bz:=znc (l:=l) (id:=id);generalize DO:h_ l id=r at*;generalize (ng l id).isSome=B at*;unfold fP at*;have aZ:fS.row=[.int .i64 0,.str [],.str [],.int .i64 0,.str [],.list 2 [],.list 1 []]:=rfl;have a_:∀x:Rec,x.row=[.int .i64 x.kind,.str x.id,.str x.of,.int .i64 x.time,.str x.key,.list 2 (x.aT.map Head.row),b5 x.block]:=fun _=>rfl;rw[a_ r]at aE;refine @az.E2 _ (x7 [5,6,7,26] [18] [(4,[1,1,1,1,1,1,1,0,1,0]),(18,[7,1,1,1,1,1,1,1,1,1,1,1,1,1,1,1,1,1,1,9,0]),(25,[1,1,1,1,1,1,1,1,4,1,0])]) [(6,5),(6,6)] [] _ _ _ _ _ (by simp) mixed (fn:=f121) (by kernel_rfl) (by kernel_rfl) rfl (by kernel_rfl) (by simp[f121]) (fun aD=>?_);simp;refine aH.of aE ?_;cases B
 ·rw[av (.inl rfl)]at aC;subst aC;simp[aZ]
 have rx:=w5 (ao r (Bz rfl));by_cases vy:r.kind=5
 ·rw[av (.inr vy)]at aC;subst aC;have sN:(r.kind=5)=True:=bW vy;simp[aZ,sN]
 rw[an (by simp[vy])]at aC;have sN:(r.kind=5)=False:=bz vy;have bo:=rx.Jb;have ad:=rx.block;have aQ:=zmP r.aT (by omega);have bf:=zmQ r.block (by omega);simp[sN];refine aH.of aQ ?_;simp;refine aH.of bf ?_;simp[cU];refine b0.named 6 5 32 1900000 rfl rfl rfl (by decide) rfl (fun v1=>?_);refine b0.named 6 6 35 1900001 rfl rfl rfl (by decide) rfl (fun v2=>?_);refine b0.done ?_;have bM:=zao r oP (by omega);have dW:=yA (fun h:Head=>eN h.name==oP) r.aT;have znd:M0 r.aT oP=jN (fun h:Head=>eN h.name==oP) r.aT:=rfl;have zne:ub r.aT oP=r.aT.findIdx? fun h=>eN h.name==oP:=rfl;rw[znd]at bM;rw[zne]at aC;unfold oP at bM dW aC;rw[a_ r]at bM;simp;refine aH.named bM ⟨⟨.inl rfl,.inl rfl,.inl rfl,.inl rfl,.inl rfl,.inr ⟨v1,1900000,_,_,_,rfl,by decide,rfl,rfl⟩,.inr ⟨v2,1900001,_,_,_,rfl,by decide,rfl,rfl⟩,trivial⟩,.inl rfl,trivial⟩ rfl ?_;simp;refine b0.linked 6 5 32 1900000 rfl rfl rfl rfl rfl ?_;refine b0.linked 6 6 35 1900001 rfl rfl rfl rfl rfl ?_;refine b0.done ?_;rcases dW with⟨ax,aK⟩|⟨k,ax,aK,ak⟩
 ·rw[ax];rw[aK]at aC;subst aC;simp;refine b0.fold 6 5 (b0.fold 6 6 (b0.done ?_));simp[a_]
 rw[ax];rw[aK]at aC;have pl:((k:Int)<0)=False:=a8;have kG:((k:Int)<(r.aT.length:Int))=True:=aY;have dz:=zap r.aT[k].value;have mR:r.aT[k]?=some r.aT[k]:=cr ak;have qB:∀h:Head,h.row=[.str h.name,.str h.value]:=fun _=>rfl;dsimp only at aC;rw[mR,oa]at aC;have zHu:=zaA (s:=r.aT[k].value);simp[pl,kG,ak,qB];refine aH.of dz ?_;generalize uc r.aT[k].value=M at*;by_cases fK:M<2
 ·rw[av fK]at aC;subst aC;have MQ:((M:Int)<2)=True:=aY;simp[MQ,aZ]
 rw[an fK]at aC;have MQ:((M:Int)<2)=False:=a8;have HY:=bc ((k:Int)+1);have iV:=zmX r.aT k ak (by omega);simp[MQ,HY];refine aH.zid ?_;simp;refine c6.of iV ?_;simp[cU];obtain⟨hs,SP⟩:∃hs,hs=r.aT.take k++r.aT.drop (k+1):=⟨_,rfl⟩
 rw[<-SP]at aC;have zHv:List.map Head.row (r.aT.take k)++List.map Head.row (r.aT.drop (k+1))=hs.map Head.row:=by rw[SP,qa]
 refine ck.of (Nat×List ni) (fun x=>[(0,.x (.one (.list 7 (l.map Rec.row)))),(1,.x (.one (.str id))),(4,.box [.int .i64 0,.str [],.str [],.int .i64 0,.str [],.nil,.nil]),(6,.box [.int .i64 r.kind,.str r.id,.str r.of,.int .i64 r.time,.str r.key,.any,.any]),
   (9,.x (.one (.int .i64 M))),(10,.mp x.2.length (List.range x.2.length) (sS x.2)),(35,.own 5 1 (bq r.block)),(58,.own 153 2 (hs.map Head.row)),(61,.x (.one (.list 7 (l.map Rec.row)))),(62,.x (.one (.int .i64 l.length))),(63,.x (.one (.int .i64 x.1))),
   (999999,.res [(6,5),(6,6)]),(1006005,.link 6 5 58),(1006006,.link 6 6 35)]++ve 2000000 78 7 (qA x.2) 0)
  (fun x=>x.1<=l.length/\sT r id (l.take x.1) x.2/\x.2.length<=x.1) (fun x=>l.length-x.1) (0,[]) ⟨cj _,sT.nil r id,f_ _⟩ ?_ ?_
 ·simp[sS,qA,ve,SP]
 rintro⟨i,D⟩ ⟨ah,hM,Ci⟩;dsimp only at ah hM Ci⊢;by_cases ar:i<l.length
 ·have aS:((i:Int)<(l.length:Int))=True:=aY;have bC:=bc ((i:Int)+1);have Bt:=w5 (ao l[i] (hS ar));have gy:l.take (i+1)=l.take i++[l[i]]:=k6 ar;have Pb:l[i]?=some l[i]:=cr ar;have M3:=a_ l[i];have Jg:=zao l[i] sR (by have:=Bt.Jb;omega);rw[M3]at Jg;unfold sR at Jg;simp[ar,aS,M3];refine aH.of Jg ?_;have dW:=yA (fun h:Head=>eN h.name==[110,117,109,98,101,114]) l[i].aT;have SQ:ub l[i].aT sR=l[i].aT.findIdx? fun h=>eN h.name==[110,117,109,98,101,114]:=rfl;have znf:M0 l[i].aT [110,117,109,98,101,114]=jN (fun h=>eN h.name==[110,117,109,98,101,114]) l[i].aT:=rfl;rw[znf];by_cases bw:l[i].kind=5;rotate_left
  ·have c7:(l[i].kind=5)=False:=bz bw;have am:mw r id l[i]=false:=by unfold mw;rw[jj.2 bw,h7]
   simp[c7];refine bt.of (i+1,D) ⟨ar,by rw[gy];exact hM.skip am,Jh Ci⟩ (by simp only;omega) ?_;simp[bC];exact zQ fun j y ac=>by have h:=wP (G:=2000000) (e:=78) (z:=7) (k:=0) ac;rw[hv]at h;simp[h,rD]
  have c7:(l[i].kind=5)=True:=bW bw;by_cases bA:l[i].of=id;rotate_left
  ·have eU:(l[i].of=id)=False:=bz bA;have am:mw r id l[i]=false:=by unfold mw;rw[jj.2 bA,h7,kJ]
   simp[c7,eU];refine bt.of (i+1,D) ⟨ar,by rw[gy];exact hM.skip am,Jh Ci⟩ (by simp only;omega) ?_;simp[bC];exact zQ fun j y ac=>by have h:=wP (G:=2000000) (e:=78) (z:=7) (k:=0) ac;rw[hv]at h;simp[h,rD]
  have eU:(l[i].of=id)=True:=bW bA;rcases dW with⟨f1,f2⟩|⟨m,f1,f2,hm⟩
  ·rw[f1];have am:mw r id l[i]=false:=by unfold mw;rw[SQ,f2];simp
   simp[c7,eU];refine bt.of (i+1,D) ⟨ar,by rw[gy];exact hM.skip am,Jh Ci⟩ (by simp only;omega) ?_;simp[bC];exact zQ fun j y ac=>by have h:=wP (G:=2000000) (e:=78) (z:=7) (k:=0) ac;rw[hv]at h;simp[h,rD]
  rw[f1];have El:(0<=(m:Int))=True:=aY;by_cases cJ:l[i].time=r.time;rotate_left
  ·have jH:(l[i].time=r.time)=False:=bz cJ;have am:mw r id l[i]=false:=by unfold mw;rw[jj.2 cJ];simp
   simp[c7,eU,El,jH];refine bt.of (i+1,D) ⟨ar,by rw[gy];exact hM.skip am,Jh Ci⟩ (by simp only;omega) ?_;simp[bC];exact zQ fun j y ac=>by have h:=wP (G:=2000000) (e:=78) (z:=7) (k:=0) ac;rw[hv]at h;simp[h,rD]
  have jH:(l[i].time=r.time)=True:=bW cJ;by_cases fv:l[i].key=r.key;rotate_left
  ·have Ji:(l[i].key=r.key)=False:=bz fv;have am:mw r id l[i]=false:=by unfold mw;rw[jj.2 fv];simp
   simp[c7,eU,El,jH,Ji];refine bt.of (i+1,D) ⟨ar,by rw[gy];exact hM.skip am,Jh Ci⟩ (by simp only;omega) ?_;simp[bC];exact zQ fun j y ac=>by have h:=wP (G:=2000000) (e:=78) (z:=7) (k:=0) ac;rw[hv]at h;simp[h,rD]
  have Ji:(l[i].key=r.key)=True:=bW fv;have am:mw r id l[i]=true:=by unfold mw;rw[SQ,f2];simp[bw,bA,cJ,fv]
  have nx:((m:Int)<(l[i].aT.length:Int))=True:=aY;have zng:l[i].aT[m]?=some l[i].aT[m]:=cr hm;have znh:j' l[i]=uc l[i].aT[m].value:=by unfold j';rw[SQ,f2];simp[zng]
  have yB:=zap l[i].aT[m].value;rw[<-znh]at yB;simp[c7,eU,El,jH,Ji,nx,hm,qB];refine aH.of yB ?_;simp[nx,hm,qB];refine aH.of yB ?_;have c8:=zay (j' l[i]) D (fun d=>.one (.atom d.v)) 0;have SR:sS D=D.map fun d=>(.one (.int .i64 d.key),.one (.atom d.v)):=rfl;rw[<-SR]at c8;cases hU:D.findIdx? fun d=>d.key==j' l[i]with
  |none=>
   rw[hU]at c8;have zni:j' l[i]∉D.map ni.key:=by rw[sF]at hU;intro h;obtain⟨d,aA,e⟩:=hx.1 h;have:=hU d aA;rw[e]at this;simp at this
   have znj:(qA D).length=D.length:=by simp[qA]
   simp[c8];refine yd.of 115 (2000000+D.length) rfl (by have:f121.ntmps=145:=rfl;omega) (by simp[rD,zit,znj]) (fun v=>?_);simp[c8,Jf];refine bt.of (i+1,D++[⟨j' l[i],v,[l[i]]⟩]) ⟨ar,by rw[gy];exact hM.add am zni v,by simp;omega⟩ (by simp only;omega) ?_;simp[bC,Jf,sS,List.range_succ];refine zQ fun j y ac=>?_;rw[hv];by_cases A1:j<D.length
   ·have gm:(qA D)[j]?=some y:=by
     unfold qA at ac⊢;rw[qa,kx (by simpa using A1)]at ac;exact ac
    have h:=wP (G:=2000000) (e:=78) (z:=7) (k:=0) gm;rw[hv]at h;have bY:(j=D.length)=False:=a8;simp[h,rD,bY]
   ·have MA:j=D.length:=by
     have:=(eQ.1 ac).1;simp[qA]at this;omega
    subst MA;have aU:y=(v,[l[i].row]):=by unfold qA at ac;simp at ac;exact ac.symm
    subst aU;simp[rD,M3]
  |some j=>
   rw[hU]at c8;obtain⟨ac,mK,_⟩:=kT.1 hU;have Jj:D[j].key=j' l[i]:=by simpa using mK
   have tn:(sS D)[j]?=some (.one (.int .i64 D[j].key),.one (.atom D[j].v)):=by unfold sS;rw[eZ,cr ac];rfl
   have iN:(qA D)[j]?=some (D[j].v,D[j].fE.map Rec.row):=by unfold qA;rw[eZ,cr ac];rfl
   have Am:=wP (G:=2000000) (e:=78) (z:=7) (k:=0) iN;rw[hv]at Am;dsimp only at Am;have cX:D[j].fE.length<=1000:=by
    rw[hM.fE D[j] (hS ac)];unfold qz;have:=MC (fun x=>mw r id x&&j' x==D[j].key) (l.take i);have ab:(l.take i).length<=l.length:=by rw[e'];omega
    omega
   simp[c8,tn];refine XU (2000000+j) 78 7 (D[j].fE.map Rec.row) (by have:f121.ntmps=145:=rfl;omega) (by simp[Am,rD]) ?_;simp[Am,rD,Jf];refine⟨⟨by omega,by unfold maxLen;omega⟩,?_⟩;refine yd.of 115 (2000000+j) rfl (by have:f121.ntmps=145:=rfl;omega) (by simp[rD]) (fun v=>?_);simp[c8,Jf];refine bt.of (i+1,D.set j ⟨j' l[i],v,D[j].fE++[l[i]]⟩) ⟨ar,by rw[gy];exact hM.grow am ac Jj v,by simp;omega⟩ (by simp only;omega) ?_;have Ln:sS (D.set j ⟨j' l[i],v,D[j].fE++[l[i]]⟩)=(sS D).set j (.one (.int .i64 D[j].key),.one (.atom v)):=by unfold sS;rw[List.map_set,Jj]
   simp[bC,Jf,Ln];refine⟨by rw[Jj],?_⟩;refine zQ fun m y hm=>?_;rw[hv];by_cases fW:m=j
   ·subst fW;have aU:y=(v,(D[m].fE++[l[i]]).map Rec.row):=by
     unfold qA at hm;rw[eZ,List.getElem?_set_self ac]at hm;exact(yo hm).symm
    subst aU;simp[rD,M3]
   ·have eh:(qA D)[m]?=some y:=by
     unfold qA at hm⊢;rw[eZ,List.getElem?_set_ne (fun h=>fW h.symm),<-eZ]at hm;exact hm
    have h:=wP (G:=2000000) (e:=78) (z:=7) (k:=0) eh;rw[hv]at h;have bY:(m=j)=False:=bz fW;simp[h,rD,bY]
 ·have aS:((i:Int)<(l.length:Int))=False:=a8;have J9:i=l.length:=by omega
  subst J9;rw[pw]at hM;simp[aS];obtain⟨yC,Jk⟩:∃yC,yC=qz l r id:=⟨_,rfl⟩
  rw[<-Jk]at aC;refine ck.ziu 10 (c:=D.length) (bs:=List.range D.length) (es:=sS D) (CZ D) (Nat×aq) (FO l id r hs M D) (fun x=>(2<=x.1/\x.1<=M+1/\x.2.length<=200000*x.1)/\R=rC r hs yC (M+1-x.1) x.1 x.2) (fun x=>M+1-x.1) (2,r.block) ⟨⟨by simp,by simp only;omega,by simp only;omega⟩,by rw[aC];rfl⟩ (by simp) ⟨by simp[sS,CZ],?_⟩ ?_ ?_
  ·intro j x y ai aU;have ac:j<D.length:=by
    have:=(eQ.1 ai).1;simpa[sS]using this
   unfold sS at ai;unfold CZ at aU;rw[eZ,cr ac]at ai aU;have fo:=(yo ai).symm;have znk:=(yo aU).symm;subst fo znk;have iN:(qA D)[j]?=some (D[j].v,D[j].fE.map Rec.row):=by unfold qA;rw[eZ,cr ac];rfl
   have Am:=wP (G:=2000000) (e:=78) (z:=7) (k:=0) iN;rw[hv]at Am;dsimp only at Am;exact⟨rfl,.inr ⟨D[j].v,2000000+j,78,7,_,rfl,by simp[Am,rD],rfl⟩⟩
  ·unfold FO;rw[av rfl];simp
  rintro⟨n,b⟩ ⟨⟨Oj,znl,qj⟩,af⟩;dsimp only at Oj znl qj af⊢;have c8:=zay n D (fun d=>.one (.list 7 (d.fE.map Rec.row))) 0;have SR:CZ D=D.map fun d=>(.one (.int .i64 d.key),.one (.list 7 (d.fE.map Rec.row))):=rfl;rw[<-SR]at c8;have M4:i64.wrap ((n:Int)+1)=((n+1:Nat):Int):=by rw[bc _];omega
  by_cases zHw:n<=M
  ·have cG:((n:Int)<=(M:Int))=True:=aY;have C0:M+1-n=(M-n)+1:=by omega
   rw[C0]at af;unfold rC at af;cases hU:D.findIdx? fun d=>d.key==n with
   |none=>
    rw[hU]at c8;have zar:yC n=[]:=by rw[Jk];unfold qz;rw[Mz];intro x ai fo;simp only[b7,fc]at fo;have:=hM.all x ai fo.1;obtain⟨d,aA,e⟩:=hx.1 this;rw[sF]at hU;have ab:=hU d aA;rw[e,fo.2]at ab;simp at ab
    rw[zar,av (by simp)]at af;subst af;unfold FO;by_cases ab:n=2
    ·rw[av ab];simp[cG,c8,aZ]
    ·rw[an ab];simp[cG,c8,aZ]
   |some j=>
    rw[hU]at c8;obtain⟨ac,mK,_⟩:=kT.1 hU;have Jj:D[j].key=n:=by simpa using mK
    have tn:(CZ D)[j]?=some (.one (.int .i64 D[j].key),.one (.list 7 (D[j].fE.map Rec.row))):=by unfold CZ;rw[eZ,cr ac];rfl
    have SS:D[j].fE=yC n:=by rw[hM.fE D[j] (hS ac),Jj,Jk]
    have cX:(yC n).length<=l.length:=by rw[Jk];exact MC _ _
    by_cases aa:(yC n).length=1
    ·rw[an (by simp[aa])]at af;obtain⟨x,ai⟩:=GH.1 aa;have n4:x∈l:=by
      have:x∈yC n:=by rw[ai];simp
      rw[Jk]at this;exact(Cz.1 this).1
     have oo:=(w5 (ao x n4)).block;rw[ai]at SS af;rw[SS]at tn;unfold FO;by_cases ab:n=2
     ·rw[av ab];simp[cU,cG,c8,tn,a_];refine⟨by unfold maxLen;omega,?_⟩;refine bt.of (n+1,b++x.block) ⟨⟨by simp only;omega,by simp only;omega,by simp only[eG];omega⟩,by rw[af];simp only[List.headD_cons];congr 1;omega⟩ (by simp only;omega) ?_;have A0:(n+1=2)=False:=a8;simp[A0,M4,Ig]
     ·rw[an ab];simp[cU,cG,c8,tn,a_];refine⟨by unfold maxLen;omega,?_⟩;refine bt.of (n+1,b++x.block) ⟨⟨by simp only;omega,by simp only;omega,by simp only[eG];omega⟩,by rw[af];simp only[List.headD_cons];congr 1;omega⟩ (by simp only;omega) ?_;have A0:(n+1=2)=False:=a8;simp[A0,M4,Ig]
    ·rw[av aa]at af;subst af;rw[SS]at tn;have dd:(((yC n).length:Int)=1)=False:=a8;unfold FO;by_cases ab:n=2
     ·rw[av ab];simp[cG,c8,tn,dd,aZ]
     ·rw[an ab];simp[cG,c8,tn,dd,aZ]
  ·have cG:((n:Int)<=(M:Int))=False:=a8;have C0:M+1-n=0:=by omega
   rw[C0]at af;unfold rC at af;unfold FO;by_cases ab:n=2
   ·rw[av ab];simp[cG];refine b0.fold 6 5 (b0.fold 6 6 (b0.done ?_));have Jl:=MU {r with aT:=hs,block:=b};rw[a_]at Jl;simp;refine aH.of Jl ?_;generalize hH {r with aT:=hs,block:=b}=F at*;by_cases a6:F=0
    ·rw[an (by simp[a6])]at af;subst af a6;simp[a_]
    ·rw[av a6]at af;subst af;have qC:(F=0)=False:=bz a6;simp[aZ,qC]
   ·rw[an ab];simp[cG];refine b0.fold 6 5 (b0.fold 6 6 (b0.done ?_));have Jl:=MU {r with aT:=hs,block:=b};rw[a_]at Jl;simp;refine aH.of Jl ?_;generalize hH {r with aT:=hs,block:=b}=F at*;by_cases a6:F=0
    ·rw[an (by simp[a6])]at af;subst af a6;simp[a_]
    ·rw[av a6]at af;subst af;have qC:(F=0)=False:=bz a6;simp[aZ,qC]
def SU{α:Type}[DecidableEq α]:∀{l m:List α},l.Nodup->(∀x∈l,x∈m)->l.length<=m.length
 |[],_,_,_=>cj _
 |x::l,m,aX,hs=>by
  rw[wj]at aX;have aa:=SU (l:=l) (m:=m.erase x) aX.2 (fun y aU=>by have bY:y≠x:=fun e=>aX.1 (e▸aU);exact(List.mem_erase_of_ne bY).2 (hs y (oc _ aU)))
  have ai:x∈m:=hs x (by simp);rw[List.length_erase_of_mem ai]at aa;have:0<m.length:=List.length_pos_of_mem ai;simp only[hz];omega
def zaC:∀{l:List Rec} {seen:List (aq)} {n:Nat},ua seen n l=0->∀r∈l,hH r=0
 |[],_,_,_=>by simp
 |r::l,seen,n,h=>by
  unfold ua at h;split at h
  ·rename_i aa;exact absurd h aa
  ·rename_i aa;split at h
   ·cases h
   ·intro x ai;rcases fp.1 ai with rfl|ai
    ·exact nY aa
    ·exact zaC h x ai
def C1{l:List Rec}(h:kq l=0):l.length<=1000/\∀r∈l,hH r=0:=by
 unfold kq at h;split at h
 ·cases h
 ·exact⟨by omega,zaC h⟩
def w7(l:List Rec):Nat->List (aq)->aq->aq×Int
 |0,_,_=>([],0)
 |k+1,seen,w=>
  if (ng l w).isSome=false then ([],9)
  else if w∈seen then ([],17)
  else if (h_ l w).kind=4 then w7 l k (seen++[w]) (h_ l w).of
  else ((nh l w).1.block,(nh l w).2)
def kW(l:List Rec)(w:aq):aq×Int:=if kq l≠0 then ([],kq l)else w7 l (l.length+1) [] w
def zaD{l:List Rec}{w:aq}(h:(ng l w).isSome=true):w∈l.map Rec.id:=by
 unfold ng at h;cases aw:l.findIdx? fun r=>r.id==w with
 |none=>rw[aw]at h;cases h
 |some i=>obtain⟨ah,he,_⟩:=kT.1 aw;exact hx.2 ⟨l[i],hS ah,by simpa using he⟩
def SV(l:List Rec)(x:List (aq)×aq):List (Nat×ae):=
 [(0,.x (.one (.list 7 (l.map Rec.row)))),(1,.x (.one (.str x.2)))]++(if x.1=[]then [(7,.own 9 1 (x.1.map fun s=>[ag.str s]))]else [(7,.alias 34),(34,.own 9 1 (x.1.map fun s=>[ag.str s]))])
def znm(l:List Rec)(w:aq)(al:l.length<=1000000000):az prog 70 [fP l,.one (.str w)] (.b2 [.one (b5 (kW l w).1),.one (.int .i64 (kW l w).2)]):=by
 obtain⟨R,aC⟩:∃R,R=kW l w:=⟨_,rfl⟩
 rw[<-aC];unfold kW at aC;have aE:=zab l;have a_:∀x:Rec,x.row=[.int .i64 x.kind,.str x.id,.str x.of,.int .i64 x.time,.str x.key,.list 2 (x.aT.map Head.row),b5 x.block]:=fun _=>rfl;unfold fP at*;refine @az.of _ (wH [(11,[1,1,1,4,7,7,1,0])]) _ _ _ _ _ mixed (fn:=f70) (by kernel_rfl) (by kernel_rfl) rfl (by kernel_rfl) (by simp[f70]) (fun aD=>?_);simp;refine aH.of aE ?_;by_cases a1:kq l=0;rotate_left
 ·rw[av a1]at aC;subst aC;have m9:(kq l=0)=False:=bz a1;simp[m9]
 rw[an (by simp[a1])]at aC;rw[a1];obtain⟨dK,aD⟩:=C1 a1;simp;refine ck.of (List (aq)×aq) (SV l)
  (fun x=>(x.1.Nodup/\∀s∈x.1,s∈l.map Rec.id)/\R=w7 l (l.length+1-x.1.length) x.1 x.2) (fun x=>l.length+1-x.1.length) ([],w) ⟨⟨by simp,by simp⟩,aC⟩ ?_ ?_
 ·simp[SV]
 rintro⟨seen,w⟩ ⟨⟨hi,dg⟩,af⟩;dsimp only at hi dg af⊢;have cX:=SU hi dg;rw[GG]at cX;obtain⟨n,aX⟩:∃n,n=l.length-seen.length:=⟨_,rfl⟩
 have C0:l.length+1-seen.length=n+1:=by omega
 rw[C0]at af;unfold w7 at af;have aQ:=zan l w (by omega);rw[a_ (h_ l w)]at aQ;have M5:=zaD (l:=l) (w:=w);unfold fP at aQ;generalize h_ l w=r at*;generalize (ng l w).isSome=B at*;unfold SV;by_cases a1:seen=[]
 ·subst a1;rw[av rfl];simp;refine aH.of aQ ?_;cases B
  ·rw[av rfl]at af;subst af;simp
  rw[an (by decide)]at af;have bf:=MM [] w;simp;refine aH.of bf ?_;by_cases hm:w∈([]:List (aq))
  ·rw[av hm]at af;subst af;have ji:decide (w∈([]:List (aq)))=true:=gw hm;rw[ji];simp
  rw[an hm]at af;have ji:decide (w∈([]:List (aq)))=false:=iI hm;rw[ji];by_cases aN:r.kind=4
  ·rw[av aN]at af;have kB:(r.kind=4)=True:=bW aN;simp[kB];refine bt.of ([]++[w],r.of) ⟨⟨by rw[Iq];exact⟨hi,by simp,fun a bj b ad e=>by rw[nE]at ad;subst ad e;exact hm bj⟩,fun s hs=>(hg.1 hs).elim (dg s) fun h=>by rw[nE]at h;subst h;exact M5 rfl⟩,by rw[af];simp only[eG,qN];congr 1⟩ (by simp only[eG,qN];omega) ?_;simp
  rw[an aN]at af;have kB:(r.kind=4)=False:=bz aN;have bM:=zaB l w dK aD;rw[a_ (nh l w).1]at bM;generalize nh l w=J at*;subst af;unfold fP at bM;simp[kB];refine aH.of bM ?_;simp
 ·rw[an a1];simp;refine aH.of aQ ?_;cases B
  ·rw[av rfl]at af;subst af;simp
  rw[an (by decide)]at af;have bf:=MM seen w;simp;refine aH.of bf ?_;by_cases hm:w∈seen
  ·rw[av hm]at af;subst af;have ji:decide (w∈seen)=true:=gw hm;rw[ji];simp
  rw[an hm]at af;have ji:decide (w∈seen)=false:=iI hm;rw[ji];by_cases aN:r.kind=4
  ·rw[av aN]at af;have kB:(r.kind=4)=True:=bW aN;simp[kB];refine⟨⟨by omega,by unfold maxLen;omega⟩,?_⟩;refine bt.of (seen++[w],r.of) ⟨⟨by rw[Iq];exact⟨hi,by simp,fun a bj b ad e=>by rw[nE]at ad;subst ad e;exact hm bj⟩,fun s hs=>(hg.1 hs).elim (dg s) fun h=>by rw[nE]at h;subst h;exact M5 rfl⟩,by rw[af];simp only[eG,qN];congr 1;omega⟩ (by simp only[eG,qN];omega) ?_;simp
  rw[an aN]at af;have kB:(r.kind=4)=False:=bz aN;have bM:=zaB l w dK aD;rw[a_ (nh l w).1]at bM;generalize nh l w=J at*;subst af;unfold fP at bM;simp[kB];refine aH.of bM ?_;simp
def dC(hs:List Head)(w:aq):List (aq):=(hs.filter fun h=>eN h.name==w).map Head.value
def M6(hs:List Head)(w:aq):(dC hs w).length<=hs.length:=by unfold dC;rw[GG];exact MC _ _
def M7(hs:List Head)(w:aq)(h:Head):dC (hs++[h]) w=dC hs w++(if eN h.name=w then [h.value]else []):=by
 unfold dC;rw[ME,qa];congr 1;by_cases bo:eN h.name=w
 ·rw[av bo];simp[bo]
 ·rw[an bo];simp[bo]
def M8(l:List Head)(w:aq)(al:l.length<=1000000000):az prog 74 [qs l,.one (.str w)] (.x (strs (dC l w))):=by
 refine az.bd f74 mixed fun aD=>?_;simp;refine ck.of Nat (fun i=>[(1,.x (.one (.str w))),(5,.own 9 1 ((dC (l.take i) w).map fun s=>[ag.str s])),(8,.x (.one (.list 2 (l.map Head.row)))),(9,.x (.one (.int .i64 l.length))),(10,.x (.one (.int .i64 i)))]) (fun i=>i<=l.length) (fun i=>l.length-i) 0 (cj _) ?_ ?_
 ·simp[dC]
 rintro i ah;by_cases ar:i<l.length
 ·have aS:((i:Int)<(l.length:Int))=True:=aY;have bC:=bc ((i:Int)+1);have a_:l[i].row=[.str l[i].name,.str l[i].value]:=rfl;have gy:l.take (i+1)=l.take i++[l[i]]:=k6 ar;have aF:(dC (l.take i) w).length<=i:=jc (M6 _ _) (by rw[e'];omega);simp[ar,aS,a_];refine aH.of (IF l[i].name) ?_;by_cases bo:eN l[i].name=w
  ·have vz:(eN l[i].name=w)=True:=bW bo;simp[vz];refine⟨⟨by omega,by unfold maxLen;omega⟩,?_⟩;refine bt.of (i+1) ar (by omega) ?_;have c0:dC (l.take (i+1)) w=dC (l.take i) w++[l[i].value]:=by rw[gy,M7,av bo]
   simp[bC,c0]
  ·have vz:(eN l[i].name=w)=False:=bz bo;simp[vz];refine bt.of (i+1) ar (by omega) ?_;have c0:dC (l.take (i+1)) w=dC (l.take i) w:=by rw[gy,M7,an bo,AN]
   simp[bC,c0]
 ·have aS:((i:Int)<(l.length:Int))=False:=a8;obtain rfl:i=l.length:=by omega
  simp[aS]
def sU(c:UInt8):Nat:=if 48<=c.toNat/\c.toNat<=57 then c.toNat-48 else if 97<=c.toNat/\c.toNat<=102 then c.toNat-87 else if 65<=c.toNat/\c.toNat<=70 then c.toNat-55 else 16
def zaE(c:UInt8):sU c<=16:=by unfold sU;split<;>(try split)<;>(try split)<;>omega
def znn(c:UInt8):az prog 235 [vh c] (.x (.one (.int .i64 (sU c)))):=by
 have ap:=c.toNat_lt;obtain⟨n,aX⟩:∃n,n=c.toNat:=⟨_,rfl⟩
 unfold sU;unfold vh;rw[<-aX]at ap⊢;refine az.bd f235 mixed fun aD=>?_;by_cases aa:48<=n/\n<=57
 ·have c_:(48<=(n:Int))=True:=aY;have a2:((n:Int)<=57)=True:=aY;have a3:u8.wrap ((n:Int)-48)=((n-48:Nat):Int):=by simp[IntKind.wrap,IntKind.signed,IntKind.bits];omega
  have a4:i64.wrap ((n-48:Nat):Int)=((n-48:Nat):Int):=bc _;rw[av aa];simp[c_,a2,a3,a4]
 rw[an aa];have eV:(decide (48<=(n:Int))&&decide ((n:Int)<=57))=false:=by rw[ss,rp,rp];omega
 by_cases ab:97<=n/\n<=102
 ·rw[av ab];have c_:(48<=(n:Int))=True:=aY;have a2:((n:Int)<=57)=False:=a8;have a5:(97<=(n:Int))=True:=aY;have Jm:((n:Int)<=102)=True:=aY;have a3:u8.wrap ((n:Int)-97)=((n-97:Nat):Int):=by simp[IntKind.wrap,IntKind.signed,IntKind.bits];omega
  have a4:i64.wrap ((n-97:Nat):Int)=((n-97:Nat):Int):=bc _;have ST:i64.wrap (((n-97:Nat):Int)+10)=((n-87:Nat):Int):=by rw[bc _];omega
  simp[c_,a2,a3,a4,a5,Jm,ST]
 rw[an ab];by_cases au:65<=n/\n<=70
 ·rw[av au];have c_:(48<=(n:Int))=True:=aY;have a2:((n:Int)<=57)=False:=a8;have a5:(97<=(n:Int))=False:=a8;have Jm:(65<=(n:Int))=True:=aY;have zno:((n:Int)<=70)=True:=aY;have a3:u8.wrap ((n:Int)-65)=((n-65:Nat):Int):=by simp[IntKind.wrap,IntKind.signed,IntKind.bits];omega
  have a4:i64.wrap ((n-65:Nat):Int)=((n-65:Nat):Int):=bc _;have ST:i64.wrap (((n-65:Nat):Int)+10)=((n-55:Nat):Int):=by rw[bc _];omega
  simp[c_,a2,a3,a4,a5,Jm,ST,zno]
 rw[an au];by_cases bw:48<=n<;>by_cases bA:n<=57<;>by_cases cJ:97<=n<;>by_cases fv:n<=102<;>by_cases lh:65<=n<;>by_cases qr:n<=70<;>first
 |(exfalso;omega)
 |(have d1:(48<=(n:Int))=(48<=n):=by apply propext;omega
   have d2:((n:Int)<=57)=(n<=57):=by apply propext;omega
   have d3:(97<=(n:Int))=(97<=n):=by apply propext;omega
   have d4:((n:Int)<=102)=(n<=102):=by apply propext;omega
   have d5:(65<=(n:Int))=(65<=n):=by apply propext;omega
   have d6:((n:Int)<=70)=(n<=70):=by apply propext;omega
   simp[d1,d2,d3,d4,d5,d6,bw,bA,cJ,fv,lh,qr])
def ho:aq->aq->Nat
 |_,[]=>0
 |[],_::_=>1
 |c::b,d::w=>if c=d then ho b w else 2
def zaF(b:aq)(w:aq)(ad:b.length<=1000000000)(hw:w.length<=1000):az prog 236 [.one (b5 b),.one (.str w)] (.x (.one (.int .i64 (ho b w)))):=by
 have bU:=e8 b;obtain⟨F,a7⟩:∃F,F=ho b w:=⟨_,rfl⟩
 rw[<-a7];refine az.bd f236 mixed fun aD=>?_;simp;refine ck.of Nat (fun i=>[(0,.x (.one (b5 b))),(1,.x (.one (.str w))),(6,.x (.one (.str w))),(7,.x (.one (.int .i64 w.length))),(8,.x (.one (.int .i64 i)))])
  (fun i=>i<=w.length/\i<=b.length/\F=ho (b.drop i) (w.drop i)) (fun i=>w.length-i) 0 ⟨cj _,cj _,a7⟩ ?_ ?_
 ·simp
 rintro i ⟨ah,znp,a6⟩;by_cases ar:i<w.length
 ·have aS:((i:Int)<(w.length:Int))=True:=aY;have bC:=bc ((i:Int)+1);rw[jw ar]at a6;by_cases qj:i<b.length
  ·have yD:((b.length:Int)<=(i:Int))=False:=a8;rw[jw qj]at a6;unfold ho at a6;have bF:∀h,(bq b)[i]'h=[.int .u8 b[i].toNat]:=fun h=>by simp[bq,ie]
   by_cases ap:b[i]=w[i]
   ·rw[av ap]at a6;have C2:((b[i].toNat:Int)=(w[i].toNat:Int))=True:=bW (by rw[ap]);simp[bU,ar,aS,qj,yD,bF,C2];refine bt.of (i+1) ⟨ar,qj,a6⟩ (by omega) ?_;simp[bC]
   ·rw[an ap]at a6;subst a6;have C2:((b[i].toNat:Int)=(w[i].toNat:Int))=False:=bz fun h=>ap (su.1 (by omega));simp[bU,ar,aS,qj,yD,bF,C2]
  ·have yD:((b.length:Int)<=(i:Int))=True:=aY;have:b.drop i=[]:=nu (by omega);rw[this]at a6;unfold ho at a6;subst a6;simp[bU,aS,yD]
 ·have aS:((i:Int)<(w.length:Int))=False:=a8;have:w.drop i=[]:=nu (by omega);rw[this]at a6;have FP:ho (b.drop i) []=0:=by cases b.drop i<;>rfl
  rw[FP]at a6;subst a6;simp[aS]
end
end Go.Proofs.YtmlnbemjmlogiaaGreatDoor
