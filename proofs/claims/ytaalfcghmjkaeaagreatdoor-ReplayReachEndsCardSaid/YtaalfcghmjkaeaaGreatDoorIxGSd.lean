/- A part of the proof: lemmas and contracts of functions. -/
import Derived.Test.YtaalfcghmjkaeaaGreatDoorIxGSc
import Derived.Test.YtaalfcghmjkaeaaGreatDoorIxGSb
import Derived.Test.YtaalfcghmjkaeaaGreatDoorAbJ0
import Derived.Shelf.Lays
import Derived.Test.YtaalfcghmjkaeaaGreatDoorProg
import Derived.KernelRfl
import Derived.Shelf.Sort.Plain
import Derived.Shelf.Slices.In.SortNone
import Derived.Test.YtaalfcghmjkaeaaGreatDoorIxGSa
set_option linter.all false
namespace Go.Proofs.YtaalfcghmjkaeaaGreatDoor
open Go Go.Ab Go.Proofs.Tryz Go.IntKind
variable [bf][cK prog][jC prog]
set_option maxRecDepth 100000
set_option maxHeartbeats 4000000
def WL(e z:Nat)(xs:List (List af)):bw.cP (.own e z xs)=.own e z xs:=rfl
def zhp{f:FuncId}{args:List az}(vs:List Value)(xs:List ByteArray)(t:TypeId)(ao:r6 prog f)(bj:vR args=some vs)
  (al:∀x∈xs,x.data.toList.length<=maxLen)(aT:xs.length<=maxLen)
  (h:∀w,Calls prog f vs.toArray w fun e w'=>e=.returned (.slice (some ⟨w.heap.size,0,none⟩) xs.length xs.length)/\w'=w.alloc (.cells (xs.map Value.string).toArray t)) :
  aD prog f args (.own t 1 (dr (xs.map (·.data.toList)))):=by
 refine⟨ao,fun w S us bW fJ=>?_⟩;have e:us=vs.toArray:=by have:=Gb (us:=us.toList) (by rw[iZ];exact fJ.1) (fun j x ac=>by simpa using fJ.2 j x ac) bj;rw[<-this]
 subst e;refine(h w).mono ?_;rintro e w' ⟨rfl,rfl⟩;have hlen:(dr (xs.map (·.data.toList))).length=xs.length:=by simp[dr]
 have eh:=PW xs;refine⟨_,rfl,(RowKit.Below.refl _ _).alloc (eG _) _,⟨xs.map Value.string,⟨by rw[hlen];simp,.inr ⟨w.heap.size,xs.length,(xs.map Value.string).toArray,by rw[hlen],cd _,⟨(0,0),?_,.inl rfl⟩,by rw[hlen];exact eG _,aT,by simp,by rw[hlen];simp;exact iv (by simp)⟩⟩,⟨?_,fun j c ac=>?_⟩,fun x aj=>?_,by rw[hlen];exact aT,fun b ae=>?_⟩,fun b ae=>?_⟩
 ·show (w.heap.push _)[w.heap.size]?=_;rw[Array.getElem?_push_size]
 ·show (xs.map Value.string).length=((xs.map (·.data.toList)).map fun x=>[af.str x]).flatten.length;rw[eh];simp
 ·have eI:(xs.map fun x=>af.str x.data.toList)[j]?=some c:=by rw[<-eh];exact ac
  rw[dO]at eI;obtain⟨x,aj,rfl⟩:=KP.1 eI;exact⟨.string x,by rw[dO,aj];rfl,bn.str _ (al x (iq aj))⟩
 ·obtain⟨y,_,rfl⟩:=hh.1 aj;rfl
 ·have e:w.heap.size=b:=qX ae;subst e;exact .inr ⟨eG _,by show _<(w.heap.push _).size;rw[Array.size_push];exact Nat.lt_succ_self _⟩
 ·have e:w.heap.size=b:=qX ae;omega
def zhq(s:List UInt8)(c:UInt8)(ap:s.length<=600000):aD prog 210 [.one (.str s),.one (.str [c]),.one (.int .i64 0),.one (.int .i64 (-1))] (.own 9 1 (dr (ey c s))):=by
 have zhr:s.count c<=s.length:=List.count_le_length;have pK:Lib.countB ⟨s.toArray⟩ ⟨[c].toArray⟩=s.count c:=Lib.count_one c s;have cU:(Lib.splitB ⟨[c].toArray⟩ 0 (s.count c) ⟨s.toArray⟩).map (·.data.toList)=ey c s:=by rw[Lib.splitB_data];exact PX c _ _ (eG _)
 have hle:=Lib.splitB_length_le ⟨[c].toArray⟩ 0 (s.count c) ⟨s.toArray⟩;have fM:=Lib.splitB_all ⟨[c].toArray⟩ (eG 1) 0 _ ⟨s.toArray⟩ pK;rw[<-cU];have da:=KM c s;have GW:∀w,Calls prog 210 [Value.string ⟨s.toArray⟩,.string ⟨[c].toArray⟩,.int .i64 0,.int .i64 (-1)].toArray w fun e w'=>
   e=.returned (.slice (some ⟨w.heap.size,0,none⟩) (s.count c+1) (s.count c+1))/\w'=w.alloc (.cells ((Lib.splitB ⟨[c].toArray⟩ 0 (s.count c) ⟨s.toArray⟩).map Value.string).toArray 9):=by
  intro w;have g:=Any.strings_genSplit_core Aw (by kernel_rfl) ⟨s.toArray⟩ ⟨[c].toArray⟩ 0 (-1) (s.count c+1) w (by show s.toArray.size<_;simp;omega) (eG 1) (cd _)
   (fun x cs aj=>(Any.strings_Index_one {Aw with} x c _).mono fun e w' ⟨aa,ab⟩=>⟨by rw[aa];show _=Ending.returned (.int .i64 (Lib.index x.data.toList [c]));rw[Lib.index_one],ab⟩)
   ((Any.strings_Count_one {Aw with} ⟨s.toArray⟩ c w).mono fun e w' ⟨aa,ab⟩=>⟨by rw[aa,pK];rfl,ab⟩)
   (by decide) (by decide) (by rw[aC (by decide),pK];show _=min _ ((s.toArray.size:Int)+1);simp;omega)
  rw[yU,fM]at g;have aI:Lib.cellsOf (Lib.splitB ⟨[c].toArray⟩ 0 (s.count c) ⟨s.toArray⟩) (s.count c+1)=((Lib.splitB ⟨[c].toArray⟩ 0 (s.count c) ⟨s.toArray⟩).map Value.string).toArray:=by rw[<-fM];exact Lib.cellsOf_full _
  rw[aI]at g;exact g
 obtain⟨xs,ex⟩:∃xs,xs=Lib.splitB ⟨[c].toArray⟩ 0 (s.count c) ⟨s.toArray⟩:=⟨_,rfl⟩
 rw[<-ex]at cU fM GW⊢;refine zhp [.string ⟨s.toArray⟩,.string ⟨[c].toArray⟩,.int .i64 0,.int .i64 (-1)] xs 9 (nc f210 (by kernel_rfl) (by kernel_rfl) rfl) rfl (fun x aj=>?_) (by rw[fM];unfold maxLen;omega) (fun w=>by rw[fM];exact GW w);have:=da x.data.toList (by rw[<-cU];exact List.mem_map_of_mem aj);unfold maxLen;omega
def zhs(s:List UInt8)(c:UInt8)(ap:s.length<=600000):aD prog 155 [.one (.str s),.one (.str [c])] (.own 9 1 (dr (ey c s))):=by refine aD.a6 f155 mixed fun aE=>?_;simp-implicitDefEqProofs;refine aA.of (zhq s c ap) ?_;simp-implicitDefEqProofs[WL]
def iU(l:List (List UInt8))(k:Nat):List (List UInt8):=(List.range l.length).map fun x=>if x<k\/l.length-k<=x then l.getD (l.length-1-x) []else l.getD x []
@[simp]def zht(l:List (List UInt8))(k:Nat):(iU l k).length=l.length:=by simp[iU]
def zhu(l:List (List UInt8)):iU l 0=l:=by apply List.ext_getElem (by simp);intro i aa ab;simp only[iU,List.getElem_map,List.getElem_range];rw[au (by omega),jQ,cn ab];rfl
def zhv{l:List (List UInt8)}{k:Nat}(h:l.length<=2*k+1):iU l k=l.reverse:=by
 apply List.ext_getElem (by simp);intro i aa ab;have ai:i<l.length:=by simpa using ab
 simp only[iU,List.getElem_map,List.getElem_range,List.getElem_reverse];by_cases am:i<k\/l.length-k<=i
 ·rw[aC am,jQ,cn (by omega)];rfl
 ·rw[au am,jQ,cn ai];simp only[rW];congr 1;omega
def KQ{l:List (List UInt8)}{k i:Nat}(h:i<l.length):(iU l k)[i]'(by simpa using h)=if i<k\/l.length-k<=i then l.getD (l.length-1-i) []else l.getD i []:=by simp[iU]
def zhw{l:List (List UInt8)}{k:Nat}(h:2*k+1<l.length):iU l (k+1)=((iU l k).set k ((iU l k)[l.length-1-k]'(by simp;omega))).set (l.length-1-k) ((iU l k)[k]'(by simp;omega)):=by
 have ae:=KQ (l:=l) (k:=k) (i:=k) (by omega);have bj:=KQ (l:=l) (k:=k) (i:=l.length-1-k) (by omega);generalize (iU l k)[l.length-1-k]'(by simp;omega)=a at bj⊢;generalize (iU l k)[k]'(by simp;omega)=b at ae⊢;rw[au (by omega)]at bj ae;apply List.ext_getElem (by simp);intro i aa ab;have ai:i<l.length:=by simpa using aa
 rw[KQ ai,List.getElem_set,List.getElem_set,KQ ai];by_cases av:l.length-1-k=i
 ·subst av;rw[aC rfl,aC (by omega),ae];congr 1;omega
 ·rw[au av];by_cases aI:k=i
  ·subst aI;rw[aC rfl,aC (by omega),bj]
  ·rw[au aI];by_cases am:i<k\/l.length-k<=i
   ·rw[aC am,aC (by omega)]
   ·rw[au am,au (by omega)]
abbrev GX(l:List (List UInt8)):ad:=.own 9 1 (dr l)
def WM(l:List (List UInt8))(i:Nat)(x:List UInt8):(dr l).set i [af.str x]=dr (l.set i x):=by unfold dr;rw[Gy]
def zhx(l:List (List UInt8))(al:l.length<=16777216):cB prog 156 [GX l] (.b2 []) [GX l.reverse]:=by
 refine cB.a6 f156 mixed fun aE=>?_;have dA:=v8 l;have w0:i64.wrap ((l.length:Int)-1)=(l.length:Int)-1:=bk _ (by omega);simp-implicitDefEqProofs[dA,w0];refine cI.of Nat (fun k=>[(0,GX (iU l k)),(2,.x (.one (.int .i64 k))),(3,.x (.one (.int .i64 ((l.length:Int)-1-k))))]) (fun k=>2*k<=l.length+1) (fun k=>l.length-k) 0 (by omega) ?_ ?_
 ·simp[zhu]
 intro k am;by_cases aq:2*k+1<l.length
 ·obtain⟨j,m7⟩:∃j,j=l.length-1-k:=⟨_,rfl⟩
  have av:(l.length:Int)-1-(k:Int)=(j:Int):=by omega
  rw[av];have aO:((k:Int)<(j:Int))=True:=aL (by omega);have h8:(k<j)=True:=aL (by omega);have hQ:k<(dr (iU l k)).length:=by rw[v8];simp;omega
  have w4:j<(dr (iU l k)).length:=by rw[v8];simp;omega
  have v6:k<l.length:=by omega
  have rg:j<l.length:=by omega
  have bO:∀i (h:i<l.length) bE,(dr (iU l k))[i]'bE=[af.str ((iU l k)[i]'(by simpa using h))]:=fun i h bE=>by simp[dr]
  have zhy:=bO k v6;have WN:=bO j rg;have WO:=v8 (iU l k);rw[zht]at WO;have WP:i64.wrap ((k:Int)+1)=(k:Int)+1:=bk _ (by omega);have mo:i64.wrap ((j:Int)-1)=(j:Int)-1:=bk _ (by omega);have b3:=zhw aq;have sr:dr (iU l (k+1))=((dr (iU l k)).set k [af.str ((iU l k)[j]'(by simp;omega))]).set j [af.str ((iU l k)[k]'(by simp;omega))]:=by rw[b3,WM,WM];subst m7;rfl
  simp-implicitDefEqProofs[aO];refine hc.l ⟨by kernel_rfl,?_⟩;simp-implicitDefEqProofs[WO,v6,rg,zhy,WN,WP,mo];refine bI.of (k+1) (by omega) (by omega) ?_;simp[sr];refine⟨?_,by omega⟩;congr 1;rw[List.getElem_set_ne (by omega),WN];rfl
 ·have zhz:=zhv (l:=l) (k:=k) (by omega);rw[zhz];have aO:((k:Int)<(l.length:Int)-1-(k:Int))=False:=aV (by omega);simp-implicitDefEqProofs[aO]
def WQ(w:List (List UInt8)):eY w.reverse=eY w:=by unfold eY;rw[List.map_reverse,List.sum_reverse]
def PY(s:List UInt8)(c d:UInt8)(ap:s.length<=600000):aD prog 91 [.one (.str s),.one (.str [c]),.one (.str [d])] (.x (.one (.str (nf c d s)))):=by have cU:=zhs s c ap;have v_:=GA c s;have u7:=zhx (ey c s) (by omega);have bC:=sR c s;have ba:=rb d (ey c s).reverse (by simpa using bC);rw[WQ,PS]at ba;have ac:=strings_Join (ey c s).reverse [d] (by rw[sP];omega) (by rw[List.length_reverse];omega);rw[sP]at ac;have eI:aD prog 46 [strs (ey c s).reverse,.one (.str [d])] (.x (.one (.str (nf c d s)))):=ac;clear ac ba bC;generalize nf c d s=R at eI⊢;generalize ey c s=l at cU u7 eI v_;refine aD.a6 f91 mixed fun aE=>?_;simp-implicitDefEqProofs;refine aA.of cU ?_;simp-implicitDefEqProofs[WL];refine aA.Ox ?_;simp-implicitDefEqProofs;refine gg.of u7 ?_;simp-implicitDefEqProofs;refine aA.of eI ?_;simp-implicitDefEqProofs
structure zhA(n:Addr):Prop where
 scheme:n.scheme.length<=2000
 host:n.host.length<=2000
 port:n.port.length<=2000
 path:n.path.length<=2100
 query:n.query.length<=2000
def WR{a:Addr}(h:e3 a=0):zhA (gW a):=by
 obtain⟨zhi,KJ,ye,KK,yf,yg⟩:=uA.of h;have al:=(Ai h).2.2.2.2.2.2.2.2;have hw:=Dz a;have aa:(gW a).scheme.length=a.scheme.length:=by show (cD a.scheme).length=_;simp[cD]
 have ab:(gW a).host.length=a.host.length:=by show (cD a.host).length=_;simp[cD]
 have ar:(gW a).port.length<=a.port.length:=by
  show (Gs (cD a.scheme) a.port).length<=_;unfold Gs;split
  ·simp
  ·unfold uv;exact(List.dropWhile_suffix _).length_le
 have aN:(gW a).path.length<=2100:=by
  show (Gt a.path).length<=_;unfold Gt;have ao:=Av a.path;split
  ·simp
  ·unfold n0;split
   ·simp
   ·have bC:=sR 47 ((gI a.path).drop 1);have e:=KH _ bC 47;have aI:=rb 47 _ bC;rw[yd,eo]at aI;simp only[eg];omega
 have bD:(gW a).query.length<=a.query.length:=by show (gI a.query).length<=_;exact Av _
 exact⟨by omega,by omega,by omega,by omega,by omega⟩
def PZ(c d:UInt8)(s:List UInt8):(nf c d s).length=s.length:=by have ba:=rb d (ey c s).reverse (by simpa using sR c s);rw[WQ,PS]at ba;unfold nf;omega
def zhB(a:Addr)(h:e3 a=0):aD prog 57 [.agg a.row,.one .nil] (.x (.one (.str (Gu a)))):=by
 have aF:=PQ a h;obtain⟨ls,KR,aK,yf,yg⟩:=WR h;have b6:Gu a=nf 46 44 (gW a).host++qZ (gW a)++[41]++(if (gW a).scheme=iS then [115]else [])++(gW a).path++pX (gW a):=rfl;rw[b6];clear b6;generalize gW a=N at aF ls KR aK yf yg⊢;obtain⟨cX,aw,cM,pa,ej,br,bo,ay⟩:=a;obtain⟨k5,no,n5,rf,sS,kz,qP,wd⟩:=N;simp only at ls KR aK yf yg;simp only[Addr.row,qZ,pX]at aF⊢;have eC:=PY no 46 44 (by omega);have P0:=PZ 46 44 no;generalize nf 46 44 no=T at eC P0⊢;have ut:=zhn rf (by omega);have rh:=zho sS (by omega);unfold iS;refine aD.a6 f57 mixed fun aE=>?_;simp-implicitDefEqProofs;refine aA.of aF ?_;have gy:=PD no [119,119,119,46];simp-implicitDefEqProofs;refine aA.of gy ?_;cases WS:hH no [119,119,119,46]
 ·simp-implicitDefEqProofs;refine bp.of (fun h=>by simp at h) (r:=.x (.one (.bool false))) rfl ?_;simp-implicitDefEqProofs;refine aA.of eC ?_;by_cases ak:n5=[]
  ·subst ak;by_cases ap:k5=[104,116,116,112,115]
   ·simp-implicitDefEqProofs[ap]
    repeat (refine⟨by (first|(unfold maxLen;omega)|(simp;unfold maxLen;omega)),?_⟩)
    refine bp.of (fun _=>sT 1 []) rfl ?_;simp-implicitDefEqProofs
    repeat (refine⟨by (first|(unfold maxLen;omega)|(simp;unfold maxLen;omega)),?_⟩)
    refine aA.of ut ?_;cases kz
    ·simp-implicitDefEqProofs[ap]
     try (repeat' (first|(unfold maxLen;omega)|refine⟨?_,?_⟩))
    ·simp-implicitDefEqProofs
     repeat (refine⟨by (first|(unfold maxLen;omega)|(simp;unfold maxLen;omega)),?_⟩)
     refine aA.of rh ?_;simp-implicitDefEqProofs[ap]
     try (repeat' (first|(unfold maxLen;omega)|refine⟨?_,?_⟩))
   ·simp-implicitDefEqProofs[ap]
    repeat (refine⟨by (first|(unfold maxLen;omega)|(simp;unfold maxLen;omega)),?_⟩)
    refine bp.of (fun h=>absurd (by simpa using h) ap) (r:=.x (.one (.bool false))) rfl ?_;simp-implicitDefEqProofs[ap]
    repeat (refine⟨by (first|(unfold maxLen;omega)|(simp;unfold maxLen;omega)),?_⟩)
    refine aA.of ut ?_;cases kz
    ·simp-implicitDefEqProofs[ap]
     try (repeat' (first|(unfold maxLen;omega)|refine⟨?_,?_⟩))
    ·simp-implicitDefEqProofs
     repeat (refine⟨by (first|(unfold maxLen;omega)|(simp;unfold maxLen;omega)),?_⟩)
     refine aA.of rh ?_;simp-implicitDefEqProofs[ap]
     try (repeat' (first|(unfold maxLen;omega)|refine⟨?_,?_⟩))
  ·have cQ:n5.isEmpty=false:=by simpa using ak
   by_cases ap:k5=[104,116,116,112,115]
   ·simp-implicitDefEqProofs[ap,cQ]
    repeat (refine⟨by (first|(unfold maxLen;omega)|(simp;unfold maxLen;omega)),?_⟩)
    refine bp.of (fun _=>sT 1 []) rfl ?_;simp-implicitDefEqProofs
    repeat (refine⟨by (first|(unfold maxLen;omega)|(simp;unfold maxLen;omega)),?_⟩)
    refine aA.of ut ?_;cases kz
    ·simp-implicitDefEqProofs[ap,ak]
     try (repeat' (first|(unfold maxLen;omega)|refine⟨?_,?_⟩))
    ·simp-implicitDefEqProofs
     repeat (refine⟨by (first|(unfold maxLen;omega)|(simp;unfold maxLen;omega)),?_⟩)
     refine aA.of rh ?_;simp-implicitDefEqProofs[ap,ak]
     try (repeat' (first|(unfold maxLen;omega)|refine⟨?_,?_⟩))
   ·simp-implicitDefEqProofs[ap,cQ]
    repeat (refine⟨by (first|(unfold maxLen;omega)|(simp;unfold maxLen;omega)),?_⟩)
    refine bp.of (fun h=>absurd (by simpa using h) ap) (r:=.x (.one (.bool false))) rfl ?_;simp-implicitDefEqProofs[ap]
    repeat (refine⟨by (first|(unfold maxLen;omega)|(simp;unfold maxLen;omega)),?_⟩)
    refine aA.of ut ?_;cases kz
    ·simp-implicitDefEqProofs[ap,ak]
     try (repeat' (first|(unfold maxLen;omega)|refine⟨?_,?_⟩))
    ·simp-implicitDefEqProofs
     repeat (refine⟨by (first|(unfold maxLen;omega)|(simp;unfold maxLen;omega)),?_⟩)
     refine aA.of rh ?_;simp-implicitDefEqProofs[ap,ak]
     try (repeat' (first|(unfold maxLen;omega)|refine⟨?_,?_⟩))
 ·simp-implicitDefEqProofs;refine bp.of (fun _=>sT 2 []) rfl ?_;simp-implicitDefEqProofs;refine aA.of eC ?_;by_cases ak:n5=[]
  ·subst ak;by_cases ap:k5=[104,116,116,112,115]
   ·simp-implicitDefEqProofs[ap]
    repeat (refine⟨by (first|(unfold maxLen;omega)|(simp;unfold maxLen;omega)),?_⟩)
    refine bp.of (fun _=>sT 1 []) rfl ?_;simp-implicitDefEqProofs
    repeat (refine⟨by (first|(unfold maxLen;omega)|(simp;unfold maxLen;omega)),?_⟩)
    refine aA.of ut ?_;cases kz
    ·simp-implicitDefEqProofs[ap]
     try (repeat' (first|(unfold maxLen;omega)|refine⟨?_,?_⟩))
    ·simp-implicitDefEqProofs
     repeat (refine⟨by (first|(unfold maxLen;omega)|(simp;unfold maxLen;omega)),?_⟩)
     refine aA.of rh ?_;simp-implicitDefEqProofs[ap]
     try (repeat' (first|(unfold maxLen;omega)|refine⟨?_,?_⟩))
   ·simp-implicitDefEqProofs[ap]
    repeat (refine⟨by (first|(unfold maxLen;omega)|(simp;unfold maxLen;omega)),?_⟩)
    refine bp.of (fun h=>absurd (by simpa using h) ap) (r:=.x (.one (.bool false))) rfl ?_;simp-implicitDefEqProofs[ap]
    repeat (refine⟨by (first|(unfold maxLen;omega)|(simp;unfold maxLen;omega)),?_⟩)
    refine aA.of ut ?_;cases kz
    ·simp-implicitDefEqProofs[ap]
     try (repeat' (first|(unfold maxLen;omega)|refine⟨?_,?_⟩))
    ·simp-implicitDefEqProofs
     repeat (refine⟨by (first|(unfold maxLen;omega)|(simp;unfold maxLen;omega)),?_⟩)
     refine aA.of rh ?_;simp-implicitDefEqProofs[ap]
     try (repeat' (first|(unfold maxLen;omega)|refine⟨?_,?_⟩))
  ·have cQ:n5.isEmpty=false:=by simpa using ak
   by_cases ap:k5=[104,116,116,112,115]
   ·simp-implicitDefEqProofs[ap,cQ]
    repeat (refine⟨by (first|(unfold maxLen;omega)|(simp;unfold maxLen;omega)),?_⟩)
    refine bp.of (fun _=>sT 1 []) rfl ?_;simp-implicitDefEqProofs
    repeat (refine⟨by (first|(unfold maxLen;omega)|(simp;unfold maxLen;omega)),?_⟩)
    refine aA.of ut ?_;cases kz
    ·simp-implicitDefEqProofs[ap,ak]
     try (repeat' (first|(unfold maxLen;omega)|refine⟨?_,?_⟩))
    ·simp-implicitDefEqProofs
     repeat (refine⟨by (first|(unfold maxLen;omega)|(simp;unfold maxLen;omega)),?_⟩)
     refine aA.of rh ?_;simp-implicitDefEqProofs[ap,ak]
     try (repeat' (first|(unfold maxLen;omega)|refine⟨?_,?_⟩))
   ·simp-implicitDefEqProofs[ap,cQ]
    repeat (refine⟨by (first|(unfold maxLen;omega)|(simp;unfold maxLen;omega)),?_⟩)
    refine bp.of (fun h=>absurd (by simpa using h) ap) (r:=.x (.one (.bool false))) rfl ?_;simp-implicitDefEqProofs[ap]
    repeat (refine⟨by (first|(unfold maxLen;omega)|(simp;unfold maxLen;omega)),?_⟩)
    refine aA.of ut ?_;cases kz
    ·simp-implicitDefEqProofs[ap,ak]
     try (repeat' (first|(unfold maxLen;omega)|refine⟨?_,?_⟩))
    ·simp-implicitDefEqProofs
     repeat (refine⟨by (first|(unfold maxLen;omega)|(simp;unfold maxLen;omega)),?_⟩)
     refine aA.of rh ?_;simp-implicitDefEqProofs[ap,ak]
     try (repeat' (first|(unfold maxLen;omega)|refine⟨?_,?_⟩))
end Go.Proofs.YtaalfcghmjkaeaaGreatDoor
namespace Go.Proofs.YtaalfcghmjkaeaaGreatDoor
open Go Go.Proofs.Tryz
set_option maxRecDepth 100000
def ziO:Go.Shelf.Ren:=⟨iF [(125,89),(128,152),(129,153),(190,169),(258,221),(302,264),(303,265),(304,266),(305,267),(306,268),(307,269),(308,270),(309,271),(310,272),(329,204),(330,205),(333,291),(334,292),(335,293),(336,294),(344,304)],iF [(0,0),(3,3),(4,4),(5,5),(9,9),(31,34),(46,180),(51,242),(53,127),(131,156),(182,234),(183,235),(218,278),(222,282),(228,314),(229,315)],fun x=>x⟩
def Xd:Go.Proofs.Lays.n190 prog ziO where
 mixed:=by kernel_rfl
 f125:=bJ func89
 f128:=bJ func152
 f129:=bJ func153
 f190:=bJ func169
 f258:=bJ func221
 f302:=bJ func264
 f303:=bJ func265
 f304:=bJ func266
 f305:=bJ func267
 f306:=bJ func268
 f307:=bJ func269
 f308:=bJ func270
 f309:=bJ func271
 f310:=bJ func272
 f329:=bJ func204
 f330:=bJ func205
 f333:=bJ func291
 f334:=bJ func292
 f335:=bJ func293
 f336:=bJ func294
 f344:=bJ func304
 t0:=underlying0
 a0:=isAgg0
 z0:=sizeOf0
 v0:=zeroValue0
 t3:=underlying3
 a3:=isAgg3
 z3:=sizeOf3
 v3:=zeroValue3
 t4:=underlying4
 a4:=isAgg4
 z4:=sizeOf4
 v4:=zeroValue4
 t5:=underlying5
 a5:=isAgg5
 z5:=sizeOf5
 v5:=zeroValue5
 t9:=underlying9
 a9:=isAgg9
 z9:=sizeOf9
 v9:=zeroValue9
 t31:=underlying34
 a31:=isAgg34
 z31:=sizeOf34
 v31:=zeroValue34
 t46:=underlying180
 a46:=isAgg180
 z46:=sizeOf180
 v46:=zeroValue180
 t51:=underlying242
 a51:=isAgg242
 z51:=sizeOf242
 v51:=zeroValue242
 t53:=underlying127
 a53:=isAgg127
 z53:=sizeOf127
 v53:=zeroValue127
 t131:=underlying156
 a131:=isAgg156
 z131:=sizeOf156
 v131:=zeroValue156
 t182:=underlying234
 a182:=isAgg234
 z182:=sizeOf234
 v182:=zeroValue234
 t183:=underlying235
 a183:=isAgg235
 z183:=sizeOf235
 v183:=zeroValue235
 t218:=underlying278
 a218:=isAgg278
 z218:=sizeOf278
 v218:=zeroValue278
 t222:=underlying282
 a222:=isAgg282
 z222:=sizeOf282
 v222:=zeroValue282
 t228:=underlying314
 a228:=isAgg314
 z228:=sizeOf314
 v228:=zeroValue314
 t229:=underlying315
 a229:=isAgg315
 z229:=sizeOf315
 v229:=zeroValue315
end Go.Proofs.YtaalfcghmjkaeaaGreatDoor
namespace Go.Proofs.YtaalfcghmjkaeaaGreatDoor
open Go Go.Ab Go.RowKit Go.Lib Go.Sort Go.Proofs.Tryz
variable [bf][cK prog][jC prog]
set_option maxRecDepth 100000
set_option maxHeartbeats 4000000
def lR(l:List (List UInt8)):List (List UInt8):=l.mergeSort fun x y=>decide (x<=y)
def Zq(l:List (List UInt8)):(lR l).Perm l:=List.mergeSort_perm _ _
def RC:∀l:List (List UInt8),(dr l).flatten=l.map af.str
 |[]=>rfl
 |x::r=>by have:=RC r;unfold dr at this⊢;rw[iw,qn,this];rfl
def znX{w:World}{S:Nat->Prop}{l:List (List UInt8)}{us:List Value}(h:cj w S (dr l).flatten us):us=l.map encStr:=by
 rw[RC]at h;apply tz;intro t;have hlen:us.length=l.length:=by rw[h.1,w1]
 by_cases ba:t<l.length
 ·obtain⟨u,hu,ao⟩:=h.2 t _ (by rw[dO,cn ba];rfl);rw[hu,dO,cn ba];cases ao;rfl
 ·rw[lX (by omega),lX (by rw[w1];omega)]
def znY{w w':World}{S S':Nat->Prop}{l kd:List (List UInt8)}{us:List Value}(h:cj w S (dr l).flatten us)(hm:∀e∈kd,e∈l):cj w' S' (dr kd).flatten (kd.map encStr):=by
 rw[RC]at h⊢;refine⟨by simp,fun t c ba=>?_⟩;rw[dO]at ba⊢;cases he:kd[t]? with
 |none=>rw[he]at ba;cases ba
 |some e=>
  rw[he]at ba;cases ba;obtain⟨i,ai,rfl⟩:=Qi.1 (hm e (iq he));obtain⟨u,_,hu⟩:=h.2 i _ (by rw[dO,cn ai];rfl);cases hu with
  |str _ al=>exact⟨_,rfl,.str _ al⟩
def znZ(w:World)(g n:Nat)(d:Array (List UInt8))(os:Array Obj)(cur:Array Value)(t:TypeId)(dl:Nat×Nat)(aB:w.heap[g]?=some (.cells cur t dl)) :
  (grow (putRow encStr (Sort.ahead w n) g 0 d) os).heap[g]?=some (.cells (putCells encStr 0 d cur) t dl):=by
 have aq:=(gM.1 aB).1;show ((w.heap.modify g (onCells (putCells encStr 0 d)))++os)[g]?=_
 rw[y4 (by simpa using aq),H5,aC rfl,aB];rfl
def zoa(w:World)(g n:Nat)(d:Array (List UInt8))(os:Array Obj)(j:Nat)(ac:j<w.heap.size)(bC:j≠g) :
  (grow (putRow encStr (Sort.ahead w n) g 0 d) os).heap[j]?=w.heap[j]?:=by
 show ((w.heap.modify g (onCells (putCells encStr 0 d)))++os)[j]?=_;rw[y4 (by simpa using ac),H5,au (fun h=>bC h.symm)]
def zob(d:Array (List UInt8))(cur:Array Value):(putCells encStr 0 d cur).size=cur.size:=by simp[putCells]
def zoc(d:List (List UInt8))(cur:Array Value)(h:d.length<=cur.size):(putCells encStr 0 d.toArray cur).toList.take d.length=d.map encStr:=by
 apply tz;intro t;rw[jl];by_cases ba:t<d.length
 ·rw[aC ba,Ez];unfold putCells;rw[Array.getElem?_mapIdx,qs (by omega),dO,cn ba];simp[ba]
 ·rw[au ba,lX (by simp;omega)]
def zng(l:List (List UInt8))(al:l.length<=1000000):cB prog 169 [GX l] (.b2 []) [GX (lR l)]:=by
 refine⟨(nc f169 (by kernel_rfl) (by kernel_rfl) rfl),rfl,fun w E vs fE ho=>?_⟩;have aW:=(ho.rep 0 _ rfl).2;have Ys:vs.size<=1:=by have:=ho.size;simpa using this
 obtain⟨us,aw,an,aj,hm,bl⟩:=aW;have xt:(dr l).length=l.length:=by simp[dr]
 rw[xt]at aw hm;have ZC:=Zq l;have fg:=ZC.length_eq;have Mz:=znX an;have fp:b8 vs 0≠undef->vs=#[b8 vs 0]:=by
  intro bC;have:0<vs.size:=by
   rcases kJ 0 vs.size with h|h
   ·exact h
   ·exfalso;exact bC (by simp[b8,Cv h])
  apply yY
  ·simp;omega
  ·intro j vS rg;have QW:j=0:=by simp at rg;omega
   subst QW;simp[b8,qs vS]
 have fD:∀x∈dr (lR l),x.length=1:=fun x aj=>by obtain⟨e,_,rfl⟩:=hh.1 aj;rfl
 rcases aw.2 with⟨aH,aT⟩|⟨g,cap,cur,aH,_,⟨dl,a1,hI⟩,nl,fT,en,ge⟩
 ·have Ho:l=[]:=Ls.1 aT;subst Ho;have uW:lR []=[]:=Ls.1 fg;rw[uW];have Hr:vs=#[.slice none 0 0]:=by rw[fp (by rw[aH];exact fun h=>by cases h),aH]
  rw[Hr];refine(Any.slices_Sort_string_none Xd none 0 w).mono ?_;rintro e w' ⟨rfl,rfl⟩;refine⟨_,rfl,Kept.refl _ _,⟨#[],rfl,rfl,fun j x ac=>by simp at ac⟩,?_,?_⟩
  ·intro b ae;cases ae
  ·intro j o ac
   match j,ac with
   |0,ac=>cases ac;exact⟨[],World.yH _ _ _ _,⟨rfl,fun j c h=>by simp[dr]at h⟩,fun x aj=>by simp[dr]at aj,cd _,fun b ae=>by cases ae⟩
   |j+1,ac=>simp at ac
 ·have wC:E.eA g:=bl g (by rw[aH];rfl);have Fa:=(gM.1 a1).1;have hC:cur.toList.length=cap:=by simpa using en
  rw[uY]at ge;have DP:Holds encStr w g 0 l.toArray:=by
   intro j ac;have ac:j<l.length:=by simpa using ac
   have zod:w.cell? ⟨g,0+j,none⟩=cur[j]?:=by rw[f_];exact cell_of_row w g j cur _ dl a1
   have aI:cur.toList[j]?=some (encStr l[j]):=by
    have:(cur.toList.take l.length)[j]?=cur.toList[j]?:=by rw[jl,aC ac]
    rw[<-this,ge,Mz,dO,cn ac];rfl
   refine⟨?_,?_⟩
   ·rw[zod,<-Ez,aI];simp[ac]
   ·rcases hI with rfl|aY
    ·simp[World.frozen?,a1]
    ·obtain⟨aK,eN⟩:=dl;simp[World.frozen?,a1];intro h;dsimp only at aY;omega
  have Hr:vs=#[.slice (some ⟨g,0,none⟩) l.length cap]:=by rw[fp (by rw[aH];exact fun h=>by cases h),aH]
  rw[Hr];refine(Any.slices_Sort_string Xd g 0 cap l w DP Fa (by omega)).mono ?_;rintro e w' ⟨rfl,n,os,hw⟩;have hw:w'=grow (putRow encStr (Sort.ahead w n) g 0 (lR l).toArray) os:=hw;have bm:=znZ w g n (lR l).toArray os cur _ dl a1;have ZD:=fun j ac bC=>zoa w g n (lR l).toArray os j ac bC;have m6:=zoc (lR l) cur (by rw[fg,<-iZ,hC];omega);have nY:=zob (lR l).toArray cur;rw[<-hw]at bm ZD;have ko:∀b,E.rd b->b≠g:=fun b ae lb=>by subst lb;exact fE.apart b ae wC
  have b':w.heap.size<=w'.heap.size:=by
   rw[hw];show w.heap.size<=((w.heap.modify g (onCells (putCells encStr 0 (lR l).toArray)))++os).size
   rw[HS,Array.size_modify];omega
  refine⟨_,rfl,⟨by rw[hw];rfl,by rw[hw];rfl,by rw[hw];rfl,b',fun k am v6=>ZD k am (fun e=>v6 (by rw[e];exact wC))⟩,⟨#[],rfl,rfl,fun j x ac=>by simp at ac⟩,?_,?_⟩
  ·intro b ae;cases ae
  ·intro j o ac
   match j,ac with
   |0,ac=>
    cases ac;have io:(dr (lR l)).length=l.length:=by rw[v8,fg]
    refine⟨(lR l).map encStr,⟨?_,.inr ⟨g,cap,_,?_,cd _,⟨dl,bm,by rw[nY];exact hI⟩,?_,fT,by rw[nY,en],?_⟩⟩,znY an (fun e he=>ZC.mem_iff.1 he),fD,?_,?_⟩
    ·rw[w1,io,fg,uY]
    ·show Value.slice (some ⟨g,0,none⟩) l.length cap=_;rw[io]
    ·rw[io];exact nl
    ·rw[io,uY,<-fg];exact m6
    ·rw[io];unfold maxLen;omega
    ·intro b ae;have ae:g=b:=by simpa[Value.ownBlock,b8]using ae
     subst ae;exact wC
   |j+1,ac=>simp at ac
end Go.Proofs.YtaalfcghmjkaeaaGreatDoor
namespace Go.Proofs.YtaalfcghmjkaeaaGreatDoor
open Go Go.Ab Go.Proofs.Tryz Go.IntKind
variable [bf][ee 0][cK prog][jC prog]
set_option maxRecDepth 100000
set_option maxHeartbeats 4000000
abbrev wN(l:List eS):az:=.one (.list 2 (l.map eS.row))
def zmR(l:List eS)(al:l.length<=1000)(k:Int)(s:List UInt8):∃n:Int,-1<=n/\aD prog 219 [wN l,.agg [.int .i64 k,.str s]] (.x (.one (.int .i64 n))):=by
 refine aD.vT (fun n:Int=>-1<=n) (fun n=>.x (.one (.int .i64 n))) mixed (fn:=f219) (by kernel_rfl) (by kernel_rfl) rfl (by kernel_rfl) (by simp[f219]) ?_;simp-implicitDefEqProofs;refine cI.of Nat (fun i=>[(0,.x (wN l)),(3,.box [.int .i64 k,.str s]),(7,.x (.one (.int .i64 l.length))),(8,.x (.one (.int .i64 i)))]) (fun i=>i<=l.length) (fun i=>l.length-i) 0 (cd _) ?_ ?_
 ·simp
 intro i ai;by_cases aq:i<l.length
 ·have aO:((i:Int)<(l.length:Int))=True:=aL (by omega);have bG:i64.wrap ((i:Int)+1)=(i:Int)+1:=bk _ (by omega);have bm:l[i].row=[.int .i64 l[i].kind,.str l[i].name]:=rfl;by_cases am:k=l[i].kind
  ·by_cases ap:s=l[i].name
   ·subst am;subst ap;simp-implicitDefEqProofs[aq,aO,bm];exact hq.of (i:Int) (by omega) (by simp)
   ·subst am;simp-implicitDefEqProofs[aq,aO,bm,ap,bG];refine bI.of (i+1) aq (by omega) (by simp)
  ·simp-implicitDefEqProofs[aq,aO,bm,am,bG];refine bI.of (i+1) aq (by omega) (by simp)
 ·have aO:((i:Int)<(l.length:Int))=False:=aV (by omega);simp-implicitDefEqProofs[aO];exact hq.of (-1) (by omega) (by simp)
def zmS(l:List eS)(al:l.length<=1000)(k:Int)(s:List UInt8):∃b:Bool,aD prog 166 [wN l,.agg [.int .i64 k,.str s]] (.x (.one (.bool b))):=by obtain⟨n,_,aF⟩:=zmR l al k s;refine⟨decide (0<=n),?_⟩;refine aD.a6 f166 mixed fun aE=>?_;simp-implicitDefEqProofs;refine aA.of aF ?_;simp-implicitDefEqProofs
def Bc(l:List eS)(al:l.length<=1000)(k:Int)(s:List UInt8):∃b:Bool,aD prog 99 [wN l,.one (.int .i64 k),.one (.str s)] (.x (.one (.bool b))):=by obtain⟨b,aF⟩:=zmS l al k s;refine⟨b,?_⟩;refine aD.a6 f99 mixed fun aE=>?_;simp-implicitDefEqProofs;refine aA.of aF ?_;simp-implicitDefEqProofs
def cw(s:List UInt8):Prop:=∀c∈s,33<=c.toNat/\c.toNat<=126
def cw.take{s:List UInt8}(h:cw s)(n:Nat):cw (s.take n):=fun c ao=>h c (rU ao)
def cw.drop{s:List UInt8}(h:cw s)(n:Nat):cw (s.drop n):=fun c ao=>h c (tw ao)
def cw.append{s t:List UInt8}(h:cw s)(bE:cw t):cw (s++t):=fun c ao=>(gv.1 ao).elim (h c) (bE c)
def cw.cons{c:UInt8}{t:List UInt8}(h:33<=c.toNat/\c.toNat<=126)(bE:cw t):cw (c::t):=fun d ax=>(eT.1 ax).elim (fun e=>e▸h) (bE d)
def cw.nil:cw []:=fun _ h=>by cases h
def zmT{c:UInt8}(h:33<=c.toNat/\c.toNat<=126):33<=(hf c).toNat/\(hf c).toNat<=126:=by have ab:=Pk c;split at ab<;>omega
def cw.set{s:List UInt8}(h:cw s)(i:Nat){c:UInt8}(ao:33<=c.toNat/\c.toNat<=126):cw (s.set i c):=fun d ax=>by
 rcases Iq ax with aa|rfl
 ·exact h d aa
 ·exact ao
def zmU(s:List UInt8)(ap:s.length<=4000000):∃r:List UInt8,(r.length=s.length/\(cw s->cw r))/\aD prog 167 [.one (.str s)] (.x (.one (.str r))):=by
 refine aD.vT (fun r:List UInt8=>r.length=s.length/\(cw s->cw r)) (fun r=>.x (.one (.str r))) mixed (fn:=f167) (by kernel_rfl) (by kernel_rfl) rfl (by kernel_rfl) (by simp[f167]) ?_;have ah:=j4;simp-implicitDefEqProofs;refine cI.of (Nat×List UInt8) (fun x=>[(3,.own 5 1 (bL x.2)),(4,.x (.one (.int .i64 x.1)))]) (fun x=>(x.1<=s.length+2)/\x.2.length=s.length/\(cw s->cw x.2)) (fun x=>s.length+3-x.1) (0,s) ⟨by omega,rfl,id⟩ ?_ ?_
 ·simp
 rintro⟨i,b⟩ ⟨ai,al,bj⟩;dsimp only at ai al bj⊢;by_cases aq:i<b.length
 ·have aO:((i:Int)<(b.length:Int))=True:=aL (by omega);have cH:i64.wrap ((i:Int)+1)=(i:Int)+1:=bk _ (by omega);have dW:i64.wrap ((i:Int)+2)=(i:Int)+2:=bk _ (by omega);have hs:i64.wrap ((i:Int)+2+1)=(i:Int)+2+1:=bk _ (by omega);have bO:∀h,(bL b)[i]'h=g_ b[i]:=fun h=>by rw[Kl]
  by_cases mm:b[i]=37
  ·have Bd:((b[i].toNat:Int)=37)=True:=aL (by rw[mm];decide);have HK:((b[i].toNat:Int)==37)=true:=by simpa using Bd
   simp-implicitDefEqProofs[aq,aO,ah,bO,HK,dW];refine bI.of (i+3,b) ⟨by omega,al,bj⟩ (by dsimp only;omega) (by simp[hs];omega)
  ·have Bd:((b[i].toNat:Int)=37)=False:=aV (fun e=>mm (uw.1 (by have:(37:UInt8).toNat=37:=rfl;omega)));have HK:((b[i].toNat:Int)==37)=false:=by simpa using Bd
   by_cases ao:65<=b[i].toNat/\b[i].toNat<=90
   ·have bA:(65<=(b[i].toNat:Int))=True:=aL (by omega);have c2:((b[i].toNat:Int)<=90)=True:=aL (by omega);have hw:u8.wrap ((b[i].toNat:Int)+32)=((hf b[i]).toNat:Int):=by
     rw[Pk,aC ao];simp[IntKind.wrap,IntKind.signed,IntKind.bits];omega
    simp-implicitDefEqProofs[aq,aO,ah,bO,HK,bA,c2,hw];obtain⟨bg,ri⟩:∃bg,bg=b.set i (hf b[i]):=⟨_,rfl⟩
    have sr:bL bg=(bL b).set i (g_ (hf b[i])):=by rw[ri,J3]
    refine bI.of (i+1,bg) ⟨by omega,by rw[ri];simpa using al,fun h=>by rw[ri];exact(bj h).set i (zmT (bj h _ (jN aq)))⟩ (by dsimp only;omega) ?_;simp[sr,cH]
   ·by_cases aa:65<=b[i].toNat
    ·have bA:(65<=(b[i].toNat:Int))=True:=aL (by omega);have c2:((b[i].toNat:Int)<=90)=False:=aV (by omega);simp-implicitDefEqProofs[aq,aO,ah,bO,HK,bA,c2];refine bI.of (i+1,b) ⟨by omega,al,bj⟩ (by dsimp only;omega) (by simp[cH])
    ·have bA:(65<=(b[i].toNat:Int))=False:=aV (by omega);simp-implicitDefEqProofs[aq,aO,ah,bO,HK,bA];refine bI.of (i+1,b) ⟨by omega,al,bj⟩ (by dsimp only;omega) (by simp[cH])
 ·have aO:((i:Int)<(b.length:Int))=False:=aV (by omega);have aw:=Dg b;have ae:=Df b;simp-implicitDefEqProofs[aO,aw,ae,ah];exact hq.of b ⟨al,bj⟩ (by simp)
def zmV(s:List UInt8)(ap:s.length<=4000000)(l:List eS)(al:l.length<=1000):∃r:List UInt8,(r.length<=s.length/\(cw s->cw r))/\aD prog 100 [.one (.str s),wN l] (.x (.one (.str r))):=by
 refine aD.vT (fun r:List UInt8=>r.length<=s.length/\(cw s->cw r)) (fun r=>.x (.one (.str r))) mixed (fn:=f100) (by kernel_rfl) (by kernel_rfl) rfl (by kernel_rfl) (by simp[f100]) ?_;obtain⟨jy,a7⟩:=Bc l al 3 [];obtain⟨GL,b1⟩:=Bc l al 4 [];obtain⟨j3,⟨Zm,Rs⟩,rh⟩:=zmU s ap;have main:∃p:List UInt8,p=(if jy=true then j3 else s)/\p.length=s.length/\(cw s->cw p):=by
  refine⟨_,rfl,?_,?_⟩
  ·split
   ·exact Zm
   ·rfl
  ·split
   ·exact Rs
   ·exact id
 obtain⟨p,kv,hk,fN⟩:=main;have ua:=PR p 47 (by omega);have ae:=KL p 47 p.length;generalize p2 p 47 p.length=k at ua ae;obtain⟨j,m7⟩:∃j:Nat,k+1=j:=⟨(k+1).toNat,by omega⟩
 have mo:i64.wrap (k+1)=(j:Int):=by rw[bk _ (by omega)];exact m7
 have g1:((j:Int)<=(p.length:Int))=True:=aL (by omega);have g2:(j<=p.length)=True:=aL (by omega);obtain⟨GM,dZ⟩:=Bc l al 5 (p.drop j);simp-implicitDefEqProofs;refine aA.of a7 ?_;cases jy
 all_goals
  simp only[hB,h6,kg]at kv;subst kv;simp-implicitDefEqProofs
  try refine aA.of rh ?_
  try simp-implicitDefEqProofs
  refine aA.of ua ?_;by_cases he:List.drop j p=[]
 iterate 2
  ·have sO:p.length<=j:=by simpa using he
   have sU:((p.length:Int)<=(j:Int))=True:=aL (by omega);have sV:(p.length<=j)=True:=aL sO;simp-implicitDefEqProofs[mo,g1,he];refine bp.of (fun h=>by simp at h) (r:=.x (.one (.bool false))) rfl ?_;simp-implicitDefEqProofs;refine aA.of b1 ?_;cases GL
   ·simp-implicitDefEqProofs;exact hq.of p ⟨by omega,fN⟩ (by simp)
   ·simp-implicitDefEqProofs;refine cI.of (List UInt8) (fun q=>[(0,.x (.one (.str q)))]) (fun q=>q.length<=p.length/\(cw p->cw q)) (fun q=>q.length) p ⟨eG _,id⟩ ?_ ?_
    ·simp
    rintro q ⟨pq,gk⟩;rcases kJ 1 q.length with yr|hle
    ·have bA:(1<(q.length:Int))=True:=aL (by omega);have c2:(1<q.length)=True:=aL yr;obtain⟨n,dJ⟩:∃n,n+1=q.length:=⟨q.length-1,by omega⟩
     have HL:i64.wrap ((q.length:Int)-1)=(n:Int):=by rw[bk _ (by omega)];omega
     have c3:((n:Int)<(q.length:Int))=True:=aL (by omega);have c4:n<q.length:=by omega
     have c5:((n:Int)<=(q.length:Int))=True:=aL (by omega);have jg:(n<=q.length)=True:=aL (by omega);by_cases rx:((q[n].toNat:Int)=47)
     ·have Be:((q[n].toNat:Int)==47)=true:=by simpa using rx
      simp-implicitDefEqProofs[bA,HL,c3,c4,c5,rx];refine bI.of (q.take n) ⟨by rw[d'];omega,fun h=>(gk h).take n⟩ (by rw[d'];omega) (by simp)
     ·have Be:((q[n].toNat:Int)==47)=false:=by simpa using rx
      simp-implicitDefEqProofs[bA,HL,c3,c4,Be];exact hq.of q ⟨by omega,fun h=>gk (fN h)⟩ (by simp)
    ·have bA:(1<(q.length:Int))=False:=aV (by omega);have c2:(1<q.length)=False:=aV (by omega);simp-implicitDefEqProofs[bA];exact hq.of q ⟨by omega,fun h=>gk (fN h)⟩ (by simp)
  ·have sO:¬p.length<=j:=by simpa using he
   have sU:((p.length:Int)<=(j:Int))=False:=aV (by omega);have sV:(p.length<=j)=False:=aV sO;simp-implicitDefEqProofs[mo,g1,he];refine bp.of (fun _=>dZ) rfl ?_;have cut:∃d:List UInt8,d=(if GM=true then p.take j else p)/\d.length<=p.length/\(cw p->cw d):=⟨_,rfl,by split<;>simp;omega,fun h=>by split;exact h.take j;exact h⟩
   obtain⟨d,sY,EJ,Rt⟩:=cut;cases GM
   all_goals
    simp only[hB,h6,kg]at sY;simp-implicitDefEqProofs[mo,g1,he]
    try rw[<-sY]
    refine aA.of b1 ?_;cases GL
    ·simp-implicitDefEqProofs;exact hq.of d ⟨by omega,fun h=>by first|exact Rt (fN h)|exact h⟩ (by simp[sY])
    ·simp-implicitDefEqProofs;refine cI.of (List UInt8) (fun q=>[(0,.x (.one (.str q)))]) (fun q=>q.length<=d.length/\(cw d->cw q)) (fun q=>q.length) d ⟨eG _,id⟩ ?_ ?_
     ·simp[sY]
     rintro q ⟨pq,gk⟩;rcases kJ 1 q.length with yr|hle
     ·have bA:(1<(q.length:Int))=True:=aL (by omega);have c2:(1<q.length)=True:=aL yr;obtain⟨n,dJ⟩:∃n,n+1=q.length:=⟨q.length-1,by omega⟩
      have HL:i64.wrap ((q.length:Int)-1)=(n:Int):=by rw[bk _ (by omega)];omega
      have c3:((n:Int)<(q.length:Int))=True:=aL (by omega);have c4:n<q.length:=by omega
      have c5:((n:Int)<=(q.length:Int))=True:=aL (by omega);have jg:(n<=q.length)=True:=aL (by omega);by_cases rx:((q[n].toNat:Int)=47)
      ·have Be:((q[n].toNat:Int)==47)=true:=by simpa using rx
       simp-implicitDefEqProofs[bA,HL,c3,c4,c5,rx];refine bI.of (q.take n) ⟨by rw[d'];omega,fun h=>(gk h).take n⟩ (by rw[d'];omega) (by simp)
      ·have Be:((q[n].toNat:Int)==47)=false:=by simpa using rx
       simp-implicitDefEqProofs[bA,HL,c3,c4,Be];exact hq.of q ⟨by omega,fun h=>by first|exact gk (Rt (fN h))|exact gk h⟩ (by simp)
     ·have bA:(1<(q.length:Int))=False:=aV (by omega);have c2:(1<q.length)=False:=aV (by omega);simp-implicitDefEqProofs[bA];exact hq.of q ⟨by omega,fun h=>by first|exact gk (Rt (fN h))|exact gk h⟩ (by simp)
end Go.Proofs.YtaalfcghmjkaeaaGreatDoor
namespace Go.Proofs.YtaalfcghmjkaeaaGreatDoor
open Go Go.Ab Go.Proofs.Tryz Go.IntKind
variable [bf][cK prog][jC prog]
set_option maxRecDepth 100000
set_option maxHeartbeats 4000000
def G3(s:List UInt8)(c:UInt8):aD prog 90 [.one (.str s),.one (.str [c])] (.b2 [.one (.str (cu c s)),.one (.str (fK c s)),.one (.bool (decide (c∈s)))]):=KN s c
def G4(c:UInt8)(s:List UInt8):(fK c s).length<=s.length:=by
 unfold fK;split
 ·unfold n1;rw[eo];omega
 ·simp
def W_{s:List UInt8}(h:s.length<=2000):(sJ s).Fit:=by
 have aa:=G5 41 s;have ab:=G5 58 (cu 41 s);have ar:=G4 58 (cu 41 s);have aN:=G4 41 s;have bD:(o0 (fK 41 s)).length<=(fK 41 s).length:=by unfold o0;split<;>simp
 have b9:=G5 63 (o0 (fK 41 s));have dw:=G4 63 (o0 (fK 41 s));have d8:=PZ 44 46 (cu 58 (cu 41 s));refine⟨?_,?_,?_,?_,?_,?_⟩
 ·show (if (fK 41 s).head?=some 115 then iS else j2).length<=_;split<;>simp[iS,j2]
 ·show (nf 44 46 (cu 58 (cu 41 s))).length<=_;omega
 ·show (fK 58 (cu 41 s)).length<=_;omega
 ·show (cu 63 (o0 (fK 41 s))).length<=_;omega
 ·show (fK 63 (o0 (fK 41 s))).length<=_;omega
 ·show (0:Nat)<=_;omega
def zih(s:List UInt8):aD prog 53 [.one (.str s)] (.b2 [.agg (sK s).row,.one (.int .i64 (x3 s))]):=by
 obtain⟨X,cS⟩:∃X,X=sK s:=⟨_,rfl⟩
 obtain⟨F,a8⟩:∃F,F=x3 s:=⟨_,rfl⟩
 have fw:=cS;unfold sK at fw;rw[<-a8]at fw⊢;rw[<-cS];clear cS;unfold x3 at a8;by_cases al:2000<s.length
 ·have du:(2000<(s.length:Int))=True:=aL (by omega);rw[aC al]at a8;subst a8;rw[au (by decide)]at fw;subst fw;refine aD.a6 f53 mixed fun aE=>?_;simp-implicitDefEqProofs[du,dG,Addr.row]
 have du:(2000<(s.length:Int))=False:=aV (by omega);rw[au al]at a8;have eF:=W_ (s:=s) (by omega);have gy:=x6 (sJ s) eF;have bv:=fun e=>zhB (sJ s) e;have o4:fU s=(decide (e3 (sJ s)=0)&&(decide (Gu (sJ s)=s)&&!(decide (58∈cu 41 s)&&decide (fK 58 (cu 41 s)=[])))):=rfl;have cY:sJ s=⟨if (fK 41 s).head?=some 115 then iS else j2,nf 44 46 (cu 58 (cu 41 s)),fK 58 (cu 41 s),cu 63 (o0 (fK 41 s)),fK 63 (o0 (fK 41 s)),decide (63∈o0 (fK 41 s)),[],false⟩:=rfl;have Ge:o0 (fK 41 s)=if (fK 41 s).head?=some 115 then (fK 41 s).drop 1 else fK 41 s:=rfl
 have aF:=G3 s 41;have aP:=G3 (cu 41 s) 58;have oH:=G5 41 s;have r5:=G5 58 (cu 41 s);have a7:=PY (cu 58 (cu 41 s)) 44 46 (by omega);have b1:=PD (fK 41 s) [115];rw[GG]at b1;have dZ:=G3 (o0 (fK 41 s)) 63;generalize decide (41∈s)=zIP at aF;generalize zIQ:decide (58∈cu 41 s)=o5 at aP o4;generalize fK 58 (cu 41 s)=cM at aP o4 cY;generalize nf 44 46 (cu 58 (cu 41 s))=zIR at a7 cY;generalize cu 58 (cu 41 s)=a1 at aP a7;generalize cu 41 s=pl at aF aP;generalize fK 41 s=iV at aF b1 dZ cY Ge;rw[Ge]at dZ cY;clear Ge eF;generalize zii:Gu (sJ s)=W' at bv o4;generalize n7:e3 (sJ s)=DF at gy bv o4;rw[cY]at gy bv fw;clear cY zii n7;unfold j2 iS at*;simp only[eg,rF]at b1;refine aD.a6 f53 mixed fun aE=>?_;simp-implicitDefEqProofs[du];refine aA.of aF ?_;simp-implicitDefEqProofs;refine aA.of aP ?_;simp-implicitDefEqProofs;refine aA.of a7 ?_;simp-implicitDefEqProofs;refine aA.of b1 ?_;by_cases KX:iV.head?=some 115
 ·have ax:decide (iV.head?=some 115)=true:=by simpa using KX
  rw[ax];simp only[KX,hB]at dZ gy bv fw;simp only[List.drop_one]at dZ gy bv fw;generalize cu 63 iV.tail=zij at dZ gy bv fw;generalize fK 63 iV.tail=zik at dZ gy bv fw;generalize decide (63∈iV.tail)=zil at dZ gy bv fw;simp only[Addr.row]at gy bv;simp-implicitDefEqProofs;refine aA.of dZ ?_;by_cases he:o5=true/\cM=[]
  ·obtain⟨av,aI⟩:=he;subst av;subst aI;have am:fU s=false:=by rw[o4];simp
   rw[am,au (by decide)]at a8;subst a8;rw[au (by decide)]at fw;subst fw;simp-implicitDefEqProofs;refine bp.of (fun h=>by simp at h) (r:=.x (.one (.int .i64 0))) rfl ?_;simp-implicitDefEqProofs;refine bp.of (fun h=>by simp at h) (r:=.x (.one (.str []))) rfl ?_;simp-implicitDefEqProofs[dG,Addr.row]
  have P':(o5&&decide (cM=[]))=false:=by
   cases o5
   ·rfl
   ·have:¬cM=[]:=fun e=>he ⟨rfl,e⟩;simp[this]
  have AG:o5=true->cM.isEmpty=false:=fun e=>by have:¬cM=[]:=fun aI=>he ⟨e,aI⟩;simpa using this
  rw[P']at o4;by_cases n7:DF=0;rotate_left
  ·have f1:(DF==0)=false:=by simpa using n7
   have f2:(DF != 0)=true:=by simpa using n7
   have am:fU s=false:=by rw[o4];simp[n7]
   rw[am,au (by decide)]at a8;subst a8;rw[au (by decide)]at fw;subst fw;cases o5
   ·simp-implicitDefEqProofs;refine bp.of (fun _=>gy) rfl ?_;simp-implicitDefEqProofs[f2];refine bp.of (fun h=>by simp at h) (r:=.x (.one (.str []))) rfl ?_;simp-implicitDefEqProofs[dG,Addr.row]
   ·have cQ:=AG rfl;have k6:¬cM=[]:=fun e=>he ⟨rfl,e⟩;simp-implicitDefEqProofs[cQ];refine bp.of (fun _=>gy) rfl ?_;simp-implicitDefEqProofs[f2];refine bp.of (fun h=>by simp at h) (r:=.x (.one (.str []))) rfl ?_;simp-implicitDefEqProofs[dG,Addr.row]
  subst n7;have bv:=bv rfl;by_cases b6:W'=s
  ·have am:fU s=true:=by rw[o4,b6];simp
   rw[am,aC rfl]at a8;subst a8;rw[aC rfl]at fw;subst fw;cases o5
   ·simp-implicitDefEqProofs;refine bp.of (fun _=>gy) rfl ?_;simp-implicitDefEqProofs;refine bp.of (fun _=>bv) rfl ?_;simp-implicitDefEqProofs[b6,Addr.row]
   ·have cQ:=AG rfl;have k6:¬cM=[]:=fun e=>he ⟨rfl,e⟩;simp-implicitDefEqProofs[cQ];refine bp.of (fun _=>gy) rfl ?_;simp-implicitDefEqProofs;refine bp.of (fun _=>bv) rfl ?_;simp-implicitDefEqProofs[b6,Addr.row]
  ·have am:fU s=false:=by rw[o4];simp[b6]
   rw[am,au (by decide)]at a8;subst a8;rw[au (by decide)]at fw;subst fw;cases o5
   ·simp-implicitDefEqProofs;refine bp.of (fun _=>gy) rfl ?_;simp-implicitDefEqProofs;refine bp.of (fun _=>bv) rfl ?_;simp-implicitDefEqProofs[b6,dG,Addr.row]
   ·have cQ:=AG rfl;have k6:¬cM=[]:=fun e=>he ⟨rfl,e⟩;simp-implicitDefEqProofs[cQ];refine bp.of (fun _=>gy) rfl ?_;simp-implicitDefEqProofs;refine bp.of (fun _=>bv) rfl ?_;simp-implicitDefEqProofs[b6,dG,Addr.row]
 ·have ax:decide (iV.head?=some 115)=false:=by simpa using KX
  rw[ax];simp only[KX,h6]at dZ gy bv fw;generalize cu 63 iV=zij at dZ gy bv fw;generalize fK 63 iV=zik at dZ gy bv fw;generalize decide (63∈iV)=zil at dZ gy bv fw;simp only[Addr.row]at gy bv;simp-implicitDefEqProofs;refine aA.of dZ ?_;by_cases he:o5=true/\cM=[]
  ·obtain⟨av,aI⟩:=he;subst av;subst aI;have am:fU s=false:=by rw[o4];simp
   rw[am,au (by decide)]at a8;subst a8;rw[au (by decide)]at fw;subst fw;simp-implicitDefEqProofs;refine bp.of (fun h=>by simp at h) (r:=.x (.one (.int .i64 0))) rfl ?_;simp-implicitDefEqProofs;refine bp.of (fun h=>by simp at h) (r:=.x (.one (.str []))) rfl ?_;simp-implicitDefEqProofs[dG,Addr.row]
  have P':(o5&&decide (cM=[]))=false:=by
   cases o5
   ·rfl
   ·have:¬cM=[]:=fun e=>he ⟨rfl,e⟩;simp[this]
  have AG:o5=true->cM.isEmpty=false:=fun e=>by have:¬cM=[]:=fun aI=>he ⟨e,aI⟩;simpa using this
  rw[P']at o4;by_cases n7:DF=0;rotate_left
  ·have f1:(DF==0)=false:=by simpa using n7
   have f2:(DF != 0)=true:=by simpa using n7
   have am:fU s=false:=by rw[o4];simp[n7]
   rw[am,au (by decide)]at a8;subst a8;rw[au (by decide)]at fw;subst fw;cases o5
   ·simp-implicitDefEqProofs;refine bp.of (fun _=>gy) rfl ?_;simp-implicitDefEqProofs[f2];refine bp.of (fun h=>by simp at h) (r:=.x (.one (.str []))) rfl ?_;simp-implicitDefEqProofs[dG,Addr.row]
   ·have cQ:=AG rfl;have k6:¬cM=[]:=fun e=>he ⟨rfl,e⟩;simp-implicitDefEqProofs[cQ];refine bp.of (fun _=>gy) rfl ?_;simp-implicitDefEqProofs[f2];refine bp.of (fun h=>by simp at h) (r:=.x (.one (.str []))) rfl ?_;simp-implicitDefEqProofs[dG,Addr.row]
  subst n7;have bv:=bv rfl;by_cases b6:W'=s
  ·have am:fU s=true:=by rw[o4,b6];simp
   rw[am,aC rfl]at a8;subst a8;rw[aC rfl]at fw;subst fw;cases o5
   ·simp-implicitDefEqProofs;refine bp.of (fun _=>gy) rfl ?_;simp-implicitDefEqProofs;refine bp.of (fun _=>bv) rfl ?_;simp-implicitDefEqProofs[b6,Addr.row]
   ·have cQ:=AG rfl;have k6:¬cM=[]:=fun e=>he ⟨rfl,e⟩;simp-implicitDefEqProofs[cQ];refine bp.of (fun _=>gy) rfl ?_;simp-implicitDefEqProofs;refine bp.of (fun _=>bv) rfl ?_;simp-implicitDefEqProofs[b6,Addr.row]
  ·have am:fU s=false:=by rw[o4];simp[b6]
   rw[am,au (by decide)]at a8;subst a8;rw[au (by decide)]at fw;subst fw;cases o5
   ·simp-implicitDefEqProofs;refine bp.of (fun _=>gy) rfl ?_;simp-implicitDefEqProofs;refine bp.of (fun _=>bv) rfl ?_;simp-implicitDefEqProofs[b6,dG,Addr.row]
   ·have cQ:=AG rfl;have k6:¬cM=[]:=fun e=>he ⟨rfl,e⟩;simp-implicitDefEqProofs[cQ];refine bp.of (fun _=>gy) rfl ?_;simp-implicitDefEqProofs;refine bp.of (fun _=>bv) rfl ?_;simp-implicitDefEqProofs[b6,dG,Addr.row]
end Go.Proofs.YtaalfcghmjkaeaaGreatDoor
namespace Go.Proofs.YtaalfcghmjkaeaaGreatDoor
open Go Go.Ab Go.Proofs.Tryz Go.IntKind
variable [bf][ee 0][cK prog][jC prog]
set_option maxRecDepth 100000
set_option maxHeartbeats 4000000
def LN{a:Addr}(h:e3 a=0):a.Fit:=by
 have al:=(Ai h).2.2.2.2.2.2.2.2;have hw:=Dz a;have an:=uA.of h;have aa:=an.KI;have ab:=an.WJ;have ar:a.gH.length<=(Ah a).length+0\/a.gH=[]:=by
  by_cases e:a.gH=[]
  ·exact .inr e
  ·have:=(Ai h).2.2.2.2.2.2.2.1 e;left;unfold Ah;rw[this];simp
 refine⟨by omega,by omega,by omega,by omega,by omega,?_⟩;rcases ar with ar|ar
 ·omega
 ·rw[ar];simp
def ns:dG.Fit:=⟨by decide,by decide,by decide,by decide,by decide,by decide⟩
def zmW{t:List UInt8}(h:(nd t).2.2=0):e3 (nd t).1=0:=by obtain⟨al,an⟩:=zmd h;exact(zfZ an).2 al
def Zn(t:List UInt8):(nd t).1.Fit:=by
 by_cases h:(nd t).2.2=0
 ·exact LN (zmW h)
 ·have:(nd t).1=dG:=by
   unfold nd at h⊢;split
   ·rfl
   ·rename_i al;rw[au al]at h;cases an:C7 t with
    |error k=>rfl
    |ok a=>rw[an]at h;exact absurd rfl h
  rw[this];exact ns
def D7:List UInt8:=[9,10,12,13,32]
def zmX(s:List UInt8):aD prog 212 [.one (.str s)] (.x (.one (.str (Lib.trimS s D7)))):=by have aF:=x4 s D7 (by decide) (by decide);unfold D7 at aF⊢;refine aD.a6 f212 mixed fun aE=>?_;simp-implicitDefEqProofs;refine aA.of aF ?_;simp-implicitDefEqProofs
def zmY(s:List UInt8)(ap:s.length<=4000000):∃r:List UInt8,r.length<=s.length/\aD prog 213 [.one (.str s)] (.x (.one (.str r))):=by
 refine aD.vT (fun r:List UInt8=>r.length<=s.length) (fun r=>.x (.one (.str r))) mixed (fn:=f213) (by kernel_rfl) (by kernel_rfl) rfl (by kernel_rfl) (by simp[f213]) ?_;simp-implicitDefEqProofs;refine cI.of Nat (fun i=>[(0,.x (.one (.str s))),(6,.x (.one (.int .i64 s.length))),(7,.x (.one (.int .i64 i)))]) (fun i=>i<=s.length) (fun i=>s.length-i) 0 (cd _) ?_ ?_
 ·simp
 intro i ai;by_cases aq:i<s.length
 ·have aO:((i:Int)<(s.length:Int))=True:=aL (by omega);have bG:i64.wrap ((i:Int)+1)=(i:Int)+1:=bk _ (by omega);have aF:=Kk s[i];have aP:=x5 s[i];have hle:((i:Int)<=(s.length:Int))=True:=aL (by omega);have Kz:(i<=s.length)=True:=aL ai;by_cases q_:s[i]=58
  ·have av:((s[i].toNat:Int)=58)=True:=aL (by rw[q_];decide);have aI:((s[i].toNat:Int)==58)=true:=by simpa using av
   simp-implicitDefEqProofs[aq,aO,aI,hle];exact hq.of (s.take i) (by rw[d'];omega) (by simp)
  ·have av:((s[i].toNat:Int)=58)=False:=aV (fun e=>q_ (uw.1 (by have:(58:UInt8).toNat=58:=rfl;omega)));have aI:((s[i].toNat:Int)==58)=false:=by simpa using av
   simp-implicitDefEqProofs[aq,aO,aI];refine aA.of aF ?_;cases jn:qY s[i]
   ·by_cases aW:i=0
    ·simp-implicitDefEqProofs[aW];refine bp.of (fun h=>by simp at h) (r:=.x (.one (.bool false))) rfl ?_;simp-implicitDefEqProofs;exact hq.of [] (by simp) (by simp)
    ·have lQ:((i:Int)=0)=False:=aV (by omega);have D8:((i:Int)==0)=false:=by simpa using lQ
     simp-implicitDefEqProofs[D8];refine bp.of (fun _=>aP) rfl ?_;cases hA:df s[i]
     ·by_cases ak:((s[i].toNat:Int)=43)
      ·simp-implicitDefEqProofs[ak];refine bI.of (i+1) aq (by omega) (by simp[bG])
      by_cases br:((s[i].toNat:Int)=45)
      ·simp-implicitDefEqProofs[br];refine bI.of (i+1) aq (by omega) (by simp[bG])
      by_cases ax:((s[i].toNat:Int)=46)
      ·simp-implicitDefEqProofs[ax];refine bI.of (i+1) aq (by omega) (by simp[bG])
      ·have hv:((s[i].toNat:Int)==43)=false:=by simpa using ak
       have Ae:((s[i].toNat:Int)==45)=false:=by simpa using br
       have e8:((s[i].toNat:Int)==46)=false:=by simpa using ax
       simp-implicitDefEqProofs[ak,br,ax];exact hq.of [] (by simp) (by simp)
     ·simp-implicitDefEqProofs;refine bI.of (i+1) aq (by omega) (by simp[bG])
   ·simp-implicitDefEqProofs;refine bp.of (fun h=>by simp at h) (r:=.x (.one (.bool false))) rfl ?_;simp-implicitDefEqProofs;refine bI.of (i+1) aq (by omega) (by simp[bG])
 ·have aO:((i:Int)<(s.length:Int))=False:=aV (by omega);simp-implicitDefEqProofs[aO];exact hq.of [] (by simp) (by simp)
def zmZ(a:Addr)(bj:e3 a=0)(s:List UInt8)(ap:s.length<=2000):∃o:Addr,o.Fit/\aD prog 215 [.agg a.row,.one (.str s)] (.x (.agg o.row)):=by
 have ay:=LN bj;have an:=uA.of bj;obtain⟨f1,f2,f3,f4,f5,f6⟩:=ay;have mn:=an.KI;have q9:=an.WJ;obtain⟨cX,aw,cM,pa,ej,br,bo,fq⟩:=a;dsimp only at f1 f2 f3 f4 f5 f6 mn q9;have bA:=G3 s 35;have ef:(cu 35 s).length<=s.length:=by unfold cu;exact(KU _).length_le
 have d1:=G4 35 s;generalize cu 35 s=t at*;generalize fK 35 s=HM at*;generalize decide (35∈s)=HN at*;have c2:=G3 t 63;have dv:(cu 63 t).length<=t.length:=by unfold cu;exact(KU _).length_le
 have d2:=G4 63 t;generalize cu 63 t=p at*;generalize fK 63 t=q at*;generalize decide (63∈t)=LO at*;have bm:∀x:Addr,x.row=[.str x.scheme,.str x.host,.str x.port,.str x.path,.str x.query,.bool x.jD,.str x.gH,.bool x.k3]:=fun _=>rfl;cases p with
 |nil=>
  cases LO with
  |false=>refine⟨⟨cX,aw,cM,pa,ej,br,HM,HN⟩,⟨by omega,by omega,by omega,by omega,by omega,by simp only;omega⟩,?_⟩;simp only[Addr.row];refine aD.a6 f215 mixed fun aE=>?_;simp-implicitDefEqProofs;refine aA.of bA ?_;simp-implicitDefEqProofs;refine aA.of c2 ?_;simp-implicitDefEqProofs;refine hc.r ⟨[2],by kernel_rfl,?_⟩;simp-implicitDefEqProofs
  |true=>refine⟨⟨cX,aw,cM,pa,q,true,HM,HN⟩,⟨by omega,by omega,by omega,by omega,by simp only;omega,by simp only;omega⟩,?_⟩;simp only[Addr.row];refine aD.a6 f215 mixed fun aE=>?_;simp-implicitDefEqProofs;refine aA.of bA ?_;simp-implicitDefEqProofs;refine aA.of c2 ?_;simp-implicitDefEqProofs
 |cons c p=>
  have al:=PR pa 47 (by omega);have ae:=KL pa 47 pa.length;generalize p2 pa 47 pa.length=k at al ae;obtain⟨j,m7⟩:∃j:Nat,k+1=j:=⟨(k+1).toNat,by omega⟩
  have mo:i64.wrap (k+1)=(j:Int):=by rw[bk _ (by omega)];exact m7
  have g1:((j:Int)<=(pa.length:Int))=True:=aL (by omega);have g2:(j<=pa.length)=True:=aL (by omega);have aW:0<(c::p).length:=by simp
  by_cases rx:c=47
  ·have av:((c.toNat:Int)=47)=True:=aL (by rw[rx];decide);have aI:((c.toNat:Int)==47)=true:=by simpa using av
   refine⟨⟨cX,aw,cM,c::p,q,LO,HM,HN⟩,⟨by omega,by omega,by omega,by simp only;omega,by simp only;omega,by simp only;omega⟩,?_⟩;simp only[Addr.row];refine aD.a6 f215 mixed fun aE=>?_;simp-implicitDefEqProofs;refine aA.of bA ?_;simp-implicitDefEqProofs;refine aA.of c2 ?_;simp-implicitDefEqProofs[av]
  ·have av:((c.toNat:Int)=47)=False:=aV (fun e=>rx (uw.1 (by have:(47:UInt8).toNat=47:=rfl;omega)));have aI:((c.toNat:Int)==47)=false:=by simpa using av
   have bC:(List.take j pa++c::p)≠[]:=by simp
   obtain⟨x,y,LP⟩:∃x y,List.take j pa++c::p=x::y:=by
    cases h:List.take j pa++c::p with
    |nil=>exact absurd h bC
    |cons x y=>exact⟨x,y,rfl⟩
   have L':y.length+1<=4000:=by have:=mH List.length LP;simp only[eE,d',eg]at this;simp only[eg]at dv;omega
   have jL:(List.take j pa++c::p).length<=maxLen:=by rw[LP];unfold maxLen;simp only[eg];omega
   by_cases aj:x=47
   ·have i1:((x.toNat:Int)=47)=True:=aL (by rw[aj];decide);have i2:((x.toNat:Int)==47)=true:=by simpa using i1
    refine⟨⟨cX,aw,cM,x::y,q,LO,HM,HN⟩,⟨by omega,by omega,by omega,by simp only[eg];omega,by simp only;omega,by simp only;omega⟩,?_⟩;simp only[Addr.row];refine aD.a6 f215 mixed fun aE=>?_;simp-implicitDefEqProofs;refine aA.of bA ?_;simp-implicitDefEqProofs;refine aA.of c2 ?_;simp-implicitDefEqProofs[av];refine hc.l ⟨by kernel_rfl,?_⟩;simp-implicitDefEqProofs;refine aA.of al ?_;simp-implicitDefEqProofs[mo,g1,g2,LP,i1]
    (try simp only[eg]at dv);unfold maxLen;omega
   ·have i1:((x.toNat:Int)=47)=False:=aV (fun e=>aj (uw.1 (by have:(47:UInt8).toNat=47:=rfl;omega)));have i2:((x.toNat:Int)==47)=false:=by simpa using i1
    refine⟨⟨cX,aw,cM,47::x::y,q,LO,HM,HN⟩,⟨by omega,by omega,by omega,by simp only[eg];omega,by simp only;omega,by simp only;omega⟩,?_⟩;simp only[Addr.row];refine aD.a6 f215 mixed fun aE=>?_;simp-implicitDefEqProofs;refine aA.of bA ?_;simp-implicitDefEqProofs;refine aA.of c2 ?_;simp-implicitDefEqProofs[av];refine hc.l ⟨by kernel_rfl,?_⟩;simp-implicitDefEqProofs;refine aA.of al ?_;simp-implicitDefEqProofs[mo,g1,g2,LP,i1]
    (try simp only[eg]at dv);unfold maxLen;omega
def zna(s:List UInt8):(Lib.trimS s D7).length<=s.length:=VW s D7
def pe(o:Addr×Int):Addr×Int:=if o.2≠0 then (dG,o.2)else if e3 o.1≠0 then (dG,e3 o.1)else (⟨o.1.scheme,o.1.host,o.1.port,n0 o.1.path,o.1.query,o.1.jD,o.1.gH,o.1.k3⟩,0)
def znb(p:List UInt8):(n0 p).length<=p.length+1:=by
 unfold n0;split
 ·simp
 ·rename_i ak;have x2:0<p.length:=by cases p with|nil=>exact absurd rfl ak|cons x r=>simp
  have bC:=sR 47 (p.drop 1);have e:=KH _ bC 47;have aI:=rb 47 _ bC;rw[yd,eo]at aI;simp only[eg];omega
def LQ{o:Addr×Int}:(pe o).1.Fit:=by
 unfold pe;split
 ·exact ns
 split
 ·exact ns
 rename_i h;have ay:=LN (te h);have an:=(uA.of (te h)).KI;have hu:=znb o.1.path;exact⟨ay.scheme,ay.host,ay.port,by show (n0 o.1.path).length<=_;omega,ay.query,ay.gH⟩
def znc(a:Addr)(bj:a.Fit)(v:List UInt8):∃R:Addr×Int,R.1.Fit/\aD prog 160 [.agg a.row,.one (.str v)] (.b2 [.agg R.1.row,.one (.int .i64 R.2)]):=by
 have bm:∀x:Addr,x.row=[.str x.scheme,.str x.host,.str x.port,.str x.path,.str x.query,.bool x.jD,.str x.gH,.bool x.k3]:=fun _=>rfl;have aF:=x6 a bj;by_cases aW:e3 a=0;rotate_left
 ·refine⟨(dG,e3 a),ns,?_⟩;generalize e3 a=F at*;have lQ:(F==0)=false:=by simpa using aW
  obtain⟨cX,aw,cM,pa,ej,br,bo,fq⟩:=a;simp only[Addr.row,dG]at aF⊢;refine aD.a6 f160 mixed fun aE=>?_;simp-implicitDefEqProofs;refine aA.of aF ?_;simp-implicitDefEqProofs[aW]
 have ub:=LN aW;have Zo:a.scheme.length<=2000:=by have al:=(Ai aW).2.2.2.2.2.2.2.2;have hw:=Dz a;omega
 have znd:(⟨a.scheme,a.host,a.port,a.path,a.query,a.jD,[],false⟩:Addr).Fit:=⟨ub.scheme,ub.host,ub.port,ub.path,ub.query,by show (0:Nat)<=_;omega⟩
 rw[aW]at aF;by_cases aH:2000<v.length
 ·refine⟨(dG,2),ns,?_⟩;have gb:(2000<(v.length:Int))=True:=aL (by omega);obtain⟨cX,aw,cM,pa,ej,br,bo,fq⟩:=a;simp only[Addr.row,dG]at aF⊢;refine aD.a6 f160 mixed fun aE=>?_;simp-implicitDefEqProofs;refine aA.of aF ?_;simp-implicitDefEqProofs[gb]
 have gb:(2000<(v.length:Int))=False:=aV (by omega);have aP:=zmX v;have ap:=zna v;generalize Lib.trimS v D7=s at*;obtain⟨r,an,a7⟩:=zmY s (by omega);have b1:=q6 r;generalize cD r=n at*;obtain⟨m,hm,dZ⟩:=zmZ a aW s (by omega);have jV:=Wn s;have f6:=Zn s;have uP:=Wn (a.scheme++58::s);have f7:=Zn (a.scheme++58::s);have A9:=strings_HasPrefix s [47,47];have LR:∀o:Addr×Int,o.1.Fit->∃F,aD prog 55 [.agg o.1.row] (.x (.one (.int .i64 F)))/\(F≠0->pe (o.1,0)=(dG,F))/\(F=0->∃u,aD prog 165 [.one (.str o.1.path)] (.x (.one (.str u)))/\pe (o.1,0)=(⟨o.1.scheme,o.1.host,o.1.port,u,o.1.query,o.1.jD,o.1.gH,o.1.k3⟩,0)):=by
  intro o ay;refine⟨e3 o.1,x6 o.1 ay,fun h=>?_,fun h=>⟨n0 o.1.path,WH _ (iJ (uA.of h).KI (by decide)),?_⟩⟩
  ·unfold pe;rw[au (by simp),aC h]
  ·unfold pe;rw[au (by simp),au (by simp[h])]
 generalize nd s=p_ at*;generalize nd (a.scheme++58::s)=n' at*;obtain⟨p_,zJH,KD⟩:=p_;obtain⟨n',zJI,KE⟩:=n';dsimp only at*;by_cases uW:s=[]
 ·obtain⟨F,bA,c2,c3⟩:=LR (⟨a.scheme,a.host,a.port,a.path,a.query,a.jD,[],false⟩,0) znd;refine⟨pe (⟨a.scheme,a.host,a.port,a.path,a.query,a.jD,[],false⟩,0),LQ,?_⟩;generalize pe (⟨a.scheme,a.host,a.port,a.path,a.query,a.jD,[],false⟩,0)=R at*;obtain⟨cX,aw,cM,pa,ej,br,bo,fq⟩:=a;simp only[Addr.row]at aF bA c3⊢;refine aD.a6 f160 mixed fun aE=>?_;simp-implicitDefEqProofs;refine aA.of aF ?_;simp-implicitDefEqProofs[gb];refine aA.of aP ?_;simp-implicitDefEqProofs;refine aA.of a7 ?_;simp-implicitDefEqProofs;refine aA.of b1 ?_;simp-implicitDefEqProofs[uW];refine aA.of bA ?_;by_cases bc:F=0
  ·obtain⟨u,c4,c5⟩:=c3 bc;rw[c5];simp-implicitDefEqProofs[bc];refine aA.of c4 ?_;simp-implicitDefEqProofs
  ·have iI:(F==0)=false:=by simpa using bc
   rw[c2 bc];simp-implicitDefEqProofs[bc,dG]
 have D9:s.isEmpty=false:=by simpa using uW
 by_cases aT:n=[]
 rotate_left
 ·have bC:n.isEmpty=false:=by simpa using aT
  by_cases a1:n=j2\/n=iS;rotate_left
  ·have jw:n≠[104,116,116,112]:=fun e=>a1 (.inl e);have mV:n≠[104,116,116,112,115]:=fun e=>a1 (.inr e);refine⟨(dG,4),ns,?_⟩;obtain⟨cX,aw,cM,pa,ej,br,bo,fq⟩:=a;simp only[Addr.row,dG]at aF⊢;refine aD.a6 f160 mixed fun aE=>?_;simp-implicitDefEqProofs;refine aA.of aF ?_;simp-implicitDefEqProofs[gb];refine aA.of aP ?_;simp-implicitDefEqProofs;refine aA.of a7 ?_;simp-implicitDefEqProofs;refine aA.of b1 ?_;simp-implicitDefEqProofs[D9,bC,jw,mV]
  ·obtain⟨F,bA,c2,c3⟩:=LR (p_,0) f6;by_cases aY:KD=0
   ·refine⟨pe (p_,0),LQ,?_⟩;generalize pe (p_,0)=R at*;obtain⟨cX,aw,cM,pa,ej,br,bo,fq⟩:=a;obtain⟨rC,b9,rD,lJ,rE,mq,lH,iN⟩:=p_;simp only[Addr.row]at aF jV bA c3⊢;unfold j2 iS at a1;rcases a1 with a1|a1
    all_goals
     refine aD.a6 f160 mixed fun aE=>?_;simp-implicitDefEqProofs;refine aA.of aF ?_;simp-implicitDefEqProofs[gb];refine aA.of aP ?_;simp-implicitDefEqProofs;refine aA.of a7 ?_;simp-implicitDefEqProofs;refine aA.of b1 ?_;simp-implicitDefEqProofs[D9,a1];refine aA.of jV ?_;simp-implicitDefEqProofs[aY];refine aA.of bA ?_;by_cases bc:F=0
     ·obtain⟨u,c4,c5⟩:=c3 bc;rw[c5];simp-implicitDefEqProofs[bc];refine aA.of c4 ?_;simp-implicitDefEqProofs
     ·have iI:(F==0)=false:=by simpa using bc
      rw[c2 bc];simp-implicitDefEqProofs[bc,dG]
   ·have Ru:(KD==0)=false:=by simpa using aY
    refine⟨(dG,KD),ns,?_⟩;obtain⟨cX,aw,cM,pa,ej,br,bo,fq⟩:=a;obtain⟨rC,b9,rD,lJ,rE,mq,lH,iN⟩:=p_;simp only[Addr.row,dG]at aF jV⊢;unfold j2 iS at a1;rcases a1 with a1|a1
    all_goals
     refine aD.a6 f160 mixed fun aE=>?_;simp-implicitDefEqProofs;refine aA.of aF ?_;simp-implicitDefEqProofs[gb];refine aA.of aP ?_;simp-implicitDefEqProofs;refine aA.of a7 ?_;simp-implicitDefEqProofs;refine aA.of b1 ?_;simp-implicitDefEqProofs[D9,a1];refine aA.of jV ?_;simp-implicitDefEqProofs[aY]
 subst aT;cases ak:hH s [47,47]
 ·obtain⟨F,bA,c2,c3⟩:=LR (m,0) hm;refine⟨pe (m,0),LQ,?_⟩;generalize pe (m,0)=R at*;obtain⟨cX,aw,cM,pa,ej,br,bo,fq⟩:=a;obtain⟨rC,b9,rD,lJ,rE,mq,lH,iN⟩:=m;simp only[Addr.row]at aF dZ bA c3⊢;refine aD.a6 f160 mixed fun aE=>?_;simp-implicitDefEqProofs;refine aA.of aF ?_;simp-implicitDefEqProofs[gb];refine aA.of aP ?_;simp-implicitDefEqProofs;refine aA.of a7 ?_;simp-implicitDefEqProofs;refine aA.of b1 ?_;simp-implicitDefEqProofs[D9];refine aA.of A9 ?_;simp-implicitDefEqProofs[ak];refine aA.of dZ ?_;simp-implicitDefEqProofs;refine aA.of bA ?_;by_cases bc:F=0
  ·obtain⟨u,c4,c5⟩:=c3 bc;rw[c5];simp-implicitDefEqProofs[bc];refine aA.of c4 ?_;simp-implicitDefEqProofs
  ·have iI:(F==0)=false:=by simpa using bc
   rw[c2 bc];simp-implicitDefEqProofs[bc,dG]
 ·obtain⟨F,bA,c2,c3⟩:=LR (n',0) f7;by_cases aY:KE=0
  ·refine⟨pe (n',0),LQ,?_⟩;generalize pe (n',0)=R at*;obtain⟨cX,aw,cM,pa,ej,br,bo,fq⟩:=a;obtain⟨rC,b9,rD,lJ,rE,mq,lH,iN⟩:=n';simp only[Addr.row]at aF uP bA c3 Zo⊢;refine aD.a6 f160 mixed fun aE=>?_;simp-implicitDefEqProofs;refine aA.of aF ?_;simp-implicitDefEqProofs[gb];refine aA.of aP ?_;simp-implicitDefEqProofs;refine aA.of a7 ?_;simp-implicitDefEqProofs;refine aA.of b1 ?_;simp-implicitDefEqProofs[D9];refine aA.of A9 ?_;simp-implicitDefEqProofs[ak];refine⟨by unfold maxLen;omega,by unfold maxLen;omega,aA.of uP ?_⟩;simp-implicitDefEqProofs[aY];refine aA.of bA ?_;by_cases bc:F=0
   ·obtain⟨u,c4,c5⟩:=c3 bc;rw[c5];simp-implicitDefEqProofs[bc];refine aA.of c4 ?_;simp-implicitDefEqProofs
   ·have iI:(F==0)=false:=by simpa using bc
    rw[c2 bc];simp-implicitDefEqProofs[bc,dG]
  ·have Ru:(KE==0)=false:=by simpa using aY
   refine⟨(dG,KE),ns,?_⟩;obtain⟨cX,aw,cM,pa,ej,br,bo,fq⟩:=a;obtain⟨rC,b9,rD,lJ,rE,mq,lH,iN⟩:=n';simp only[Addr.row,dG]at aF uP Zo⊢;refine aD.a6 f160 mixed fun aE=>?_;simp-implicitDefEqProofs;refine aA.of aF ?_;simp-implicitDefEqProofs[gb];refine aA.of aP ?_;simp-implicitDefEqProofs;refine aA.of a7 ?_;simp-implicitDefEqProofs;refine aA.of b1 ?_;simp-implicitDefEqProofs[D9];refine aA.of A9 ?_;simp-implicitDefEqProofs[ak];refine⟨by unfold maxLen;omega,by unfold maxLen;omega,aA.of uP ?_⟩;simp-implicitDefEqProofs[aY]
def zne{a b:List (List UInt8)}(h:a.Perm b):eY a=eY b:=by unfold eY;exact(h.map _).sum_nat
def LS{c:UInt8}(ao:33<=c.toNat/\c.toNat<=126):∀{w:List (List UInt8)},(∀x∈w,cw x)->cw (hG c w)
 |[],_=>cw.nil
 |[x],h=>by simpa[hG]using h x (by simp)
 |x::y::r,h=>by
  have:=LS ao (w:=y::r) (fun z aY=>h z (l3 _ aY));unfold hG
  first
   |exact(h x (by simp)).append (cw.cons ao this)
   |exact((h x (by simp)).append (cw.cons ao cw.nil)).append this
def Zp{c:UInt8}{s:List UInt8}(h:cw s):∀x∈ey c s,cw x:=by
 intro x aj d ax;have:d∈s:=by
  have e:=yd c s;rw[<-e];clear e h;generalize ey c s=w at*;induction w with
  |nil=>cases aj
  |cons a r aX=>
   cases r with
   |nil=>
    rcases eT.1 aj with rfl|aj
    ·simpa[hG]using ax
    ·cases aj
   |cons b r=>
    unfold hG;rcases eT.1 aj with rfl|aj
    ·simp[ax]
    ·have:=aX aj;simp only[gv,eT]
     first
      |exact .inr (.inr this)
      |exact .inr this
 exact h d this
def znf(q:List UInt8)(br:q.length<=600000)(l:List eS)(al:l.length<=1000):∃r:List UInt8,(r.length<=q.length+1/\(cw q->cw r))/\aD prog 101 [.one (.str q),wN l] (.x (.one (.str r))):=by
 refine aD.vT (fun r:List UInt8=>r.length<=q.length+1/\(cw q->cw r)) (fun r=>.x (.one (.str r))) mixed (fn:=f101) (by kernel_rfl) (by kernel_rfl) rfl (by kernel_rfl) (by simp[f101]) ?_;have cU:=Km q 38 br;have v_:=GA 38 q;have bC:=sR 38 q;have GT:=PS 38 q;have Rv:=fun h=>Zp (c:=38) (s:=q) h;have hlen:=KM 38 q;obtain⟨parts,v'⟩:∃parts,parts=ey 38 q:=⟨_,rfl⟩
 rw[<-v']at cU v_ bC GT Rv hlen;clear v';have w3:parts.length<=q.length+1:=by
  rw[<-GT];unfold eY;clear cU v_ bC GT Rv hlen;induction parts with
  |nil=>simp
  |cons a r aX=>simp only[eg,iw,List.sum_cons];omega
 have fin:∀w:List (List UInt8),w≠[]->eY w<=eY parts->(∀x∈w,x∈parts)->(63::hG 38 w).length<=q.length+1/\(cw q->cw (63::hG 38 w)):=by intro w hw ba hm;have:=rb 38 w hw;refine⟨by simp only[eg];omega,fun h=>cw.cons (by decide) (LS (by decide) (fun x aj=>Rv h x (hm x aj)))⟩
 simp-implicitDefEqProofs;refine aA.of cU ?_;simp-implicitDefEqProofs;refine cI.of (Nat×List (List UInt8)) (fun x=>[(1,.x (wN l)),(6,.own 9 1 (dr x.2)),(14,.x (strs parts)),(15,.x (.one (.int .i64 parts.length))),(16,.x (.one (.int .i64 x.1)))]) (fun x=>x.1<=parts.length/\x.2.length<=x.1/\eY x.2<=eY (parts.take x.1)/\∀y∈x.2,y∈parts) (fun x=>parts.length-x.1) (0,[]) ⟨cd _,cd _,by simp[eY],fun y aS=>by cases aS⟩ ?_ ?_
 ·simp[dr]
 rintro⟨i,w⟩ ⟨ai,yT,tY,D4⟩;dsimp only at ai yT tY D4⊢;have dA:(dr w).length=w.length:=v8 w;by_cases aq:i<parts.length
 ·have aO:((i:Int)<(parts.length:Int))=True:=aL (by omega);have fL:i64.wrap ((i:Int)+1)=(i:Int)+1:=bk _ (by omega);have jF:w.length+1<=maxLen:=by unfold maxLen;omega
  have b3:dr (w++[parts[i]])=dr w++[[af.str parts[i]]]:=Au _ _;have m6:eY (parts.take (i+1))=eY (parts.take i)+(parts[i].length+1):=by rw[nF aq,Dw];simp[eY]
  have K':i+1<=parts.length/\(w++[parts[i]]).length<=i+1/\eY (w++[parts[i]])<=eY (parts.take (i+1))/\∀y∈w++[parts[i]],y∈parts:=by
   refine⟨aq,by simp;omega,?_,fun y aS=>?_⟩
   ·rw[m6,Dw];simp[eY]at tY⊢;omega
   ·rcases gv.1 aS with h|h
    ·exact D4 y h
    ·simp at h;subst h;exact jN aq
  have Qs:i+1<=parts.length/\w.length<=i+1/\eY w<=eY (parts.take (i+1))/\∀y∈w,y∈parts:=⟨aq,by omega,by omega,D4⟩
  obtain⟨Hj,uP⟩:=Bc l al 7 (cu 61 parts[i]);obtain⟨rows,D_⟩:∃rows,rows=dr w:=⟨_,rfl⟩
  rw[<-D_]at dA b3⊢;simp-implicitDefEqProofs[aO,aq];refine aA.of (KN parts[i] 61) ?_;by_cases ae:cu 61 parts[i]=[]
  ·simp-implicitDefEqProofs[ae];refine bp.of (fun h=>by simp at h) (r:=.x (.one (.bool false))) rfl ?_;simp-implicitDefEqProofs[dA,jF,fL];refine⟨by omega,bI.of (i+1,w++[parts[i]]) K' (by dsimp only;omega) ?_⟩;simp[b3]
  ·have cm:(cu 61 parts[i]).isEmpty=false:=by simpa using ae
   simp-implicitDefEqProofs[cm];refine bp.of (fun _=>uP) rfl ?_;cases Hj
   ·simp-implicitDefEqProofs[dA,jF,fL];refine⟨by omega,bI.of (i+1,w++[parts[i]]) K' (by dsimp only;omega) ?_⟩;simp[b3]
   ·simp-implicitDefEqProofs[fL];refine bI.of (i+1,w) Qs (by dsimp only;omega) ?_;simp[D_]
 ·have aO:((i:Int)<(parts.length:Int))=False:=aV (by omega);have zJJ:eY (parts.take i)<=eY parts:=by rw[iv (by omega)];exact eG _
  by_cases vO:w=[]
  ·subst vO;simp-implicitDefEqProofs[aO,dr];exact hq.of [] ⟨by simp,fun _=>cw.nil⟩ (by simp)
  have zJK:0<w.length:=by cases w with|nil=>exact absurd rfl vO|cons a r=>simp
  have pH:¬w.length=0:=by omega
  have sW:((w.length:Int)=0)=False:=aV (by omega);have KO:((w.length:Int)==0)=false:=by rw[jz];omega
  obtain⟨mq,jV⟩:=Bc l al 6 [];have w4:=rb 38 w vO;have ac:=strings_Join w [38] (by rw[sP];omega) (by omega);rw[sP]at ac;have r0:=zng w (by omega);have ak:=Zq w;have nY:lR w≠[]:=fun e=>vO (Ls.1 (by rw[<-ak.length_eq,e];rfl));have PO:=rb 38 (lR w) nY;have zJL:=zne ak;have rg:=strings_Join (lR w) [38] (by rw[sP];omega) (by rw[ak.length_eq];omega);rw[sP]at rg;have f1:=fin w vO (by omega) D4;have f2:=fin (lR w) nY (by omega) (fun x aj=>D4 x (ak.mem_iff.1 aj));have PU:1+(hG 38 w).length<=maxLen:=by unfold maxLen;omega
  have PV:(hG 38 w).length+1<=maxLen:=by unfold maxLen;omega
  have znh:1+(hG 38 (lR w)).length<=maxLen:=by unfold maxLen;omega
  have zni:(hG 38 (lR w)).length+1<=maxLen:=by unfold maxLen;omega
  simp-implicitDefEqProofs[aO,dA,KO];refine aA.of jV ?_;cases mq
  ·simp-implicitDefEqProofs;refine aA.of ac ?_;simp-implicitDefEqProofs[PU];exact hq.of _ f1 (by simp)
  ·simp-implicitDefEqProofs;refine aA.Ox ?_;simp-implicitDefEqProofs;refine gg.of r0 ?_;simp-implicitDefEqProofs;refine aA.of rg ?_;simp-implicitDefEqProofs[znh];exact hq.of _ f2 (by simp)
def Zr:∀{s:List UInt8},(cy [] s).2=true->cw s
 |[],_=>cw.nil
 |c::r,h=>by
  unfold cy at h;rw[au (by simp)]at h;split at h
  ·cases h
  ·rename_i ao;have an:lG c=true:=by cases e:lG c with|true=>rfl|false=>exact absurd (.inl e) ao
   unfold lG at an;rw[b4,b4,D3,D3]at an;exact cw.cons ⟨by omega,by omega⟩ (Zr h)
def Zs{s:List UInt8}(h:eM [] s=true):cw s:=by unfold eM at h;rw[b4]at h;exact Zr h.1
def znj{h:List UInt8}(a1:lF h=true):cw h:=by
 unfold lF at a1;rw[b4,fm]at a1;have al:∀x∈ey 46 h,cw x:=by
  intro x aj;have:=a1.2 x aj;unfold x0 at this;simp only[b4,fm]at this;intro c ao;have tA:=this.2.2 c ao;unfold sH qY df at tA;simp only[eO,b4,hF]at tA;rcases tA with h|h
  ·omega
  ·rcases h with h|h
   ·omega
   ·subst h;decide
 have:=LS (c:=46) (by decide) al;rwa[yd]at this
def znk{p:List UInt8}(h:gh p≠0):cw p:=by
 unfold gh at h;split at h
 ·rename_i ao;intro c hm;have:=fm.1 ao.2.2.1 c hm;unfold df at this;simp only[b4,hF]at this;omega
 ·exact absurd rfl h
def znl{c d:UInt8}{s:List UInt8}(ax:33<=d.toNat/\d.toNat<=126)(h:cw s):cw (nf c d s):=by unfold nf;exact LS ax (fun x aj=>Zp h x (List.mem_reverse.1 aj))
def znm(a:Addr)(h:e3 a=0)(l:List eS)(al:l.length<=1000):∃r:List UInt8,(e3 (gW a)=0->r≠[]/\r.length<=2000/\cw r)/\aD prog 57 [.agg a.row,wN l] (.x (.one (.str r))):=by
 have aF:=PQ a h;obtain⟨ls,KR,aK,yf,yg⟩:=WR h;have aE:e3 (gW a)=0->_:=fun e=>Ai e;have Zt:e3 (gW a)=0->_:=fun e=>uA.of e;have znn:=Dz (gW a);generalize gW a=N at*;obtain⟨cX,aw,cM,pa,ej,br,bo,ay⟩:=a;obtain⟨k5,no,n5,rf,sS,kz,qP,wd⟩:=N;simp only at ls KR aK yf yg;simp only[Addr.row]at aF⊢;obtain⟨dv,aP⟩:=Bc l al 2 [];obtain⟨ef,a7⟩:=Bc l al 1 [];obtain⟨zno,⟨hk,fN⟩,ut⟩:=zmV rf (by omega) l al;obtain⟨qr,⟨Zm,Rs⟩,rh⟩:=znf sS (by omega) l al;have gy:=PD no [119,119,119,46];obtain⟨X,cS⟩:∃X,X=(if hH no [119,119,119,46]=true/\dv=true then no.drop 4 else no):=⟨_,rfl⟩
 have zJM:X.length<=no.length:=by rw[cS];split<;>simp
 have znp:cw no->cw X:=by intro h;rw[cS];split;exact h.drop 4;exact h
 have eC:=PY X 46 44 (by omega);have P0:=PZ 46 44 X;have Zu:cw no->cw (nf 46 44 X):=fun h=>znl (by decide) (znp h);generalize nf 46 44 X=T at eC P0 Zu;have Zv:e3 ⟨k5,no,n5,rf,sS,kz,qP,wd⟩=0->cw no/\cw n5/\cw rf/\cw sS/\4<=k5.length:=by
  intro e;have av:=aE e;have aI:=Zt e;refine⟨znj av.2.1,?_,Zs aI.path,Zs aI.query,?_⟩
  ·by_cases aT:n5=[]
   ·rw[aT];exact cw.nil
   ·exact znk (av.2.2.1 aT)
  ·have:=av.1;unfold q0 at this;simp only[eO,hF]at this;have fg:(cD k5).length=k5.length:=by simp[cD]
   rcases this with h|h
   ·rw[h]at fg;simp[j2]at fg;omega
   ·rw[h]at fg;simp[iS]at fg;omega
 refine⟨T++qZ ⟨k5,no,n5,rf,sS,kz,qP,wd⟩++[41]++(if k5=[104,116,116,112,115]/\ef=false then [115]else [])++zno++(if kz=true then qr else []),fun e=>?_,?_⟩
 ·have hw:=(aE e).2.2.2.2.2.2.2.2;obtain⟨de,a2,a3,a4,a5⟩:=Zv e;refine⟨by simp,?_,?_⟩
  ·have iM:(if k5=[104,116,116,112,115]/\ef=false then [115]else ([]:List UInt8)).length<=1:=by split<;>simp
   have gc:(if kz=true then qr else []).length<=(pX ⟨k5,no,n5,rf,sS,kz,qP,wd⟩).length:=by unfold pX;cases kz<;>simp;omega
   have zJN:k5.length+3+no.length+(qZ ⟨k5,no,n5,rf,sS,kz,qP,wd⟩).length+rf.length+(pX ⟨k5,no,n5,rf,sS,kz,qP,wd⟩).length<=(oZ ⟨k5,no,n5,rf,sS,kz,qP,wd⟩).length:=by unfold oZ uo;simp only[eE,eg,rF];omega
   simp only[eE,eg,rF];omega
  ·refine((((cw.append (Zu de) ?_).append (cw.cons (by decide) cw.nil)).append ?_).append (fN a3)).append ?_
   ·unfold qZ;split
    ·exact cw.nil
    ·exact cw.cons (by decide) a2
   ·split
    ·exact cw.cons (by decide) cw.nil
    ·exact cw.nil
   ·split
    ·exact Rs a4
    ·exact cw.nil
 clear Zv aE Zt znn;simp only[qZ];refine aD.a6 f57 mixed fun aE=>?_;simp-implicitDefEqProofs;refine aA.of aF ?_;simp-implicitDefEqProofs;refine aA.of gy ?_;cases WS:hH no [119,119,119,46]<;>cases dv<;>simp only[WS,and_true,and_self,hB,h6,kg,and_false]at cS
 all_goals
  subst cS;simp-implicitDefEqProofs;refine bp.of (fun _=>aP) rfl ?_;simp-implicitDefEqProofs;refine aA.of eC ?_;rcases n5 with _|⟨hY,pF⟩
 all_goals
  by_cases ap:k5=[104,116,116,112,115]
 all_goals
  simp-implicitDefEqProofs[ap]
  repeat (refine⟨by (first|(unfold maxLen;omega)|(simp only[eg]at*;unfold maxLen;omega)),?_⟩)
  refine bp.of (fun _=>a7) rfl ?_;cases ef
 all_goals
  simp-implicitDefEqProofs[ap]
  repeat (refine⟨by (first|(unfold maxLen;omega)|(simp only[eg]at*;unfold maxLen;omega)),?_⟩)
  refine aA.of ut ?_;cases kz
 all_goals
  simp-implicitDefEqProofs[ap]
  repeat (refine⟨by (first|(unfold maxLen;omega)|(simp only[eg]at*;unfold maxLen;omega)),?_⟩)
  try refine aA.of rh ?_
  try simp-implicitDefEqProofs[ap]
  try (repeat' (first|(simp only[eg]at*;unfold maxLen;omega)|refine⟨?_,?_⟩))
def znq{l:List eS}(h:rA l=0):l.length<=50:=by
 unfold rA at h;split at h
 ·cases h
 ·omega
def znr{r:List UInt8}(aW:r≠[])(aa:r.length<=2000)(ab:cw r):k2 r=true:=by
 have ak:Af r=true:=by
  unfold Af;rw[fm];intro c ao;have:=ab c ao;unfold xZ
  first
   |(simp;omega)
   |(simp;omega)
 have al:0<r.length:=by cases r with|nil=>exact absurd rfl aW|cons a t=>simp
 unfold k2 vU gV;rw[ak];simp;omega
def zns(a:Addr)(bj:a.Fit)(l:List eS)(ay:∀r∈l,r.fit):∃R:List UInt8×Int,(R.2=0->k2 R.1=true)/\(R.2≠0->R.1=[])/\aD prog 31 [.agg a.row,wN l] (.b2 [.one (.str R.1),.one (.int .i64 R.2)]):=by
 have aF:=x6 a bj;have aP:=Y6 l ay;have a7:=zhj a bj;by_cases aa:e3 a=0;rotate_left
 ·refine⟨([],e3 a),fun h=>absurd h aa,fun _=>rfl,?_⟩;generalize e3 a=F at*;have dx:(F==0)=false:=by simpa using aa
  obtain⟨cX,aw,cM,pa,ej,br,bo,fq⟩:=a;simp only[Addr.row]at aF⊢;refine aD.a6 f31 mixed fun aE=>?_;simp-implicitDefEqProofs;refine aA.of aF ?_;simp-implicitDefEqProofs[aa]
 by_cases ab:rA l=0;rotate_left
 ·refine⟨([],rA l),fun h=>absurd h ab,fun _=>rfl,?_⟩;rw[aa]at aF;generalize rA l=F at*;have oD:(F==0)=false:=by simpa using ab
  obtain⟨cX,aw,cM,pa,ej,br,bo,fq⟩:=a;simp only[Addr.row]at aF⊢;refine aD.a6 f31 mixed fun aE=>?_;simp-implicitDefEqProofs;refine aA.of aF ?_;simp-implicitDefEqProofs;refine aA.of aP ?_;simp-implicitDefEqProofs[ab]
 have zJO:=znq ab;have AJ:vX a=e3 (gW a):=by unfold vX;rw[au (by simp[aa])]
 by_cases ar:vX a=0;rotate_left
 ·refine⟨([],vX a),fun h=>absurd h ar,fun _=>rfl,?_⟩;rw[aa]at aF;rw[ab]at aP;clear AJ;generalize vX a=F at*;generalize GV a=X at*;have qA:(F==0)=false:=by simpa using ar
  obtain⟨cX,aw,cM,pa,ej,br,bo,fq⟩:=a;obtain⟨znt,znu,znv,Bq,znw,znx,zny,znz⟩:=X;simp only[Addr.row]at aF a7⊢;refine aD.a6 f31 mixed fun aE=>?_;simp-implicitDefEqProofs;refine aA.of aF ?_;simp-implicitDefEqProofs;refine aA.of aP ?_;simp-implicitDefEqProofs;refine aA.of a7 ?_;simp-implicitDefEqProofs[ar]
 obtain⟨r,an,b1⟩:=znm a aa l (by omega);obtain⟨gm,iK,C'⟩:=an (AJ.symm.trans ar);refine⟨(r,0),fun _=>znr gm iK C',fun h=>absurd rfl h,?_⟩;rw[aa]at aF;rw[ab]at aP;rw[ar]at a7;clear AJ an;generalize GV a=X at*;obtain⟨cX,aw,cM,pa,ej,br,bo,fq⟩:=a;obtain⟨znt,znu,znv,Bq,znw,znx,zny,znz⟩:=X;simp only[Addr.row]at aF a7 b1⊢;refine aD.a6 f31 mixed fun aE=>?_;simp-implicitDefEqProofs;refine aA.of aF ?_;simp-implicitDefEqProofs;refine aA.of aP ?_;simp-implicitDefEqProofs;refine aA.of a7 ?_;simp-implicitDefEqProofs;refine aA.of b1 ?_;simp-implicitDefEqProofs
end Go.Proofs.YtaalfcghmjkaeaaGreatDoor
namespace Go.Proofs.YtaalfcghmjkaeaaGreatDoor
open Go Go.Ab Go.Proofs.Tryz Go.IntKind
variable [bf][ee 0][cK prog]
set_option maxRecDepth 100000
set_option maxHeartbeats 8000000
def og{α β:Type}[DecidableEq α](l:List (α×β))(k:α)(v:β):List (α×β):=match l.findIdx? (fun p=>decide (k=p.1))with
 |some i=>l.set i (k,v)
 |none=>l++[(k,v)]
def qh{α β:Type}[DecidableEq α](l:List (α×β))(k:α):Option β:=(l.find? (fun p=>decide (k=p.1))).map (·.2)
def j7{α β:Type}(ek:α->az)(ev:β->az)(l:List (α×β)):List (az×az):=l.map fun p=>(ek p.1,ev p.2)
def wH{α β:Type}[DecidableEq α]{bv:eQ}{ek:α->az}{ev:β->az}(h:∀a b,rK bv (ek a) (ek b)=some (decide (a=b)))(k:α):∀(l:List (α×β)) (i:Nat),er bv (ek k) (j7 ek ev l) i=some ((l.findIdx? (fun p=>decide (k=p.1))).map (·+i))
 |[],i=>rfl
 |p::r,i=>by
  have aX:=wH h k r (i+1) (ev:=ev);show (match rK bv (ek k) (ek p.1)with|some true=>some (some i)|some false=>er bv (ek k) (j7 ek ev r) (i+1)|none=>none)=_
  rw[h];by_cases am:k=p.1
  ·rw[List.findIdx?_cons];simp[am]
  ·rw[List.findIdx?_cons];simp only[am,decide_false];rw[aX];cases r.findIdx? (fun p=>decide (k=p.1))with
   |none=>rfl
   |some j=>simp;omega
def LA{α β:Type}[DecidableEq α]{ek:α->az}{ev:β->az}{l:List (α×β)}{k:α}{v:β}(c:Nat)(bs:List Nat) :
  ∀o,l.findIdx? (fun p=>decide (k=p.1))=o->(gZ c bs (j7 ek ev l) (ek k) (ev v) o).2.2=j7 ek ev (og l k v)
 |some i,h=>by unfold og;rw[h];simp[gZ,j7]
 |none,h=>by unfold og;rw[h];simp[gZ,j7]
def LB{α β:Type}[DecidableEq α]{l:List (α×β)}{k:α}:∀{o:Option Nat},l.findIdx? (fun p=>decide (k=p.1))=o->(∃i v,o=some i/\qh l k=some v/\l[i]?=some (k,v))\/(o=none/\qh l k=none)
 |some i,h=>by
  obtain⟨aq,he,aT⟩:=s8.1 h;have am:k=l[i].1:=wV he;refine .inl ⟨i,l[i].2,rfl,?_,by rw[cn aq,am]⟩;unfold qh;have:l.find? (fun p=>decide (k=p.1))=some l[i]:=by rw[List.find?_eq_some_iff_getElem];exact⟨he,i,aq,rfl,fun j ac=>by simpa using aT j ac⟩
  rw[this];rfl
 |none,h=>by refine .inr ⟨rfl,?_⟩;unfold qh;rw[AM]at h;have:l.find? (fun p=>decide (k=p.1))=none:=I1.2 (fun p ak=>by rw[h p ak];decide);rw[this];rfl
abbrev yE:=List ((Int×Int)×List UInt8)
def wI(k:Int×Int):az:=.agg [.int .i64 k.1,.int .i64 k.2]
def nr(s:List UInt8):az:=.one (.str s)
def LC(a b:Int×Int):rK (.st [.i,.i]) (wI a) (wI b)=some (decide (a=b)):=by
 obtain⟨de,a2⟩:=a;obtain⟨ef,dv⟩:=b;show (if hK [.i,.i] [.int .i64 de,.int .i64 a2] [.int .i64 ef,.int .i64 dv]=true then some (hJ [.int .i64 de,.int .i64 a2] [.int .i64 ef,.int .i64 dv])else none)=_
 rw[aC (by simp)];congr 1;by_cases aa:de=ef<;>by_cases ab:a2=dv<;>simp[hJ,aa,ab]
def LD(a b:List UInt8):rK .s (nr a) (nr b)=some (decide (a=b)):=by show some (a==b)=_;congr 1;by_cases h:a=b<;>simp[h]
def jI(m:yE):List (az×az):=j7 wI nr m
def kF(m:yE):List (List af):=m.map fun p=>[.int .i64 p.1.1,.int .i64 p.1.2]
def kG(m:yE):List (List af):=m.map fun p=>[.str p.2]
def Rk(m:yE):af:=.g8 true false (kF m) (kG m)
def LF(m:yE):jI m=gj true false (kF m) (kG m):=by
 unfold gj kF kG;rw[List.zip_map,List.map_map];unfold jI j7;induction m with
 |nil=>rfl
 |cons p r aX=>simp only[iw,List.zip_cons_cons,aX];rfl
structure pd where
 fa:List Rec
 ids:yE
def pd.row(f:pd):List af:=[.list 7 (f.fa.map Rec.row),Rk f.ids]
abbrev jJ:=List (List UInt8×pd)
def wJ(f:pd):az:=.agg f.row
def jK(m:jJ):List (az×az):=j7 nr wJ m
def oh(m:jJ):List (List af):=m.map fun p=>[.str p.1]
def oi(m:jJ):List (List af):=m.map fun p=>p.2.row
def D5(m:jJ):af:=.g8 false true (oh m) (oi m)
def Rl(m:jJ):jK m=gj false true (oh m) (oi m):=by
 unfold gj oh oi;rw[List.zip_map,List.map_map];unfold jK j7;induction m with
 |nil=>rfl
 |cons p r aX=>simp only[iw,List.zip_cons_cons,aX];rfl
def eD(M:List Mark):yE:=M.foldl (fun m x=>og m ((x.aK:Int),(x.ai:Int)) x.id) []
def Y8{M:List Mark}{i:Nat}(h:i<M.length):eD (M.take (i+1))=og (eD (M.take i)) ((M[i].aK:Int),(M[i].ai:Int)) M[i].id:=by rw[nF h];unfold eD;rw[Ak];rfl
def Rm{α β:Type}[DecidableEq α]{l:List (α×β)}{k:α}{v:β}{p:α×β}(h:p∈og l k v):p∈l\/p=(k,v):=by
 unfold og at h;split at h
 ·exact(Iq h)
 ·rcases gv.1 h with h|h
  ·exact .inl h
  ·exact .inr (qN.1 h)
def zmq:∀{M:List Mark} {p:(Int×Int)×List UInt8},p∈eD M->∃m∈M,m.id=p.2:=by
 intro M;have key:∀(M:List Mark) (a:yE) (p:(Int×Int)×List UInt8),p∈M.foldl (fun m x=>og m ((x.aK:Int),(x.ai:Int)) x.id) a->p∈a\/∃m∈M,m.id=p.2:=by
  intro M;induction M with
  |nil=>exact fun a p h=>.inl h
  |cons x r aX=>
   intro a p h;rcases aX _ _ h with h|⟨m,hm,e⟩
   ·rcases Rm h with h|rfl
    ·exact .inl h
    ·exact .inr ⟨x,by simp,rfl⟩
   ·exact .inr ⟨m,by simp[hm],e⟩
 intro p h;exact(key M [] p h).resolve_left (by simp)
def Y9(b:List UInt8):∀(n a:Nat) (L:List Rec) (M:List Mark),(∀m∈M,∃r∈L,r.id=m.id)->∀m∈(nm n b a L M).2.1,∃r∈(nm n b a L M).1,r.id=m.id
 |0,_,_,_,_=>fun m hm=>by cases hm
 |n+1,a,L,M,h=>by
  unfold nm;split
  ·split
   ·intro m hm;cases hm
   ·refine Y9 b n _ _ _ (fun m hm=>?_);rcases gv.1 hm with hm|hm
    ·obtain⟨r,an,e⟩:=h m hm;exact⟨r,List.mem_append_left _ an,e⟩
    ·rw[qN]at hm;subst hm;exact⟨_,List.mem_append_right _ (qN.2 rfl),rfl⟩
  ·split
   ·intro m hm;cases hm
   ·exact h
def zmr(b:List UInt8):∀m∈(e' b).2.1,∃r∈(e' b).1,r.id=m.id:=by
 unfold e';split
 ·intro m hm;cases hm
 ·exact Y9 b _ _ _ _ (fun m hm=>by cases hm)
def pd.ok(f:pd):Prop:=(∀p∈f.ids,∃r∈f.fa,r.id=p.2)/\f.fa.length<=1000
def tg(f:pd)(aK ai:Int):Rec×Bool:=match qh f.ids (aK,ai)with
 |some w=>(findD f.fa w,true)
 |none=>(j6,false)
def zms(r:Rec)(w:List UInt8):aD prog 69 [.agg r.row,.one (.ref [.str w])] (.x (.one (.bool (r.id==w)))):=by unfold Rec.row;refine aD.a6 f69 mixed fun aE=>?_;simp-implicitDefEqProofs
def zmt(f:pd)(ay:f.ok)(aK ai:Int):aD prog 39 [.agg f.row,.agg [.int .i64 aK,.int .i64 ai]] (.b2 [.agg (tg f aK ai).1.row,.one (.bool (tg f aK ai).2)]):=by
 have cE:=wH (ev:=nr) LC (aK,ai) f.ids 0;have fE:j7 wI nr f.ids=gj true false (kF f.ids) (kG f.ids):=LF f.ids;rw[fE]at cE;unfold wI at cE;obtain⟨Lo,hlen⟩:=ay;have aB:=LB (α:=Int×Int) (β:=List UInt8) (l:=f.ids) (k:=(aK,ai)) rfl;have HF:∀(i:Nat) (w:List UInt8),f.ids[i]?=some ((aK,ai),w)->(gj true false (kF f.ids) (kG f.ids))[i]?=some (az.agg [.int .i64 aK,.int .i64 ai],az.one (.str w)):=by intro i w h;rw[<-fE];unfold j7;rw[dO,h];rfl
 unfold pd.row Rk tg;generalize f.ids.findIdx? (fun p=>decide ((aK,ai)=p.1))=O at*;rcases aB with⟨i,w,rfl,oc,yF⟩|⟨rfl,oc⟩
 ·rw[oc];dsimp only at cE⊢;have Rn:=HF i w yF;have cE:er (.st [.i,.i]) (.agg [.int .i64 aK,.int .i64 ai]) (gj true false (kF f.ids) (kG f.ids)) 0=some (some i):=cE;obtain⟨k0,xf,ch⟩:=Lo _ (iq yF);have k:=Yn f.fa 69 (.ref [.str w]) (fun r=>r.id==w) (fun r _=>zms r w) (by omega);have ap:=Lh (fun r:Rec=>r.id==w) f.fa;unfold jj at k;unfold findD rr;generalize f.fa=L at*;generalize nn (fun r:Rec=>r.id==w) L=I at*;rcases ap with⟨rfl,aT⟩|⟨j,rfl,ac,aq⟩
  ·exfalso;rw[AM]at aT;have:=aT k0 xf;simp[ch]at this
  rw[ac];have aO:((j:Int)<(L.length:Int))=True:=aL (by omega);have bm:L[j].row=[.int .i64 L[j].kind,.str L[j].id,.str L[j].of,.int .i64 L[j].time,.str L[j].key,.list 2 (L[j].bd.map Head.row),dj L[j].block]:=rfl;have zE:L[j]?=some L[j]:=cn aq;refine aD.a6 f39 mixed fun aE=>?_;simp-implicitDefEqProofs[cE,Rn];refine aA.of k ?_;simp-implicitDefEqProofs[aq,aO,bm]
 ·rw[oc];have cE:er (.st [.i,.i]) (.agg [.int .i64 aK,.int .i64 ai]) (gj true false (kF f.ids) (kG f.ids)) 0=some none:=cE;refine aD.a6 f39 mixed fun aE=>?_;simp-implicitDefEqProofs[cE,j6,Rec.row]
structure gL where
 name:List UInt8
 bytes:List UInt8
def gL.row(f:gL):List af:=[.str f.name,dj f.bytes]
structure ez where
 entries:List Entry
 files:List gL
 rules:List eS
def ez.cs(s:ez):List af:=[.list 9 (s.entries.map Entry.row),.list 2 (s.files.map gL.row),.list 2 (s.rules.map eS.row)]
def ez.fit(s:ez):Prop:=∀r∈s.rules,r.fit
def th(b:List UInt8):pd:=⟨(e' b).1,eD (e' b).2.1⟩
def A':Option (List UInt8)->List UInt8->Bool
 |some q,n=>eB n q ||decide (n=q)
 |none,_=>false
def k9:Option (List UInt8)->jJ->List gL->jJ×Int
 |_,m,[]=>(m,0)
 |p,m,x::r=>if ng x.name=false then (m,5)else if A' p x.name=true then (m,8)
  else if (e' x.bytes).2.2.2≠0 then (m,(e' x.bytes).2.2.2)else k9 (some x.name) (og m x.name (th x.bytes)) r
def qi(m:jJ):List Entry->Int
 |[]=>0
 |e::r=>match qh m e.file with
  |none=>9
  |some f=>if (tg f e.aK e.ai).2=false\/(tg f e.aK e.ai).1.key≠e.key\/(tg f e.aK e.ai).1.time≠e.time then 12 else qi m r
def k_(s:ez):jJ×Int:=
 if rA s.rules≠0 then ([],rA s.rules)
 else if 20<s.files.length then ([],2)
 else if (k9 none [] s.files).2≠0 then ([],(k9 none [] s.files).2)
 else if lK s.entries≠0 then ([],lK s.entries)
 else if qi (k9 none [] s.files).1 s.entries≠0 then ([],qi (k9 none [] s.files).1 s.entries)
 else ((k9 none [] s.files).1,0)
def ez.open_(s:ez)(m:jJ):af:=.ref (s.cs++[D5 m])
def D6(s:ez):af:=if (k_ s).2=0 then s.open_ (k_ s).1 else .atom (.pointer none)
def rB(l:List gL):Nat->Option (List UInt8)
 |0=>none
 |i+1=>(l[i]?).map gL.name
def fb(l:List gL):jJ:=l.foldl (fun m x=>og m x.name (th x.bytes)) []
def LG{l:List gL}{i:Nat}(h:i<l.length):fb (l.take (i+1))=og (fb (l.take i)) l[i].name (th l[i].bytes):=by rw[nF h];unfold fb;rw[Ak];rfl
def zmu{l:List gL}{i:Nat}(h:i<l.length)(m:jJ):k9 (rB l i) m (l.drop i)=if ng l[i].name=false then (m,5)else if A' (rB l i) l[i].name=true then (m,8)
  else if (e' l[i].bytes).2.2.2≠0 then (m,(e' l[i].bytes).2.2.2)else k9 (rB l (i+1)) (og m l[i].name (th l[i].bytes)) (l.drop (i+1)):=by
 rw[g' h];have:rB l (i+1)=some l[i].name:=by show (l[i]?).map gL.name=_;rw[cn h];rfl
 rw[this];rfl
def Y_(b:List UInt8):∀(n a:Nat) (L:List Rec) (M:List Mark),(nm n b a L M).1.length<=1000
 |0,_,_,_=>cd _
 |n+1,a,L,M=>by
  unfold nm;split
  ·split
   ·exact cd _
   ·exact Y_ b n _ _ _
  ·split
   ·exact cd _
   ·rename_i h;exact(Lm (te h)).1
def Y'(b:List UInt8):(th b).ok:=by
 refine⟨fun p ak=>?_,?_⟩
 ·obtain⟨m,hm,e⟩:=zmq ak;obtain⟨r,an,aI⟩:=zmr b m hm;exact⟨r,an,aI.trans e⟩
 ·unfold th e';dsimp only;split
  ·exact cd _
  ·exact Y_ b _ _ _ _
def zmv(F:List gL):∀p∈fb F,p.2.ok:=by
 have key:∀(F:List gL) (m:jJ),(∀p∈m,p.2.ok)->∀p∈F.foldl (fun m x=>og m x.name (th x.bytes)) m,p.2.ok:=by
  intro F;induction F with
  |nil=>exact fun m h=>h
  |cons x r aX=>
   intro m h;refine aX _ (fun p ak=>?_);rcases Rm ak with ak|rfl
   ·exact h p ak
   ·exact Y' _
 exact key F [] (fun p ak=>by cases ak)
def zmw{m:jJ}{l:List Entry}{i:Nat}(h:i<l.length):qi m (l.drop i)=match qh m l[i].file with
  |none=>9
  |some f=>if (tg f l[i].aK l[i].ai).2=false\/(tg f l[i].aK l[i].ai).1.key≠l[i].key\/(tg f l[i].aK l[i].ai).1.time≠l[i].time then 12 else qi m (l.drop (i+1)):=by
 rw[g' h];rfl
def zmx(s:ez)(ap:s.fit):aD prog 19 [.agg s.cs] (.b2 [.one (D6 s),.one (.int .i64 (k_ s).2)]):=by
 obtain⟨E,F,R⟩:=s;have aF:=Y6 R ap;obtain⟨V,el⟩:∃V,V=D6 ⟨E,F,R⟩:=⟨_,rfl⟩
 obtain⟨O,fy⟩:∃O,O=k_ ⟨E,F,R⟩:=⟨_,rfl⟩
 unfold D6 at el;rw[<-fy]at el;rw[<-fy];show aD prog 19 [.agg [.list 9 (E.map Entry.row),.list 2 (F.map gL.row),.list 2 (R.map eS.row)]] (.b2 [.one (D6 ⟨E,F,R⟩),.one (.int .i64 O.2)])
 unfold D6;rw[<-fy,<-el];unfold k_ at fy;dsimp only at fy;refine @aD.of _ (Ct [(6,2),(18,2)] [6,18,24,26,39] [] [(24,[1,1,1,1,1,1,1,0])]) _ _ _ _ _ mixed (fn:=f19) (by kernel_rfl) (by kernel_rfl) rfl (by kernel_rfl) (by simp[f19]) (fun aE=>?_);simp-implicitDefEqProofs;refine aA.of aF ?_;by_cases aa:rA R=0;rotate_left
 ·rw[aC aa]at fy;subst fy;dsimp only at el;rw[au aa]at el;subst el;have dx:(rA R=0)=False:=aV aa;simp-implicitDefEqProofs[dx]
 rw[au (by simp[aa])]at fy;rw[aa];by_cases ab:20<F.length
 ·rw[aC ab]at fy;subst fy;have el:V=.atom (.pointer none):=el;subst el;have oD:((20:Int)<(F.length:Int))=True:=aL (by omega);simp-implicitDefEqProofs[oD]
 rw[au ab]at fy;have oD:((20:Int)<(F.length:Int))=False:=aV (by omega);simp-implicitDefEqProofs[oD];refine dT.EO 34 300 rfl (by decide) rfl (fun ef=>dT.done ?_);simp-implicitDefEqProofs;refine cI.of (Nat×Nat×List Nat) (fun x=>[(1,.box [.list 9 (E.map Entry.row),.list 2 (F.map gL.row),.list 2 (R.map eS.row)]),(5,.ptr 36 0),(36,.box [.list 9 (E.map Entry.row),.list 2 (F.map gL.row),.list 2 (R.map eS.row),.atom (.map (some ef))]),(38,.x (.one (.list 2 (F.map gL.row)))),(39,.x (.one (.int .i64 F.length))),(40,.x (.one (.int .i64 x.1))),(300,.fc ef x.2.1 x.2.2 (jK (fb (F.take x.1))))])
  (fun x=>x.1<=F.length/\k9 none [] F=k9 (rB F x.1) (fb (F.take x.1)) (F.drop x.1)) (fun x=>F.length-x.1) (0,0,[]) ⟨cd _,by simp[rB,fb]⟩ ?_ ?_
 ·simp[jK,fb,j7]
 rintro⟨i,c,bs⟩ ⟨ai,bc⟩;dsimp only at ai bc;by_cases aq:i<F.length;rotate_left
 ·have aO:((i:Int)<(F.length:Int))=False:=aV (by omega);obtain rfl:i=F.length:=by omega
  rw[sQ,Dj]at bc;have bc:k9 none [] F=(fb F,0):=by rw[bc];unfold k9;rfl
  rw[bc]at fy;rw[au (by simp)]at fy;rw[sQ];simp-implicitDefEqProofs[aO];refine dT.FP 36 3 300 false true (oh (fb F)) (oi (fb F)) rfl rfl rfl (Rl _) (by simp[oh,oi]) (.inr (by intro k am;obtain⟨p,_,rfl⟩:=hh.1 am;rfl)) (.inl rfl) (dT.done ?_);simp-implicitDefEqProofs;refine aA.of (WU E) ?_;by_cases ar:lK E=0;rotate_left
  ·rw[aC ar]at fy;subst fy;dsimp only at el;rw[au ar]at el;subst el;have qA:(lK E=0)=False:=aV ar;simp-implicitDefEqProofs[qA]
  rw[au (by simp[ar])]at fy;rw[ar];simp-implicitDefEqProofs;have zmy:=zmv F;generalize fb F=m at*;dsimp only at fy;refine cI.of Nat (fun i=>[(5,.ptr 36 0),(36,.box [.list 9 (E.map Entry.row),.list 2 (F.map gL.row),.list 2 (R.map eS.row),.g8 false true (oh m) (oi m)]),(110,.x (.one (.list 9 (E.map Entry.row)))),(111,.x (.one (.int .i64 E.length))),(112,.x (.one (.int .i64 i)))])
   (fun i=>i<=E.length/\qi m E=qi m (E.drop i)) (fun i=>E.length-i) 0 ⟨cd _,rfl⟩ ?_ ?_
  ·simp
  rintro i ⟨ai,gQ⟩;by_cases aq:i<E.length;rotate_left
  ·have aO:((i:Int)<(E.length:Int))=False:=aV (by omega);obtain rfl:i=E.length:=by omega
   rw[Dj]at gQ;have gQ:qi m E=0:=gQ;rw[gQ]at fy;rw[au (by simp)]at fy;subst fy;have el:V=.ref [.list 9 (E.map Entry.row),.list 2 (F.map gL.row),.list 2 (R.map eS.row),.g8 false true (oh m) (oi m)]:=el;subst el;simp-implicitDefEqProofs[aO];refine dT.freeze [36] (dT.done ?_);simp-implicitDefEqProofs
  rw[zmw aq]at gQ;have aO:((i:Int)<(E.length:Int))=True:=aL (by omega);have bG:i64.wrap ((i:Int)+1)=(i:Int)+1:=bk _ (by have:=WZ ar;omega);have bm:E[i].row=[.str E[i].key,.int .i64 E[i].time,.int .i64 E[i].status,.str E[i].type,.str E[i].hX,.str E[i].file,.int .i64 E[i].aK,.int .i64 E[i].ai,.bool E[i].same]:=rfl;have cE:=wH (ev:=wJ) LD E[i].file m 0;have fE:j7 nr wJ m=gj false true (oh m) (oi m):=Rl m;rw[fE]at cE;have aB:=LB (l:=m) (k:=E[i].file) rfl;have HF:∀(q:Nat) (f:pd),m[q]?=some (E[i].file,f)->(gj false true (oh m) (oi m))[q]?=some (az.one (.str E[i].file),az.agg [.list 7 (f.fa.map Rec.row),.g8 true false (kF f.ids) (kG f.ids)]):=by intro q f h;rw[<-fE];unfold j7;rw[dO,h];rfl
  generalize m.findIdx? (fun p=>decide (E[i].file=p.1))=wK at*;rcases aB with⟨q,f,rfl,oc,yF⟩|⟨rfl,oc⟩
  ·rw[oc]at gQ;dsimp only at gQ;have cE:er .s (.one (.str E[i].file)) (gj false true (oh m) (oi m)) 0=some (some q):=cE;have Ro:=HF q f yF;have dZ:=zmt f (zmy _ (iq yF)) E[i].aK E[i].ai;unfold pd.row Rk at dZ;have jp:∀r:Rec,r.row=[.int .i64 r.kind,.str r.id,.str r.of,.int .i64 r.time,.str r.key,.list 2 (r.bd.map Head.row),dj r.block]:=fun _=>rfl;rw[jp]at dZ;generalize tg f E[i].aK E[i].ai=A at*;obtain⟨r,b⟩:=A;dsimp only at*;simp-implicitDefEqProofs[aq,aO,bm];refine hc.l ⟨by kernel_rfl,?_⟩;simp-implicitDefEqProofs[cE,Ro];refine aA.of dZ ?_;have jG:qi m E=12->O=([],12)/\V=.atom (.pointer none):=by
    intro h;rw[h]at fy;rw[aC (by decide)]at fy;subst fy;exact⟨rfl,el⟩
   cases b
   ·obtain⟨rfl,rfl⟩:=jG (by rw[gQ,aC (.inl rfl)]);simp-implicitDefEqProofs
   by_cases am:r.key=E[i].key;rotate_left
   ·obtain⟨rfl,rfl⟩:=jG (by rw[gQ,aC (.inr (.inl am))]);have eV:(r.key=E[i].key)=False:=aV am;simp-implicitDefEqProofs[eV]
   by_cases ba:r.time=E[i].time;rotate_left
   ·obtain⟨rfl,rfl⟩:=jG (by rw[gQ,aC (.inr (.inr ba))]);have Ec:(r.time=E[i].time)=False:=aV ba;simp-implicitDefEqProofs[am,Ec]
   rw[au (by simp[am,ba])]at gQ;simp-implicitDefEqProofs[am,ba];refine bI.of (i+1) ⟨aq,gQ⟩ (by omega) ?_;simp[bG]
  ·rw[oc]at gQ;have gQ:qi m E=9:=gQ;rw[gQ]at fy;rw[aC (by decide)]at fy;subst fy;have el:V=.atom (.pointer none):=el;subst el;have cE:er .s (.one (.str E[i].file)) (gj false true (oh m) (oi m)) 0=some none:=cE;simp-implicitDefEqProofs[aq,aO,bm];refine hc.l ⟨by kernel_rfl,?_⟩;simp-implicitDefEqProofs[cE]
 rw[zmu aq]at bc;have aO:((i:Int)<(F.length:Int))=True:=aL (by omega);have bG:i64.wrap ((i:Int)+1)=(i:Int)+1:=bk _ (by omega);have bm:F[i].row=[.str F[i].name,dj F[i].bytes]:=rfl;have aP:=isName F[i].name;simp-implicitDefEqProofs[aq,aO,bm];refine aA.of aP ?_;cases aT:ng F[i].name
 ·rw[aC aT]at bc;rw[bc]at fy;rw[aC (by simp)]at fy;subst fy;have el:V=.atom (.pointer none):=el;subst el;simp-implicitDefEqProofs
 rw[au (by rw[aT];decide)]at bc;have step:(A' (rB F i) F[i].name=true->O=([],8)):=by intro al;rw[aC al]at bc;rw[bc]at fy;rw[aC (by simp)]at fy;exact fy
 cases i with
 |zero=>
  have al:¬A' (rB F 0) F[0].name=true:=by simp[rB,A']
  rw[au al]at bc;have ic:i64.wrap (-1)=-1:=by decide
  have kr:F[0]?=some F[0]:=cn aq;simp-implicitDefEqProofs[aq,bm,ic];have a7:=Yj F[0].bytes;have b1:=Yk F[0].bytes;have nM:th F[0].bytes=⟨(e' F[0].bytes).1,eD (e' F[0].bytes).2.1⟩:=rfl;have dA:(e' F[0].bytes).2.2.2=0->(e' F[0].bytes).1.length<=1000/\(e' F[0].bytes).2.1.length=(e' F[0].bytes).1.length:=fun h=>⟨(Lm (Lv h).1).1,(Lv h).2⟩
  generalize e' F[0].bytes=D at*;obtain⟨L,M,at',yG⟩:=D;dsimp only at*;unfold jj at a7;unfold A5 at b1;refine aA.of a7 ?_;by_cases ay:yG=0;rotate_left
  ·rw[aC ay]at bc;rw[bc]at fy;rw[aC ay]at fy;subst fy;dsimp only at el;rw[au ay]at el;subst el;have mi:(yG=0)=False:=aV ay;simp-implicitDefEqProofs[mi]
  rw[au (by simp[ay])]at bc;subst ay;obtain⟨jn,ho⟩:=dA rfl;simp-implicitDefEqProofs;refine aA.of b1 ?_;simp-implicitDefEqProofs;refine dT.EO 80 301 rfl (by decide) rfl (fun dv=>dT.done ?_);simp-implicitDefEqProofs;refine cI.of (Nat×Nat×List Nat) (fun x=>[(1,.box [.list 9 (E.map Entry.row),.list 2 (F.map gL.row),.list 2 (R.map eS.row)]),(5,.ptr 36 0),(7,.box [.str F[0].name,dj F[0].bytes]),(13,.box [.list 7 (L.map Rec.row),.atom (.map (some dv))]),(36,.box [.list 9 (E.map Entry.row),.list 2 (F.map gL.row),.list 2 (R.map eS.row),.atom (.map (some ef))]),(38,.x (.one (.list 2 (F.map gL.row)))),(39,.x (.one (.int .i64 F.length))),(40,.x (.one (.int .i64 (0)))),(82,.x (.one (.list 3 (M.map Mark.row)))),(83,.x (.one (.int .i64 M.length))),(84,.x (.one (.int .i64 x.1))),(300,.fc ef c bs (jK (fb (F.take 0)))),(301,.fc dv x.2.1 x.2.2 (jI (eD (M.take x.1))))])
   (fun x=>x.1<=M.length) (fun x=>M.length-x.1) (0,0,[]) (cd _) ?_ ?_
  ·simp[jI,eD,j7]
  rintro⟨j,c2,wL⟩ ac;dsimp only at ac;by_cases wM:j<M.length
  ·have Ba:((j:Int)<(M.length:Int))=True:=aL (by omega);have im:i64.wrap ((j:Int)+1)=(j:Int)+1:=bk _ (by omega);have Rp:M[j].row=[.str M[j].id,.int .i64 M[j].aK,.int .i64 M[j].ai]:=rfl;have b3:=Y8 wM;have cE:=wH (ev:=nr) LC ((M[j].aK:Int),(M[j].ai:Int)) (eD (M.take j)) 0;have cQ:=LA (ek:=wI) (ev:=nr) (l:=eD (M.take j)) (k:=((M[j].aK:Int),(M[j].ai:Int))) (v:=M[j].id) c2 wL _ rfl;rw[<-b3]at cQ;have cE:er (.st [.i,.i]) (.agg [.int .i64 M[j].aK,.int .i64 M[j].ai]) (jI (eD (M.take j))) 0=_:=cE;generalize (eD (M.take j)).findIdx? (fun p=>decide ((((M[j].aK:Nat):Int),((M[j].ai:Nat):Int))=p.1))=wK at*;simp-implicitDefEqProofs[wM,Ba,Rp];refine JP 301 dv c2 wL (jI (eD (M.take j))) (by decide) rfl ?_;cases wK with
   |none=>have cE:er (.st [.i,.i]) (.agg [.int .i64 M[j].aK,.int .i64 M[j].ai]) (jI (eD (M.take j))) 0=some none:=cE;have cQ:jI (eD (M.take j))++[(.agg [.int .i64 M[j].aK,.int .i64 M[j].ai],.one (.str M[j].id))]=jI (eD (M.take (j+1))):=cQ;simp-implicitDefEqProofs[cE];refine bI.of (j+1,c2+1,wL++[c2]) wM (by dsimp only;omega) ?_;simp[im,cQ]
   |some q=>have cE:er (.st [.i,.i]) (.agg [.int .i64 M[j].aK,.int .i64 M[j].ai]) (jI (eD (M.take j))) 0=some (some q):=cE;have cQ:(jI (eD (M.take j))).set q (.agg [.int .i64 M[j].aK,.int .i64 M[j].ai],.one (.str M[j].id))=jI (eD (M.take (j+1))):=cQ;simp-implicitDefEqProofs[cE];refine bI.of (j+1,c2,wL) wM (by dsimp only;omega) ?_;simp[im,cQ]
  have Ba:((j:Int)<(M.length:Int))=False:=aV (by omega);obtain rfl:j=M.length:=by omega
  rw[sQ];simp-implicitDefEqProofs[Ba];refine dT.FP 13 1 301 true false (kF (eD M)) (kG (eD M)) rfl rfl rfl (LF _) (by simp[kF,kG]) (.inl rfl) (.inr (by intro k am;obtain⟨p,_,rfl⟩:=hh.1 am;rfl)) (dT.done ?_);simp-implicitDefEqProofs;have l4:k9 none [] F=k9 (rB F (0+1)) (fb (F.take (0+1))) (F.drop (0+1)):=by rw[bc,LG aq]
  have b3:fb (F.take (0+1))=og (fb []) F[0].name (th F[0].bytes):=LG aq;rw[nM]at b3;have cE:=wH (ev:=wJ) LD F[0].name (fb []) 0;have cQ:=LA (ek:=nr) (ev:=wJ) (l:=fb []) (k:=F[0].name) (v:=⟨L,eD M⟩) c bs _ rfl;rw[<-b3]at cQ;have cE:er .s (.one (.str F[0].name)) (jK (fb [])) 0=_:=cE;generalize (fb []).findIdx? (fun p=>decide (F[0].name=p.1))=wK at*;refine JP 300 ef c bs (jK (fb [])) (by decide) rfl ?_;cases wK with
  |none=>
   have cE:er .s (.one (.str F[0].name)) (jK (fb [])) 0=some none:=cE;have cQ:jK (fb [])++[(.one (.str F[0].name),.agg [.list 7 (L.map Rec.row),.g8 true false (kF (eD M)) (kG (eD M))])]=jK (fb (F.take (0+1))):=cQ;simp-implicitDefEqProofs[cE];refine bI.of (0+1,c+1,bs++[c]) ⟨aq,l4⟩ (by dsimp only;omega) ?_;simp[cQ]
   try decide
  |some q=>
   have cE:er .s (.one (.str F[0].name)) (jK (fb [])) 0=some (some q):=cE;have cQ:(jK (fb [])).set q (.one (.str F[0].name),.agg [.list 7 (L.map Rec.row),.g8 true false (kF (eD M)) (kG (eD M))])=jK (fb (F.take (0+1))):=cQ;simp-implicitDefEqProofs[cE];refine bI.of (0+1,c,bs) ⟨aq,l4⟩ (by dsimp only;omega) ?_;simp[cQ]
   try decide
 |succ i=>
  have iY:i<F.length:=by omega
  have kD:i64.wrap (i:Int)=(i:Int):=bk _ (by omega);have bG:i64.wrap ((i:Int)+1+1)=(i:Int)+1+1:=bk _ (by omega);have kE:F[i].row=[.str F[i].name,dj F[i].bytes]:=rfl;have ak:rB F (i+1)=some F[i].name:=by show (F[i]?).map gL.name=_;rw[cn iY];rfl
  rw[ak]at bc step;have HG:A' (some F[i].name) F[i+1].name=(eB F[i+1].name F[i].name ||decide (F[i+1].name=F[i].name)):=rfl;cases al:A' (some F[i].name) F[i+1].name;rotate_left
  ·have fy:=step al;subst fy;have el:V=.atom (.pointer none):=el;subst el;rw[al]at HG;simp-implicitDefEqProofs[iY,kD,kE];intro aa ab;simp[aa,ab]at HG
  rw[au (by rw[al];decide)]at bc;rw[al]at HG;have DA:eB F[i+1].name F[i].name=false:=by cases h:eB F[i+1].name F[i].name<;>simp[h]at HG⊢
  have zmz:(F[i+1].name=F[i].name)=False:=aV (by intro h;simp[h]at HG);simp-implicitDefEqProofs[iY,kD,kE,DA,zmz];have a7:=Yj F[i+1].bytes;have b1:=Yk F[i+1].bytes;have nM:th F[i+1].bytes=⟨(e' F[i+1].bytes).1,eD (e' F[i+1].bytes).2.1⟩:=rfl;have dA:(e' F[i+1].bytes).2.2.2=0->(e' F[i+1].bytes).1.length<=1000/\(e' F[i+1].bytes).2.1.length=(e' F[i+1].bytes).1.length:=fun h=>⟨(Lm (Lv h).1).1,(Lv h).2⟩
  generalize e' F[i+1].bytes=D at*;obtain⟨L,M,at',yG⟩:=D;dsimp only at*;unfold jj at a7;unfold A5 at b1;refine aA.of a7 ?_;by_cases ay:yG=0;rotate_left
  ·rw[aC ay]at bc;rw[bc]at fy;rw[aC ay]at fy;subst fy;dsimp only at el;rw[au ay]at el;subst el;have mi:(yG=0)=False:=aV ay;simp-implicitDefEqProofs[mi]
  rw[au (by simp[ay])]at bc;subst ay;obtain⟨jn,ho⟩:=dA rfl;simp-implicitDefEqProofs;refine aA.of b1 ?_;simp-implicitDefEqProofs;refine dT.EO 80 301 rfl (by decide) rfl (fun dv=>dT.done ?_);simp-implicitDefEqProofs;refine cI.of (Nat×Nat×List Nat) (fun x=>[(1,.box [.list 9 (E.map Entry.row),.list 2 (F.map gL.row),.list 2 (R.map eS.row)]),(5,.ptr 36 0),(7,.box [.str F[i+1].name,dj F[i+1].bytes]),(13,.box [.list 7 (L.map Rec.row),.atom (.map (some dv))]),(36,.box [.list 9 (E.map Entry.row),.list 2 (F.map gL.row),.list 2 (R.map eS.row),.atom (.map (some ef))]),(38,.x (.one (.list 2 (F.map gL.row)))),(39,.x (.one (.int .i64 F.length))),(40,.x (.one (.int .i64 ((i:Int)+1)))),(82,.x (.one (.list 3 (M.map Mark.row)))),(83,.x (.one (.int .i64 M.length))),(84,.x (.one (.int .i64 x.1))),(300,.fc ef c bs (jK (fb (F.take (i+1))))),(301,.fc dv x.2.1 x.2.2 (jI (eD (M.take x.1))))])
   (fun x=>x.1<=M.length) (fun x=>M.length-x.1) (0,0,[]) (cd _) ?_ ?_
  ·simp[jI,eD,j7]
  rintro⟨j,c2,wL⟩ ac;dsimp only at ac;by_cases wM:j<M.length
  ·have Ba:((j:Int)<(M.length:Int))=True:=aL (by omega);have im:i64.wrap ((j:Int)+1)=(j:Int)+1:=bk _ (by omega);have Rp:M[j].row=[.str M[j].id,.int .i64 M[j].aK,.int .i64 M[j].ai]:=rfl;have b3:=Y8 wM;have cE:=wH (ev:=nr) LC ((M[j].aK:Int),(M[j].ai:Int)) (eD (M.take j)) 0;have cQ:=LA (ek:=wI) (ev:=nr) (l:=eD (M.take j)) (k:=((M[j].aK:Int),(M[j].ai:Int))) (v:=M[j].id) c2 wL _ rfl;rw[<-b3]at cQ;have cE:er (.st [.i,.i]) (.agg [.int .i64 M[j].aK,.int .i64 M[j].ai]) (jI (eD (M.take j))) 0=_:=cE;generalize (eD (M.take j)).findIdx? (fun p=>decide ((((M[j].aK:Nat):Int),((M[j].ai:Nat):Int))=p.1))=wK at*;simp-implicitDefEqProofs[wM,Ba,Rp];refine JP 301 dv c2 wL (jI (eD (M.take j))) (by decide) rfl ?_;cases wK with
   |none=>have cE:er (.st [.i,.i]) (.agg [.int .i64 M[j].aK,.int .i64 M[j].ai]) (jI (eD (M.take j))) 0=some none:=cE;have cQ:jI (eD (M.take j))++[(.agg [.int .i64 M[j].aK,.int .i64 M[j].ai],.one (.str M[j].id))]=jI (eD (M.take (j+1))):=cQ;simp-implicitDefEqProofs[cE];refine bI.of (j+1,c2+1,wL++[c2]) wM (by dsimp only;omega) ?_;simp[im,cQ]
   |some q=>have cE:er (.st [.i,.i]) (.agg [.int .i64 M[j].aK,.int .i64 M[j].ai]) (jI (eD (M.take j))) 0=some (some q):=cE;have cQ:(jI (eD (M.take j))).set q (.agg [.int .i64 M[j].aK,.int .i64 M[j].ai],.one (.str M[j].id))=jI (eD (M.take (j+1))):=cQ;simp-implicitDefEqProofs[cE];refine bI.of (j+1,c2,wL) wM (by dsimp only;omega) ?_;simp[im,cQ]
  have Ba:((j:Int)<(M.length:Int))=False:=aV (by omega);obtain rfl:j=M.length:=by omega
  rw[sQ];simp-implicitDefEqProofs[Ba];refine dT.FP 13 1 301 true false (kF (eD M)) (kG (eD M)) rfl rfl rfl (LF _) (by simp[kF,kG]) (.inl rfl) (.inr (by intro k am;obtain⟨p,_,rfl⟩:=hh.1 am;rfl)) (dT.done ?_);simp-implicitDefEqProofs;have l4:k9 none [] F=k9 (rB F (i+1+1)) (fb (F.take (i+1+1))) (F.drop (i+1+1)):=by rw[bc,LG aq]
  have b3:fb (F.take (i+1+1))=og (fb (F.take (i+1))) F[i+1].name (th F[i+1].bytes):=LG aq;rw[nM]at b3;have cE:=wH (ev:=wJ) LD F[i+1].name (fb (F.take (i+1))) 0;have cQ:=LA (ek:=nr) (ev:=wJ) (l:=fb (F.take (i+1))) (k:=F[i+1].name) (v:=⟨L,eD M⟩) c bs _ rfl;rw[<-b3]at cQ;have cE:er .s (.one (.str F[i+1].name)) (jK (fb (F.take (i+1)))) 0=_:=cE;generalize (fb (F.take (i+1))).findIdx? (fun p=>decide (F[i+1].name=p.1))=wK at*;refine JP 300 ef c bs (jK (fb (F.take (i+1)))) (by decide) rfl ?_;cases wK with
  |none=>
   have cE:er .s (.one (.str F[i+1].name)) (jK (fb (F.take (i+1)))) 0=some none:=cE;have cQ:jK (fb (F.take (i+1)))++[(.one (.str F[i+1].name),.agg [.list 7 (L.map Rec.row),.g8 true false (kF (eD M)) (kG (eD M))])]=jK (fb (F.take (i+1+1))):=cQ;simp-implicitDefEqProofs[cE];refine bI.of (i+1+1,c+1,bs++[c]) ⟨aq,l4⟩ (by dsimp only;omega) ?_;simp[bG,cQ]
   try decide
  |some q=>
   have cE:er .s (.one (.str F[i+1].name)) (jK (fb (F.take (i+1)))) 0=some (some q):=cE;have cQ:(jK (fb (F.take (i+1)))).set q (.one (.str F[i+1].name),.agg [.list 7 (L.map Rec.row),.g8 true false (kF (eD M)) (kG (eD M))])=jK (fb (F.take (i+1+1))):=cQ;simp-implicitDefEqProofs[cE];refine bI.of (i+1+1,c,bs) ⟨aq,l4⟩ (by dsimp only;omega) ?_;simp[bG,cQ]
   try decide
end Go.Proofs.YtaalfcghmjkaeaaGreatDoor
namespace Go.Proofs.YtaalfcghmjkaeaaGreatDoor
open Go Go.Ab Go.Proofs.Tryz Go.IntKind
variable [bf]
set_option maxRecDepth 100000
set_option maxHeartbeats 4000000
def AE(l:List Entry)(k:List UInt8):Int:=if lK l≠0 then lK l else if k2 k=false then 3 else 0
def zid(l:List Entry)(k:List UInt8):aD prog 102 [entries l,.one (.str k)] (.x (.one (.int .i64 (AE l k)))):=by
 refine aD.a6 f102 mixed fun aE=>?_;generalize bc:AE l k=F;unfold AE at bc;simp-implicitDefEqProofs +contextual[-Bool.and_eq_false_imp];refine aA.of (WU l) ?_;simp-implicitDefEqProofs +contextual[-Bool.and_eq_false_imp];refine⟨fun h=>?_,fun h=>aA.of (isKey _) ?_⟩
 ·rw[aC h]at bc;exact bc.symm
 rw[au (by simp[h])]at bc;simp-implicitDefEqProofs +contextual[-Bool.and_eq_false_imp];refine⟨fun h=>?_,fun h=>?_⟩
 ·rw[aC h]at bc;exact bc.symm
 ·rw[au (by simp[h])]at bc;exact bc.symm
def P_{l:List Entry}{k:List UInt8}(h:AE l k=0):lK l=0/\k2 k=true:=by
 unfold AE at h;split at h
 ·rename_i aa;exact absurd h aa
 ·rename_i aa;split at h
  ·cases h
  ·rename_i ab;exact⟨by omega,by simpa using ab⟩
def zie(l:List Entry)(k:List UInt8):(p4 l k).length<=l.length:=KW _ _
def W7{α:Type}{P:List α->Prop}(aW:P [])(aa:∀p e,P p->P (p++[e]))(l:List α):P l:=by
 have:∀n,P (l.take n):=by
  intro n;induction n with
  |zero=>simpa using aW
  |succ n aX=>
   by_cases aT:n<l.length
   ·rw[C5,cn aT];exact aa _ _ aX
   ·rw[iv (by omega)];rw[iv (by omega)]at aX;exact aX
 have:=this l.length;rwa[sQ]at this
def s3(p:List Entry)(t:Int):Option Entry:=p.foldl (fun o x=>if x.time<=t then some x else o) none
def p5(t:Int)(o:Option Entry)(x:Entry):Option Entry:=match o with
 |none=>if t<=x.time then some x else none
 |some a=>if t<=x.time/\x.time=a.time then some x else some a
def s4(p:List Entry)(t:Int):Option Entry:=p.foldl (p5 t) none
def s5(t way:Int)(b a:Option Entry):Option Entry:=
 if way=3 then a else if way=2 then b else match b,a with
 |none,a=>a
 |some b,none=>some b
 |some b,some a=>if a.time-t<t-b.time then some a else some b
def DE(l:List Entry)(t way:Int):Option Entry:=s5 t way (s3 l t) (s4 l t)
def W8(p:List Entry)(e:Entry)(t:Int):s3 (p++[e]) t=if e.time<=t then some e else s3 p t:=by simp[s3]
def W9(p:List Entry)(e:Entry)(t:Int):s4 (p++[e]) t=p5 t (s4 p t) e:=by simp[s4]
def zif{t:Int}:∀(p:List Entry) {x:Entry},s3 p t=some x->x∈p/\x.time<=t:=by
 intro p;refine W7 (P:=fun p=>∀{x:Entry},s3 p t=some x->x∈p/\x.time<=t) ?_ ?_ p
 ·intro x h;cases h
 ·intro p e aX x h;rw[W8]at h;split at h
  ·injection h with h;subst h;exact⟨by simp,by assumption⟩
  ·obtain⟨aa,ab⟩:=aX h;exact⟨by simp[aa],ab⟩
def zig{t:Int}:∀(p:List Entry) {x:Entry},s4 p t=some x->x∈p/\t<=x.time:=by
 intro p;refine W7 (P:=fun p=>∀{x:Entry},s4 p t=some x->x∈p/\t<=x.time) ?_ ?_ p
 ·intro x h;cases h
 ·intro p e aX x h;rw[W9]at h;unfold p5 at h;split at h
  ·split at h
   ·injection h with h;subst h;exact⟨by simp,by assumption⟩
   ·cases h
  ·rename_i a bj;split at h
   ·rename_i ao;injection h with h;subst h;exact⟨by simp,ao.1⟩
   ·injection h with h;subst h
    obtain⟨aa,ab⟩:=aX bj;exact⟨by simp[aa],ab⟩
def AF(a b:Int):Int:=max (a-b) (b-a)
def gK:Entry:=⟨[],0,0,[],[],[],0,0,false⟩
def ni:[af.str [],af.int i64 0,af.int i64 0,af.str [],af.str [],af.str [],af.int i64 0,af.int i64 0,af.bool false]=gK.row:=rfl
def Xi(l:List Entry):Prop:=∀x∈l,0<=x.time/\x.time<=253402300799
def ziW{e:Entry}(h:sX e=0):0<=e.time/\e.time<=253402300799:=by
 unfold sX at h;split at h
 ·cases h
 ·split at h
  ·cases h
  ·rename_i aa ab;have:hV e.time=true:=by
    cases ae:hV e.time with
    |true=>rfl
    |false=>exact absurd (.inl ae) ab
   simpa[hV,gV]using this
def Xj{l:List Entry}(k:List UInt8)(h:lK l=0):Xi (p4 l k)/\(p4 l k).Pairwise (fun a b=>a.time<=b.time):=by
 obtain⟨aa,ab⟩:=W2 h;refine⟨fun x aj=>ziW (ab x ((G6.1 aj).1)),?_⟩;have ak:(p4 l k).Pairwise p3:=aa.filter _;refine List.Pairwise.imp_of_mem ?_ ak;intro a b bj ae Ag;have gt:a.key=k:=by simpa using (G6.1 bj).2
 have ri:b.key=k:=by simpa using (G6.1 ae).2
 rcases Ag with h|⟨_,h|⟨h,_⟩⟩
 ·rw[gt,ri,DC]at h;cases h
 ·omega
 ·omega
def KY:Option Nat->Int
 |none=>-1
 |some j=>j
@[simp]def zIS:KY none=-1:=rfl
@[simp]def zIT(j:Nat):KY (some j)=j:=rfl
def jh(l:List Entry)(o:Option Nat):Option Entry:=o.bind fun j=>l[j]?
def AH(l:List Entry)(o:Option Nat):Prop:=∀j,o=some j->j<l.length
@[simp]def zIU(e:Entry):oY e.row=false:=rfl
def ziX(l:List Entry)(t way:Int)(ae:l.length<=3000)(ba:Xi l)(aW:0<=t/\t<=253402300799)(hw:way=1\/way=2\/way=3) :
  aD prog 104 [entries l,.one (.int .i64 t),.one (.int .i64 way)] (.b2 [.agg ((DE l t way).getD gK).row,.one (.bool (DE l t way).isSome)]):=by
 refine aD.a6 f104 mixed fun aE=>?_;simp-implicitDefEqProofs +contextual[-Bool.and_eq_false_imp];refine cI.of (Nat×Option Nat×Option Nat) (fun x=>[(0,.x (entries l)),(1,.x (.one (.int .i64 t))),(2,.x (.one (.int .i64 way))),(6,.box gK.row),(8,.x (.one (.int .i64 (KY x.2.1)))),(9,.x (.one (.int .i64 (KY x.2.2)))),(13,.x (entries l)),(14,.x (.one (.int .i64 l.length))),(15,.x (.one (.int .i64 x.1)))])
  (fun x=>x.1<=l.length/\AH l x.2.1/\AH l x.2.2/\jh l x.2.1=s3 (l.take x.1) t/\jh l x.2.2=s4 (l.take x.1) t) (fun x=>l.length-x.1) (0,none,none) ⟨cd _,(by intro j h;cases h),(by intro j h;cases h),rfl,rfl⟩ ?_ ?_
 ·simp[ni]
 rintro⟨i,b,a⟩ ⟨ai,G7,uD,ri,gt⟩;simp only at ai G7 uD ri gt;by_cases aq:i<l.length
 ·have m6:l.take (i+1)=l.take i++[l[i]]:=by rw[C5,cn aq];rfl
  have yn:s3 (l.take (i+1)) t=if l[i].time<=t then some l[i]else s3 (l.take i) t:=by rw[m6,W8]
  have yo:s4 (l.take (i+1)) t=p5 t (s4 (l.take i) t) l[i]:=by rw[m6,W9]
  have bO:jh l (some i)=some l[i]:=by simp[jh,aq]
  have li:AH l (some i):=by intro j h;injection h with h;omega
  have fin:∀(bg aZ:Option Nat),AH l bg->AH l aZ->jh l bg=s3 (l.take (i+1)) t->jh l aZ=s4 (l.take (i+1)) t->(i+1<=l.length/\AH l bg/\AH l aZ/\jh l bg=s3 (l.take (i+1)) t/\jh l aZ=s4 (l.take (i+1)) t):=fun bg aZ aa ab ar aN=>⟨aq,aa,ab,ar,aN⟩
  have aY:0<l.length:=by omega
  have bG:i64.wrap ((i:Int)+1)=(i:Int)+1:=bk _ (by omega);by_cases bA:l[i].time<=t<;>by_cases c2:t<=l[i].time
  ·-- both
   cases a with
   |none=>
    simp-implicitDefEqProofs +contextual[-Bool.and_eq_false_imp,aq,aY,bA,c2];refine bI.of (i+1,some i,some i) (fin _ _ li li ?_ ?_) (by simp only;omega) ?_
    ·rw[yn,aC bA,bO]
    ·rw[yo,<-gt];simp[p5,jh,c2,aq]
    ·simp[bG]
   |some j=>
    have ac:=uD j rfl;have G8:jh l (some j)=some l[j]:=by simp[jh,ac]
    by_cases c3:l[i].time=l[j].time
    ·have AI:(l[i].time==l[j].time)=true:=by simp[c3]
     simp-implicitDefEqProofs +contextual[-Bool.and_eq_false_imp,aq,bA,c2,ac,AI];refine bI.of (i+1,some i,some i) (fin _ _ li li ?_ ?_) (by simp only;omega) ?_
     ·rw[yn,aC bA,bO]
     ·rw[yo,<-gt,G8,bO];simp only[p5];rw[aC ⟨c2,c3⟩]
     ·simp[bG]
    ·have AI:(l[i].time==l[j].time)=false:=by simp[c3]
     have e5:((j:Int)<0)=False:=by simp
     simp-implicitDefEqProofs +contextual[-Bool.and_eq_false_imp,aq,bA,c2,ac,AI,e5];refine bI.of (i+1,some i,some j) (fin _ _ li uD ?_ ?_) (by simp only;omega) ?_
     ·rw[yn,aC bA,bO]
     ·rw[yo,<-gt,G8];simp only[p5];rw[au (fun h=>c3 h.2)]
     ·simp[bG]
  ·-- ahead of RI time
   have ay:∀o,p5 t o l[i]=o:=by
    intro o;cases o with
    |none=>simp only[p5];rw[au c2]
    |some z=>simp only[p5];rw[au (fun h=>c2 h.1)]
   cases a with
   |none=>
    simp-implicitDefEqProofs +contextual[-Bool.and_eq_false_imp,aq,aY,bA,c2];refine bI.of (i+1,some i,none) (fin _ _ li uD ?_ ?_) (by simp only;omega) ?_
    ·rw[yn,aC bA,bO]
    ·rw[yo,<-gt,ay]
    ·simp[bG]
   |some j=>
    have ac:=uD j rfl;simp-implicitDefEqProofs +contextual[-Bool.and_eq_false_imp,aq,bA,c2,ac];refine bI.of (i+1,some i,some j) (fin _ _ li uD ?_ ?_) (by simp only;omega) ?_
    ·rw[yn,aC bA,bO]
    ·rw[yo,<-gt,ay]
    ·simp[bG]
  ·-- behind it
   cases a with
   |none=>
    simp-implicitDefEqProofs +contextual[-Bool.and_eq_false_imp,aq,aY,bA,c2];refine bI.of (i+1,b,some i) (fin _ _ G7 li ?_ ?_) (by simp only;omega) ?_
    ·rw[yn,au bA,ri]
    ·rw[yo,<-gt,bO];simp[p5,jh,c2]
    ·simp[bG]
   |some j=>
    have ac:=uD j rfl;have G8:jh l (some j)=some l[j]:=by simp[jh,ac]
    by_cases c3:l[i].time=l[j].time
    ·have AI:(l[i].time==l[j].time)=true:=by simp[c3]
     simp-implicitDefEqProofs +contextual[-Bool.and_eq_false_imp,aq,bA,c2,ac,AI];refine bI.of (i+1,b,some i) (fin _ _ G7 li ?_ ?_) (by simp only;omega) ?_
     ·rw[yn,au bA,ri]
     ·rw[yo,<-gt,G8,bO];simp only[p5];rw[aC ⟨c2,c3⟩]
     ·simp[bG]
    ·have AI:(l[i].time==l[j].time)=false:=by simp[c3]
     have e5:((j:Int)<0)=False:=by simp
     simp-implicitDefEqProofs +contextual[-Bool.and_eq_false_imp,aq,bA,c2,ac,AI,e5];refine bI.of (i+1,b,some j) (fin _ _ G7 uD ?_ ?_) (by simp only;omega) ?_
     ·rw[yn,au bA,ri]
     ·rw[yo,<-gt,G8];simp only[p5];rw[au (fun h=>c3 h.2)]
     ·simp[bG]
  ·exact absurd (by omega) bA
 ·rw[show l.take i=l from iv (by omega)]at ri gt;have AJ:DE l t way=s5 t way (jh l b) (jh l a):=by rw[ri,gt];rfl
  rw[AJ];have fH:∀(j:Nat) (h:j<l.length),0<=l[j].time/\l[j].time<=253402300799:=fun j h=>ba _ (jN h);have ziY:∀(j:Nat) (h:j<l.length),i64.wrap (l[j].time-t)=l[j].time-t:=fun j h=>bk _ (by have:=fH j h;omega);have ziZ:∀(j:Nat) (h:j<l.length),i64.wrap (t-l[j].time)=t-l[j].time:=fun j h=>bk _ (by have:=fH j h;omega);have DG:∀j:Nat,((j:Int)<0)=False:=fun j=>by simp
  have ke:∀j:Nat,(0<=(j:Int))=True:=fun j=>by simp
  cases b with
  |none=>cases a with
   |none=>
    have aY:l[0]?=none\/∃z,l[0]?=some z:=by
     cases h:l[0]? with
     |none=>exact .inl rfl
     |some z=>exact .inr ⟨z,rfl⟩
    rcases aY with aY|⟨z,aY⟩<;>rcases hw with rfl|rfl|rfl<;>simp-implicitDefEqProofs +contextual[-Bool.and_eq_false_imp,aq,aY,s5,jh,ni]
   |some j=>
    have ac:=uD j rfl;have aY:0<l.length:=by omega
    rcases hw with rfl|rfl|rfl<;>simp-implicitDefEqProofs +contextual[-Bool.and_eq_false_imp,aq,aY,s5,jh,ni,ac,DG,ke]
  |some m=>
   have hm:=G7 m rfl;cases a with
   |none=>
    have aY:0<l.length:=by omega
    rcases hw with rfl|rfl|rfl<;>simp-implicitDefEqProofs +contextual[-Bool.and_eq_false_imp,aq,aY,s5,jh,ni,hm,DG,ke]
   |some j=>
    have ac:=uD j rfl;have cH:=ziY j ac;have dW:=ziZ m hm;rcases hw with rfl|rfl|rfl
    ·by_cases br:l[j].time-t<t-l[m].time
     ·have Qc:decide (l[j].time-t<t-l[m].time)=true:=by simp[br]
      simp-implicitDefEqProofs[aq,s5,jh,ni,hm,ac,cH,dW,Qc,DG,ke];rw[aC br];simp
     ·have Qc:decide (l[j].time-t<t-l[m].time)=false:=by simp[br]
      simp-implicitDefEqProofs[aq,s5,jh,ni,hm,ac,cH,dW,Qc,DG,ke];rw[au br];simp
    ·simp-implicitDefEqProofs +contextual[-Bool.and_eq_false_imp,aq,s5,jh,ni,hm,ac,cH,dW,DG,ke]
    ·simp-implicitDefEqProofs +contextual[-Bool.and_eq_false_imp,aq,s5,jh,ni,ac,DG,ke]
end Go.Proofs.YtaalfcghmjkaeaaGreatDoor
namespace Go.Proofs.YtaalfcghmjkaeaaGreatDoor
open Go Go.Ab Go.Proofs.Tryz Go.IntKind
section
variable [bf]
set_option maxRecDepth 100000
set_option maxHeartbeats 8000000
@[simp]def zJE(e:Entry):e.row.all af.flat=true:=rfl
def Bb(l:List Entry)(k:List UInt8)(t way:Int):Int:=
 if AE l k≠0 then AE l k else if gV 1 3 way=false then 4 else if hV t=false then 1 else 0
def qj(l:List Entry)(k:List UInt8)(t way:Int):Option Entry:=if Bb l k t way=0 then DE (p4 l k) t way else none
def zmA(l:List Entry)(k:List UInt8)(t way:Int):aD prog 58 [entries l,.one (.str k),.one (.int .i64 t),.one (.int .i64 way)]
  (.b2 [.agg ((qj l k t way).getD gK).row,.one (.bool (qj l k t way).isSome),.one (.int .i64 (Bb l k t way))]):=by
 refine aD.a6 f58 mixed fun aE=>?_;have cL:qj l k t way=if Bb l k t way=0 then DE (p4 l k) t way else none:=rfl
 generalize bc:Bb l k t way=F at cL;unfold Bb at bc;simp-implicitDefEqProofs +contextual[-Bool.and_eq_false_imp];refine aA.of (zid l k) ?_;simp-implicitDefEqProofs +contextual[-Bool.and_eq_false_imp];refine⟨fun h=>?_,fun h=>aA.of (Gm _ _ _) ?_⟩
 ·rw[aC h]at bc;subst bc;rw[cL,au h];exact⟨by simp[ni],rfl,rfl⟩
 rw[au (by simp[h])]at bc;obtain⟨aa,ab⟩:=P_ h;have ap:=WZ aa;obtain⟨ba,_⟩:=Xj k aa;have hle:=zie l k;simp-implicitDefEqProofs +contextual[-Bool.and_eq_false_imp];refine⟨fun ar=>?_,fun ar=>aA.of (C6 _) ?_⟩
 ·rw[aC ar]at bc;subst bc;rw[cL];exact⟨by simp[ni],rfl,rfl⟩
 rw[au (by simp[ar])]at bc;simp-implicitDefEqProofs +contextual[-Bool.and_eq_false_imp];refine⟨fun aN=>?_,fun aN=>aA.of (zic l k (W2 aa).1 ap) ?_⟩
 ·rw[aC aN]at bc;subst bc;rw[cL];exact⟨by simp[ni],rfl,rfl⟩
 rw[au (by simp[aN])]at bc;subst bc;rw[cL,aC rfl];simp only[gV,hV,b4,hF]at ar aN;simp-implicitDefEqProofs +contextual[-Bool.and_eq_false_imp];refine aA.of (ziX _ t way (by omega) ba aN (by omega)) ?_;simp-implicitDefEqProofs +contextual[-Bool.and_eq_false_imp]
end
end Go.Proofs.YtaalfcghmjkaeaaGreatDoor
namespace Go.Proofs.YtaalfcghmjkaeaaGreatDoor
open Go Go.Ab Go.Proofs.Tryz Go.IntKind
variable [bf]
set_option maxRecDepth 100000
set_option maxHeartbeats 4000000
def zoe:aD prog 28 [.one .nil] (.x (.one (.int .i64 0))):=by
 refine aD.a6 f28 mixed fun aE=>?_;simp-implicitDefEqProofs +contextual[-Bool.and_eq_false_imp];refine cI.of Unit (fun _=>[(8,.x (.one .nil)),(9,.x (.one (.int .i64 0))),(10,.x (.one (.int .i64 0)))]) (fun _=>True) (fun _=>0) () trivial ?_ ?_
 ·simp
 intro _ _;simp-implicitDefEqProofs +contextual[-Bool.and_eq_false_imp]
abbrev ZE:az:=.agg [.bool false,.nil,.str [],.int .i64 0,.int .i64 0,.str [],.str [],.str [],.int .i64 0,.int .i64 0,.bool false,.nil,.nil,.int .i64 0]
def zof:aD prog 14 [ZE] (.b2 [.agg [.int .i64 1,.int .i64 1],.one (.int .i64 0)]):=by
 refine aD.a6 f14 mixed fun aE=>?_;simp-implicitDefEqProofs +contextual[-Bool.and_eq_false_imp];refine aA.of zoe ?_;simp-implicitDefEqProofs +contextual[-Bool.and_eq_false_imp];refine cI.of Unit (fun _=>[(1,.box ZE.cells),(2,.box [.int .i64 0,.int .i64 0]),(5,.x (.one (.int .i64 0))),(18,.x (.one .nil)),(19,.x (.one (.int .i64 0))),(20,.x (.one (.int .i64 0)))]) (fun _=>True) (fun _=>0) () trivial ?_ ?_
 ·simp
 intro _ _;simp-implicitDefEqProofs +contextual[-Bool.and_eq_false_imp]
def Rz:aD prog 6 [] (.x (.one (.bool true))):=by refine aD.a6 f6 mixed fun aE=>?_;simp-implicitDefEqProofs +contextual[-Bool.and_eq_false_imp];refine aA.of zof ?_;simp-implicitDefEqProofs +contextual[-Bool.and_eq_false_imp]
end Go.Proofs.YtaalfcghmjkaeaaGreatDoor
namespace Go.Proofs.YtaalfcghmjkaeaaGreatDoor
open Go Go.Ab Go.Proofs.Tryz Go.IntKind
variable [bf][ee 0][cK prog]
set_option maxRecDepth 100000
set_option maxHeartbeats 8000000
structure LH(s:ez)(m:jJ):Prop where
 right:lK s.entries=0
 there:qi m s.entries=0
 ok:∀p∈m,p.2.ok
def Za{m:jJ}:∀{l:List Entry} {e:Entry},qi m l=0->e∈l->∃f w,qh m e.file=some f/\qh f.ids (e.aK,e.ai)=some w
 |x::r,e,h,he=>by
  unfold qi at h;cases aB:qh m x.file with
  |none=>rw[aB]at h;cases h
  |some f=>
   rw[aB]at h;dsimp only at h;split at h
   ·cases h
   ·rename_i aT;rcases eT.1 he with rfl|he
    ·refine⟨f,?_⟩;cases hw:qh f.ids (e.aK,e.ai)with
     |some w=>exact⟨w,aB,rfl⟩
     |none=>exact absurd (.inl (by unfold tg;rw[hw])) aT
    ·exact Za h he
def zmB{s:ez}(h:(k_ s).2=0):LH s (k_ s).1:=by
 unfold k_ at*;split at h
 ·rename_i aa;exact absurd h aa
 rename_i aa;rw[au aa];split at h
 ·cases h
 rename_i ab;rw[au ab];split at h
 ·rename_i ar;exact absurd h ar
 rename_i ar;rw[au ar];split at h
 ·rename_i aN;exact absurd h aN
 rename_i aN;rw[au aN];split at h
 ·rename_i bD;exact absurd h bD
 rename_i bD;rw[au bD];refine⟨te aN,te bD,?_⟩;have key:∀(F:List gL) (p:Option (List UInt8)) (m:jJ),(∀p∈m,p.2.ok)->∀q∈(k9 p m F).1,q.2.ok:=by
  intro F;induction F with
  |nil=>intro p m h;unfold k9;exact h
  |cons x r aX=>
   intro p m h;unfold k9;split
   ·exact h
   split
   ·exact h
   split
   ·exact h
   ·refine aX _ _ (fun q br=>?_);rcases Rm br with br|rfl
    ·exact h q br
    ·exact Y' _
 exact key s.files none [] (fun p ak=>by cases ak)
def Rq(f:pd)(w:List UInt8):kC×Int:=
 if (ru f.fa w).2≠0 then (oe,(ru f.fa w).2)
 else ((ry (ru f.fa w).1).1,if 0<(ry (ru f.fa w).1).2.2.1/\((ry (ru f.fa w).1).2.2.2=15\/(ry (ru f.fa w).1).2.2.2=3)then 0 else (ry (ru f.fa w).1).2.2.2)
def HH(m:jJ)(e:Entry):kC×Int:=match qh m e.file with
 |some f=>match qh f.ids (e.aK,e.ai)with
  |some w=>Rq f w
  |none=>(oe,0)
 |none=>(oe,0)
def zmC(s:ez)(m:jJ)(aw:LH s m)(e:Entry)(he:e∈s.entries):aD prog 22 [.one (s.open_ m),.agg e.row] (.b2 [.agg (HH m e).1.row,.one (.int .i64 (HH m e).2)]):=by
 obtain⟨f,w,ko,oT⟩:=Za aw.there he;have cE:=wH (ev:=wJ) LD e.file m 0;have fE:j7 nr wJ m=gj false true (oh m) (oi m):=Rl m;rw[fE]at cE;have aB:=LB (l:=m) (k:=e.file) rfl;have HF:∀(q:Nat) (f:pd),m[q]?=some (e.file,f)->(gj false true (oh m) (oi m))[q]?=some (az.one (.str e.file),az.agg [.list 7 (f.fa.map Rec.row),.g8 true false (kF f.ids) (kG f.ids)]):=by intro q f h;rw[<-fE];unfold j7;rw[dO,h];rfl
 generalize m.findIdx? (fun p=>decide (e.file=p.1))=wK at*;rcases aB with⟨q,tG,rfl,oc,yF⟩|⟨rfl,oc⟩
 rotate_left
 ·rw[oc]at ko;cases ko
 rw[oc]at ko;cases ko;have cE:er .s (.one (.str e.file)) (gj false true (oh m) (oi m)) 0=some (some q):=cE;have Ro:=HF q f yF;have aE:=aw.ok _ (iq yF);have HI:=wH (ev:=nr) LC (e.aK,e.ai) f.ids 0;have Zb:j7 wI nr f.ids=gj true false (kF f.ids) (kG f.ids):=LF f.ids;rw[Zb]at HI;unfold wI at HI;have eJ:=LB (α:=Int×Int) (β:=List UInt8) (l:=f.ids) (k:=(e.aK,e.ai)) rfl;have zmD:∀(i:Nat) (w:List UInt8),f.ids[i]?=some ((e.aK,e.ai),w)->(gj true false (kF f.ids) (kG f.ids))[i]?=some (az.agg [.int .i64 e.aK,.int .i64 e.ai],az.one (.str w)):=by intro i w h;rw[<-Zb];unfold j7;rw[dO,h];rfl
 generalize f.ids.findIdx? (fun p=>decide ((e.aK,e.ai)=p.1))=zJF at*;rcases eJ with⟨i,w',rfl,LE,zmE⟩|⟨rfl,LE⟩
 rotate_left
 ·rw[LE]at oT;cases oT
 rw[LE]at oT;cases oT;have HI:er (.st [.i,.i]) (.agg [.int .i64 e.aK,.int .i64 e.ai]) (gj true false (kF f.ids) (kG f.ids)) 0=some (some i):=HI;have Rn:=zmD i w zmE;have aF:=zlp f.fa w (iJ aE.2 (by decide));have E4:HH m e=Rq f w:=by unfold HH;rw[oc];dsimp only;rw[LE]
 rw[E4];unfold Rq;unfold jj at aF;generalize ru f.fa w=S at*;obtain⟨ha,yG⟩:=S;dsimp only at*;have aP:=zlG ha;generalize ry ha=A at*;obtain⟨rt,zJG,at',LI⟩:=A;dsimp only at*;have bm:rt.row=[.int .i64 rt.st,.str rt.iV,.list 2 (rt.ap.map Head.row),dj rt.my]:=rfl;rw[bm]at aP;have m9:e.row=[.str e.key,.int .i64 e.time,.int .i64 e.status,.str e.type,.str e.hX,.str e.file,.int .i64 e.aK,.int .i64 e.ai,.bool e.same]:=rfl;rw[m9];unfold ez.open_ ez.cs D5;rw[gO,gO,gO,nt];refine aD.a6 f22 mixed fun aE=>?_;simp-implicitDefEqProofs;refine hc.l ⟨by kernel_rfl,?_⟩;simp-implicitDefEqProofs[cE,Ro,HI,Rn];refine aA.of aF ?_;by_cases ay:yG=0;rotate_left
 ·have mi:(yG=0)=False:=aV ay;rw[aC ay];simp-implicitDefEqProofs[mi,oe,kC.row]
  skip;done
 rw[au (by simp[ay])];subst ay;simp-implicitDefEqProofs;refine aA.of aP ?_;by_cases aW:0<at'
 ·have lQ:(0<at')=True:=aL aW;have HD:(at'=0)=False:=aV (by omega);by_cases Zc:LI=15
  ·subst Zc;rw[aC ⟨aW,.inl rfl⟩];simp-implicitDefEqProofs[lQ,bm]
  ·have zmF:(LI=15)=False:=aV Zc;by_cases ar:LI=3
   ·subst ar;rw[aC ⟨aW,.inr rfl⟩];simp-implicitDefEqProofs[lQ,bm]
   ·have qA:(LI=3)=False:=aV ar;rw[au (by omega)];simp-implicitDefEqProofs[lQ,zmF,qA,bm]
 ·obtain rfl:at'=0:=by omega
  rw[au (by omega)];simp-implicitDefEqProofs[bm]
def zmG(e:Entry)(t:Int)(aa:0<=e.time/\e.time<=253402300799)(ab:0<=t/\t<=253402300799):aD prog 33 [.agg e.row,.one (.int .i64 t)] (.x (.one (.int .i64 (AF e.time t)))):=by have cH:i64.wrap (e.time-t)=e.time-t:=bk _ (by omega);have dW:i64.wrap (t-e.time)=t-e.time:=bk _ (by omega);have m9:e.row=[.str e.key,.int .i64 e.time,.int .i64 e.status,.str e.type,.str e.hX,.str e.file,.int .i64 e.aK,.int .i64 e.ai,.bool e.same]:=rfl;rw[m9];unfold AF;refine aD.a6 f33 mixed fun aE=>?_;simp-implicitDefEqProofs[cH,dW]
def LJ(d:Int):Bool:=decide (0<=d)&&decide (d<=1000000000000)
def zmH(d:Int):aD prog 21 [.one (.int .i64 d)] (.x (.one (.bool (LJ d)))):=by unfold LJ;refine aD.a6 f21 mixed fun aE=>?_;simp-implicitDefEqProofs
def zmI(s:ez)(m:jJ)(k:List UInt8)(t way:Int):aD prog 32 [.one (s.open_ m),.one (.str k),.one (.int .i64 t),.one (.int .i64 way)] (.b2 [.agg ((qj s.entries k t way).getD gK).row,.one (.bool (qj s.entries k t way).isSome)]):=by have aF:=zmA s.entries k t way;unfold entries at aF;generalize qj s.entries k t way=o at*;have bm:∀e:Entry,e.row=[.str e.key,.int .i64 e.time,.int .i64 e.status,.str e.type,.str e.hX,.str e.file,.int .i64 e.aK,.int .i64 e.ai,.bool e.same]:=fun _=>rfl;rw[bm]at*;unfold ez.open_ ez.cs D5 at*;rw[gO,gO,gO,nt]at*;refine aD.a6 f32 mixed fun aE=>?_;simp-implicitDefEqProofs;refine aA.of aF ?_;simp-implicitDefEqProofs
def zmJ{t way:Int}{b a:Option Entry}{e:Entry}(h:s5 t way b a=some e):b=some e\/a=some e:=by
 unfold s5 at h;split at h
 ·exact .inr h
 split at h
 ·exact .inl h
 cases b with
 |none=>cases a with
  |none=>cases h
  |some a=>exact .inr h
 |some b=>cases a with
  |none=>exact .inl h
  |some a=>
   dsimp only at h;split at h
   ·exact .inr h
   ·exact .inl h
def Zd{l:List Entry}{k:List UInt8}{t way:Int}{e:Entry}(h:qj l k t way=some e):e∈l/\(0<=t/\t<=253402300799)/\(0<=e.time/\e.time<=253402300799)/\lK l=0:=by
 unfold qj at h;split at h;rotate_left
 ·cases h
 rename_i aW;unfold Bb at aW;split at aW
 ·rename_i aa;exact absurd aW aa
 rename_i aa;split at aW
 ·cases aW
 split at aW
 ·cases aW
 rename_i ar;have hm:hV t=true:=by simpa using ar
 obtain⟨fE,_⟩:=P_ (te aa);have hw:e∈p4 l k:=by
  unfold DE at h;rcases zmJ h with h|h
  ·exact(zif (p4 l k) h).1
  ·exact(zig (p4 l k) h).1
 refine⟨(G6.1 hw).1,?_,(Xj k fE).1 e hw,fE⟩;unfold hV gV at hm;rw[b4,D3,D3]at hm;exact hm
def uV(l:List Entry)(k:List UInt8)(t d:Int):Option Entry:=match qj l k t 1 with
 |some e=>if d<AF e.time t then none else some e
 |none=>none
def Ze(s:ez)(m:jJ)(k:List UInt8)(t d:Int):aD prog 18 [.one (s.open_ m),.one (.str k),.one (.int .i64 t),.one (.int .i64 d)] (.b2 [.agg ((uV s.entries k t d).getD gK).row,.one (.bool (uV s.entries k t d).isSome)]):=by
 have aF:=zmI s m k t 1;have ap:=fun e=>Zd (l:=s.entries) (k:=k) (t:=t) (way:=1) (e:=e);unfold uV;generalize qj s.entries k t 1=o at*;have bm:∀e:Entry,e.row=[.str e.key,.int .i64 e.time,.int .i64 e.status,.str e.type,.str e.hX,.str e.file,.int .i64 e.aK,.int .i64 e.ai,.bool e.same]:=fun _=>rfl;unfold ez.open_ ez.cs D5 at*;rw[gO,gO,gO,nt]at*;cases o with
 |none=>dsimp only;simp only[Option.getD_none]at aF⊢;refine aD.a6 f18 mixed fun aE=>?_;simp-implicitDefEqProofs;refine aA.of aF ?_;simp-implicitDefEqProofs;refine bp.of (fun h=>by cases h) (r:=.x (.one (.int .i64 0))) rfl ?_;simp-implicitDefEqProofs[ni]
 |some e=>
  obtain⟨_,aa,ab,_⟩:=ap e rfl;have aP:=zmG e t ab aa;rw[rW,bm]at aF;rw[bm]at aP;dsimp only;refine aD.a6 f18 mixed fun aE=>?_;simp-implicitDefEqProofs;refine aA.of aF ?_;simp-implicitDefEqProofs;refine bp.of (fun _=>aP) rfl ?_;by_cases ax:d<AF e.time t
  ·have e8:(d<AF e.time t)=True:=aL ax;rw[aC ax];simp-implicitDefEqProofs[e8,ni]
  ·have e8:(d<AF e.time t)=False:=aV ax;rw[au ax];simp-implicitDefEqProofs[e8,bm]
def oj(s:ez)(k:List UInt8)(t d:Int):Int:=
 if (k_ s).2≠0 then (k_ s).2 else if k2 k=false then 3 else if hV t=false\/LJ d=false then 1 else 0
def LK(s:ez)(k:List UInt8)(t d:Int):af:=if oj s k t d=0 then s.open_ (k_ s).1 else .atom (.pointer none)
def Zf(s:ez)(ap:s.fit)(k:List UInt8)(t d:Int):aD prog 10 [.agg s.cs,.one (.str k),.one (.int .i64 t),.one (.int .i64 d)] (.b2 [.one (LK s k t d),.one (.int .i64 (oj s k t d))]):=by
 have aF:=zmx s ap;have aP:=isKey k;have a7:=C6 t;have b1:=zmH d;unfold LK;obtain⟨A,iT⟩:∃A,A=oj s k t d:=⟨_,rfl⟩
 rw[<-iT];unfold oj at iT;unfold D6 at aF;generalize k_ s=O at*;obtain⟨m,f⟩:=O;dsimp only at*;unfold ez.open_ ez.cs D5 at*;rw[gO,gO,gO,nt]at*;by_cases ay:f=0;rotate_left
 ·rw[au ay]at aF;rw[aC ay]at iT;subst iT;rw[au ay];have mi:(A=0)=False:=aV ay;refine aD.a6 f10 mixed fun aE=>?_;simp-implicitDefEqProofs;refine aA.of aF ?_;simp-implicitDefEqProofs[mi]
 rw[au (by simp[ay])]at iT;subst ay;rw[aC rfl]at aF;refine aD.a6 f10 mixed fun aE=>?_;simp-implicitDefEqProofs;refine aA.of aF ?_;simp-implicitDefEqProofs;refine aA.of aP ?_;cases ab:k2 k
 ·rw[aC ab]at iT;subst iT;simp-implicitDefEqProofs
 rw[au (by simp[ab])]at iT;simp-implicitDefEqProofs;refine aA.of a7 ?_;cases ar:hV t
 ·rw[aC (.inl ar)]at iT;subst iT;simp-implicitDefEqProofs;refine bp.of (fun h=>by cases h) (r:=.x (.one (.bool true))) rfl ?_;simp-implicitDefEqProofs
 ·simp-implicitDefEqProofs;refine bp.of (fun _=>b1) rfl ?_;cases aN:LJ d
  ·rw[aC (.inr aN)]at iT;subst iT;simp-implicitDefEqProofs
  ·rw[au (by simp[ar,aN])]at iT;subst iT;simp-implicitDefEqProofs
structure Zg where
 key:List UInt8
 kind:Int
 state:Int
 time:Int
 zmK:Int
def Zg.row(x:Zg):List af:=[.str x.key,.int .i64 x.kind,.int .i64 x.state,.int .i64 x.time,.int .i64 x.zmK]
def Zh{l:List Entry}{k:List UInt8}{t d:Int}{e:Entry}(h:uV l k t d=some e):qj l k t 1=some e/\AF e.time t<=d:=by
 unfold uV at h;split at h
 ·rename_i x aj;split at h
  ·cases h
  ·rename_i ax;cases h;exact⟨aj,by omega⟩
 ·cases h
def zmL{s:ez}{k:List UInt8}{t d:Int}(h:oj s k t d=0):LH s (k_ s).1:=by
 refine zmB ?_;unfold oj at h;split at h
 ·rename_i aa;exact absurd h aa
 ·rename_i aa;exact te aa
def LL(s:ez)(k:List UInt8)(t d:Int):Option Entry:=if oj s k t d=0 then uV s.entries k t d else none
def zmM(s:ez)(ap:s.fit)(k:List UInt8)(t d:Int):aD prog 9 [.agg s.cs,.one (.str k),.one (.int .i64 t),.one (.int .i64 d)] (.b2 [.agg ((LL s k t d).getD gK).row,.one (.bool (LL s k t d).isSome),.one (.int .i64 (oj s k t d))]):=by
 have aF:=Zf s ap k t d;unfold LL;unfold LK at aF;generalize oj s k t d=A at*;by_cases cY:A=0
 ·have aP:=Ze s (k_ s).1 k t d;subst cY;rw[aC rfl]at aF;rw[aC rfl];generalize (k_ s).1=m at*;generalize uV s.entries k t d=o at*;have bm:(o.getD gK).row=[.str (o.getD gK).key,.int .i64 (o.getD gK).time,.int .i64 (o.getD gK).status,.str (o.getD gK).type,.str (o.getD gK).hX,.str (o.getD gK).file,.int .i64 (o.getD gK).aK,.int .i64 (o.getD gK).ai,.bool (o.getD gK).same]:=rfl;rw[bm]at aP⊢;unfold ez.open_ at*;unfold ez.cs at*;rw[gO,gO,gO,nt]at*;refine aD.a6 f9 mixed fun aE=>?_;simp-implicitDefEqProofs;refine aA.of aF ?_;simp-implicitDefEqProofs;refine aA.of aP ?_;simp-implicitDefEqProofs
 ·rw[au cY]at aF;rw[au cY];have Rr:(A=0)=False:=aV cY;unfold ez.cs at*;refine aD.a6 f9 mixed fun aE=>?_;simp-implicitDefEqProofs;refine aA.of aF ?_;simp-implicitDefEqProofs[Rr,ni]
end Go.Proofs.YtaalfcghmjkaeaaGreatDoor
namespace Go.Proofs.YtaalfcghmjkaeaaGreatDoor
open Go Go.Ab Go.Proofs.Tryz Go.IntKind
variable [bf][ee 0][cK prog][jC prog]
set_option maxRecDepth 100000
set_option maxHeartbeats 4000000
def znA(l:List Int)(al:l.length<=1000)(k:Int):∃n:Int,-1<=n/\aD prog 211 [.one (.list 1 (l.map fun x=>[af.int .i64 x])),.one (.int .i64 k)] (.x (.one (.int .i64 n))):=by
 refine aD.vT (fun n:Int=>-1<=n) (fun n=>.x (.one (.int .i64 n))) mixed (fn:=f211) (by kernel_rfl) (by kernel_rfl) rfl (by kernel_rfl) (by simp[f211]) ?_;simp-implicitDefEqProofs;refine cI.of Nat (fun i=>[(0,.x (.one (.list 1 (l.map fun x=>[af.int .i64 x])))),(1,.x (.one (.int .i64 k))),(7,.x (.one (.int .i64 l.length))),(8,.x (.one (.int .i64 i)))]) (fun i=>i<=l.length) (fun i=>l.length-i) 0 (cd _) ?_ ?_
 ·simp
 intro i ai;by_cases aq:i<l.length
 ·have aO:((i:Int)<(l.length:Int))=True:=aL (by omega);have bG:i64.wrap ((i:Int)+1)=(i:Int)+1:=bk _ (by omega);by_cases am:k=l[i]
  ·subst am;simp-implicitDefEqProofs[aq,aO];exact hq.of (i:Int) (by omega) (by simp)
  ·have eV:(k==l[i])=false:=by simpa using am
   simp-implicitDefEqProofs[aq,aO,eV,bG];refine bI.of (i+1) aq (by omega) (by simp)
 ·have aO:((i:Int)<(l.length:Int))=False:=aV (by omega);simp-implicitDefEqProofs[aO];exact hq.of (-1) (by omega) (by simp)
def znB(l:List Int)(al:l.length<=1000)(k:Int):∃b:Bool,aD prog 158 [.one (.list 1 (l.map fun x=>[af.int .i64 x])),.one (.int .i64 k)] (.x (.one (.bool b))):=by obtain⟨n,_,aF⟩:=znA l al k;refine⟨decide (0<=n),?_⟩;refine aD.a6 f158 mixed fun aE=>?_;simp-implicitDefEqProofs;refine aA.of aF ?_;simp-implicitDefEqProofs
def znC{a:kC}(h:yA a=0):a.ap.length<=100:=by
 unfold yA at h;split at h
 ·cases h
 split at h
 ·cases h
 unfold s7 at h;split at h
 ·cases h
 ·omega
def znD(n:kC)(aT:n.ap.length<=1000)(a:Addr)(bj:a.Fit):∃R:Addr×Bool,R.1.Fit/\aD prog 93 [.agg n.row,.agg a.row] (.b2 [.agg R.1.row,.one (.bool R.2)]):=by
 obtain⟨b,aF⟩:=znB [301,302,303,307,308] (by decide) n.st;have aP:=zlr n.ap [108,111,99,97,116,105,111,110] (by omega);obtain⟨X,hR,a7⟩:=znc a bj ((il n.ap [108,111,99,97,116,105,111,110]).headD []);generalize (il n.ap [108,111,99,97,116,105,111,110]).headD []=v at*;generalize ((il n.ap [108,111,99,97,116,105,111,110]).length != 0)=ok at*;have HO:n.row=[.int .i64 n.st,.str n.iV,.list 2 (n.ap.map Head.row),dj n.my]:=rfl;have uF:(if X.1.k3=true then X.1 else ⟨X.1.scheme,X.1.host,X.1.port,X.1.path,X.1.query,X.1.jD,a.gH,a.k3⟩:Addr).Fit:=by
  split
  ·exact hR
  ·exact⟨hR.scheme,hR.host,hR.port,hR.path,hR.query,bj.gH⟩
 have b1:=x6 _ uF;rw[HO];simp only[iw,u6]at aF;cases b
 ·refine⟨(dG,false),ns,?_⟩;obtain⟨cX,aw,cM,pa,ej,br,bo,fq⟩:=a;simp only[Addr.row,dG]at*;refine aD.a6 f93 mixed fun aE=>?_;simp-implicitDefEqProofs;refine aA.of aF ?_;simp-implicitDefEqProofs
 cases ok
 ·refine⟨(dG,false),ns,?_⟩;obtain⟨cX,aw,cM,pa,ej,br,bo,fq⟩:=a;simp only[Addr.row,dG]at*;refine aD.a6 f93 mixed fun aE=>?_;simp-implicitDefEqProofs;refine aA.of aF ?_;simp-implicitDefEqProofs;refine aA.of aP ?_;simp-implicitDefEqProofs
 obtain⟨⟨rC,b9,rD,lJ,rE,mq,lH,iN⟩,F⟩:=X;dsimp only at*;by_cases bc:F=0;rotate_left
 ·have iI:(F==0)=false:=by simpa using bc
  refine⟨(dG,false),ns,?_⟩;obtain⟨cX,aw,cM,pa,ej,br,bo,fq⟩:=a;simp only[Addr.row,dG]at*;refine aD.a6 f93 mixed fun aE=>?_;simp-implicitDefEqProofs;refine aA.of aF ?_;simp-implicitDefEqProofs;refine aA.of aP ?_;simp-implicitDefEqProofs;refine aA.of a7 ?_;simp-implicitDefEqProofs[bc]
 subst bc;cases iN
 ·simp only[kg,h6]at uF b1;generalize e3 _=G at b1;by_cases dB:G=0
  ·refine⟨(⟨rC,b9,rD,lJ,rE,mq,a.gH,a.k3⟩,true),uF,?_⟩;obtain⟨cX,aw,cM,pa,ej,br,bo,fq⟩:=a;simp only[Addr.row]at*;refine aD.a6 f93 mixed fun aE=>?_;simp-implicitDefEqProofs;refine aA.of aF ?_;simp-implicitDefEqProofs;refine aA.of aP ?_;simp-implicitDefEqProofs;refine aA.of a7 ?_;simp-implicitDefEqProofs;refine hc.r ⟨[3],by kernel_rfl,?_⟩;simp-implicitDefEqProofs;refine aA.of b1 ?_;simp-implicitDefEqProofs[dB]
  ·have Bf:(G==0)=false:=by simpa using dB
   refine⟨(dG,false),ns,?_⟩;obtain⟨cX,aw,cM,pa,ej,br,bo,fq⟩:=a;simp only[Addr.row,dG]at*;refine aD.a6 f93 mixed fun aE=>?_;simp-implicitDefEqProofs;refine aA.of aF ?_;simp-implicitDefEqProofs;refine aA.of aP ?_;simp-implicitDefEqProofs;refine aA.of a7 ?_;simp-implicitDefEqProofs;refine hc.r ⟨[3],by kernel_rfl,?_⟩;simp-implicitDefEqProofs;refine aA.of b1 ?_;simp-implicitDefEqProofs[dB]
 ·simp only[hB]at uF b1;generalize e3 _=G at b1;by_cases dB:G=0
  ·refine⟨(⟨rC,b9,rD,lJ,rE,mq,lH,true⟩,true),uF,?_⟩;obtain⟨cX,aw,cM,pa,ej,br,bo,fq⟩:=a;simp only[Addr.row]at*;refine aD.a6 f93 mixed fun aE=>?_;simp-implicitDefEqProofs;refine aA.of aF ?_;simp-implicitDefEqProofs;refine aA.of aP ?_;simp-implicitDefEqProofs;refine aA.of a7 ?_;simp-implicitDefEqProofs;refine aA.of b1 ?_;simp-implicitDefEqProofs[dB]
  ·have Bf:(G==0)=false:=by simpa using dB
   refine⟨(dG,false),ns,?_⟩;obtain⟨cX,aw,cM,pa,ej,br,bo,fq⟩:=a;simp only[Addr.row,dG]at*;refine aD.a6 f93 mixed fun aE=>?_;simp-implicitDefEqProofs;refine aA.of aF ?_;simp-implicitDefEqProofs;refine aA.of aP ?_;simp-implicitDefEqProofs;refine aA.of a7 ?_;simp-implicitDefEqProofs;refine aA.of b1 ?_;simp-implicitDefEqProofs[dB]
def znE(n:kC)(a:Addr)(bj:a.Fit):∃R:Addr×Bool×Bool×Int,R.1.Fit/\aD prog 54 [.agg n.row,.agg a.row] (.b2 [.agg R.1.row,.one (.bool R.2.1),.one (.bool R.2.2.1),.one (.int .i64 R.2.2.2)]):=by
 have aF:=YL n;have aP:=x6 a bj;have HO:n.row=[.int .i64 n.st,.str n.iV,.list 2 (n.ap.map Head.row),dj n.my]:=rfl;have hlen:=znC (a:=n);have znF:=fun h=>znD n h a bj;rw[HO]at*;generalize yA n=T at*;generalize e3 a=F at*;by_cases b_:T=0;rotate_left
 ·have znG:(T==0)=false:=by simpa using b_
  refine⟨(dG,false,false,T),ns,?_⟩;obtain⟨cX,aw,cM,pa,ej,br,bo,fq⟩:=a;simp only[Addr.row,dG]at aP⊢;refine aD.a6 f54 mixed fun aE=>?_;simp-implicitDefEqProofs;refine aA.of aF ?_;simp-implicitDefEqProofs[b_]
 by_cases bc:F=0;rotate_left
 ·have iI:(F==0)=false:=by simpa using bc
  subst b_;refine⟨(dG,false,false,F),ns,?_⟩;obtain⟨cX,aw,cM,pa,ej,br,bo,fq⟩:=a;simp only[Addr.row,dG]at aP⊢;refine aD.a6 f54 mixed fun aE=>?_;simp-implicitDefEqProofs;refine aA.of aF ?_;simp-implicitDefEqProofs;refine aA.of aP ?_;simp-implicitDefEqProofs[bc]
 subst b_;subst bc;obtain⟨⟨⟨rC,b9,rD,lJ,rE,mq,lH,iN⟩,ok⟩,ah,a7⟩:=znF (by have:=hlen rfl;omega);refine⟨(⟨rC,b9,rD,lJ,rE,mq,lH,iN⟩,ok,ok&&((n.st==301) ||(n.st==308)),0),ah,?_⟩;obtain⟨cX,aw,cM,pa,ej,br,bo,fq⟩:=a;simp only[Addr.row]at aP a7⊢;refine aD.a6 f54 mixed fun aE=>?_;simp-implicitDefEqProofs;refine aA.of aF ?_;simp-implicitDefEqProofs;refine aA.of aP ?_;simp-implicitDefEqProofs;refine aA.of a7 ?_;simp-implicitDefEqProofs;refine hc.r ⟨[10,2],by kernel_rfl,?_⟩;cases ok
 ·simp-implicitDefEqProofs
 ·by_cases aa:n.st=301
  ·simp-implicitDefEqProofs[aa]
  ·have dx:(n.st==301)=false:=by simpa using aa
   simp-implicitDefEqProofs[dx]
def Rw(s:List UInt8):aD prog 29 [.one (.str s)] (.b2 [.agg (sK s).row,.one (.int .i64 (x3 s))]):=by have aF:=zih s;generalize sK s=R at*;obtain⟨cX,aw,cM,pa,ej,br,bo,fq⟩:=R;simp only[Addr.row]at*;refine aD.a6 f29 mixed fun aE=>?_;simp-implicitDefEqProofs;refine aA.of aF ?_;simp-implicitDefEqProofs
def znH(s:List UInt8):(sK s).Fit:=by
 unfold sK;split
 ·rename_i h;refine W_ ?_;unfold x3 at h;split at h
  ·cases h
  ·omega
 ·exact ns
def znI(n:kC)(s:List UInt8):∃R:Addr×Bool,R.1.Fit/\aD prog 30 [.agg n.row,.one (.str s)] (.b2 [.agg R.1.row,.one (.bool R.2)]):=by
 have aF:=Rw s;obtain⟨⟨⟨rC,b9,rD,lJ,rE,mq,lH,iN⟩,ok,pm,F⟩,ah,aP⟩:=znE n (sK s) (znH s);generalize sK s=R at*;refine⟨(⟨rC,b9,rD,lJ,rE,mq,lH,iN⟩,decide (F=0)&&ok),ah,?_⟩;have HO:n.row=[.int .i64 n.st,.str n.iV,.list 2 (n.ap.map Head.row),dj n.my]:=rfl;obtain⟨cX,aw,cM,pa,ej,br,bo,fq⟩:=R;simp only[Addr.row,HO]at*;refine aD.a6 f30 mixed fun aE=>?_;simp-implicitDefEqProofs;refine aA.of aF ?_;simp-implicitDefEqProofs;refine aA.of aP ?_;by_cases bc:F=0
 ·simp-implicitDefEqProofs[bc]
 ·have iI:(F==0)=false:=by simpa using bc
  simp-implicitDefEqProofs[bc,iI]
set_option maxHeartbeats 8000000
def HP(s:ez)(key:List UInt8)(t d:Int)(e_:Nat)(x:List (List UInt8)×Entry×Bool):Prop:=
 x.1.head?=some key/\x.1.length<=e_+1/\(x.2.2=false->x.2.1=gK/\x.1.dropLast.Nodup)/\(x.2.2=true->x.1.Nodup/\∃k,x.1.getLast?=some k/\uV s.entries k t d=some x.2.1)
def znJ{α:Type}{l:List α}{x y z:α}(h:(l++[x]).head?=some y):((l++[x])++[z]).head?=some y:=by
 cases l with
 |nil=>simpa using h
 |cons a r=>simpa using h
def znK(s:ez)(ap:s.fit)(m:jJ)(aw:LH s m)(key:List UInt8)(t d:Int)(e_:Nat)(hm:e_<=20) :
  ∃x,HP s key t d e_ x/\aD prog 16 [.one (s.open_ m),.one (.str key),.one (.int .i64 t),.one (.int .i64 d),.one (.int .i64 e_)] (.b2 [strs x.1,.agg x.2.1.row,.one (.bool x.2.2)]):=by
 refine aD.vT (HP s key t d e_) (fun x=>.b2 [strs x.1,.agg x.2.1.row,.one (.bool x.2.2)]) mixed (fn:=f16) (by kernel_rfl) (by kernel_rfl) rfl (by kernel_rfl) (by simp[f16]) ?_;have m9:∀e:Entry,e.row=[.str e.key,.int .i64 e.time,.int .i64 e.status,.str e.type,.str e.hX,.str e.file,.int .i64 e.aK,.int .i64 e.ai,.bool e.same]:=fun _=>rfl;have zc:=fun k=>Ze s m k t d;have bv:=fun e he=>zmC s m aw e he;have gy:=fun a bj=>zns a bj s.rules ap;unfold ez.open_ ez.cs D5 at*;simp only[gO,nt]at*;simp-implicitDefEqProofs;refine cI.of (List (List UInt8)×List UInt8) (fun x=>[(0,.x (.one (.ref [.list 9 (s.entries.map Entry.row),.list 2 (s.files.map gL.row),.list 2 (s.rules.map eS.row),.g8 false true (oh m) (oi m)]))),(1,.x (.one (.str x.2))),(2,.x (.one (.int .i64 t))),(3,.x (.one (.int .i64 d))),(4,.x (.one (.int .i64 e_))),(10,.x (.one .nil)),(11,.box gK.row),(12,.x (.one (.bool false))),(13,.own 9 1 (dr x.1))])
  (fun x=>(x.1++[x.2]).head?=some key/\x.1.length<=e_/\x.1.Nodup) (fun x=>e_+1-x.1.length) ([],key) ⟨rfl,cd _,List.nodup_nil⟩ ?_ ?_
 ·simp[dr,ni]
 rintro⟨aU,k⟩ ⟨a1,fk,fP⟩;dsimp only at a1 fk fP⊢;have aF:=AN aU k;have aP:=zc k;have b3:dr (aU++[k])=dr aU++[[af.str k]]:=Au _ _;have hQ:(dr aU).length=aU.length:=v8 aU;have jF:aU.length+1<=maxLen:=by unfold maxLen;omega
 have O3:=fun e=>Zh (l:=s.entries) (k:=k) (t:=t) (d:=d) (e:=e);have om:gK.row=[af.str [],af.int i64 0,af.int i64 0,af.str [],af.str [],af.str [],af.int i64 0,af.int i64 0,af.bool false]:=rfl;have jG:HP s key t d e_ (aU++[k],gK,false):=⟨a1,by simp;omega,fun _=>⟨rfl,by rw[List.dropLast_concat];exact fP⟩,fun h=>by cases h⟩
 have rX:strs (aU++[k])=.one (.list 1 (dr aU++[[af.str k]])):=by rw[<-b3];rfl
 obtain⟨rows,D_⟩:∃rows,rows=dr aU:=⟨_,rfl⟩
 have ro:aD prog 8 [.one (.list 1 rows),.one (.str k)] (.x (.one (.bool (decide (k∈aU))))):=by rw[D_];exact aF
 rw[<-D_]at b3 hQ rX⊢;generalize cL:uV s.entries k t d=o at*;by_cases eU:k∈aU
 ·rw[om];rw[s6 eU]at ro;cases o with
  |none=>rw[Option.getD_none,om]at aP;simp-implicitDefEqProofs;refine aA.of ro ?_;simp-implicitDefEqProofs[hQ,jF];refine⟨by omega,aA.of aP ?_⟩;simp-implicitDefEqProofs;exact hq.of (aU++[k],gK,false) jG (by simp[rX,om])
  |some e=>rw[rW,m9]at aP;simp-implicitDefEqProofs;refine aA.of ro ?_;simp-implicitDefEqProofs[hQ,jF];refine⟨by omega,aA.of aP ?_⟩;simp-implicitDefEqProofs;exact hq.of (aU++[k],gK,false) jG (by simp[rX,om])
 rw[nb eU]at ro;have zzIO:(aU++[k]).Nodup:=by rw[Gg];refine⟨fP,by simp,fun a bj b ae=>?_⟩;simp at ae;subst ae;exact fun e=>eU (e▸bj)
 rw[om];cases o with
 |none=>rw[Option.getD_none,om]at aP;simp-implicitDefEqProofs;refine aA.of ro ?_;simp-implicitDefEqProofs[hQ,jF];refine⟨by omega,aA.of aP ?_⟩;simp-implicitDefEqProofs;exact hq.of (aU++[k],gK,false) jG (by simp[rX,om])
 |some e=>
  rw[rW,m9]at aP;obtain⟨aT,ax⟩:=O3 e rfl;obtain⟨he,aa,ab,_⟩:=Zd aT;have a7:=bv e he;have znL:HP s key t d e_ (aU++[k],e,true):=⟨a1,by simp;omega,fun h=>(by cases h),fun _=>⟨zzIO,k,by simp,cL⟩⟩
  generalize HH m e=K at*;obtain⟨rt,lq⟩:=K;dsimp only at*;obtain⟨⟨a,on⟩,ah,b1⟩:=znI rt k;have bm:rt.row=[.int .i64 rt.st,.str rt.iV,.list 2 (rt.ap.map Head.row),dj rt.my]:=rfl;rw[bm]at a7 b1;rw[m9]at a7;obtain⟨⟨A6,wd⟩,Ap,v6,dZ⟩:=gy a ah;have jV:=Rw A6;generalize sK A6=A at*;generalize x3 A6=G at*;obtain⟨rC,b9,rD,lJ,rE,mq,lH,iN⟩:=a;obtain⟨znM,dw,znN,Ao,znO,Hj,He,dL⟩:=A;dsimp only at*;simp only[Addr.row]at b1 dZ jV;simp-implicitDefEqProofs;refine aA.of ro ?_;simp-implicitDefEqProofs[hQ,jF];refine⟨by omega,aA.of aP ?_⟩;simp-implicitDefEqProofs;refine aA.of a7 ?_;by_cases kK:lq=0;rotate_left
  ·have znP:(lq==0)=false:=by simpa using kK
   simp-implicitDefEqProofs[kK];exact hq.of (aU++[k],gK,false) jG (by simp[rX,om])
  simp-implicitDefEqProofs[kK];refine aA.of b1 ?_;cases on
  ·simp-implicitDefEqProofs;refine hc.r ⟨[15],by kernel_rfl,?_⟩;simp-implicitDefEqProofs;exact hq.of (aU++[k],e,true) znL (by simp[rX,m9])
  simp-implicitDefEqProofs;refine aA.of dZ ?_;simp-implicitDefEqProofs;refine aA.of jV ?_;by_cases dB:G=0;rotate_left
  ·have Bf:(G==0)=false:=by simpa using dB
   simp-implicitDefEqProofs[dB];exact hq.of (aU++[k],gK,false) jG (by simp[rX,om])
  by_cases hn:e_<aU.length+1
  ·have Rx:((e_:Int)<(aU.length:Int)+1)=True:=aL (by omega);simp-implicitDefEqProofs[dB,Rx,hQ];exact hq.of (aU++[k],gK,false) jG (by simp[rX,om])
  ·have Rx:((e_:Int)<(aU.length:Int)+1)=False:=aV (by omega);simp-implicitDefEqProofs[dB,Rx,hQ];refine bI.of (aU++[k],A6) ⟨znJ a1,by simp;omega,zzIO⟩ (by simp;omega) ?_;simp[b3,D_]
def znQ(s:ez)(ap:s.fit)(k:List UInt8)(t d e_:Int):∃F:Int,(F=0->oj s k t d=0/\0<=e_/\e_<=20)/\aD prog 15 [.agg s.cs,.one (.str k),.one (.int .i64 t),.one (.int .i64 d),.one (.int .i64 e_)] (.b2 [.one (if F=0 then s.open_ (k_ s).1 else .atom (.pointer none)),.one (.int .i64 F)]):=by
 have aF:=Zf s ap k t d;have aP:=Rw k;unfold LK at aF;generalize oj s k t d=A at*;generalize (k_ s).1=m at*;generalize sK k=R at*;generalize x3 k=G at*;obtain⟨znM,dw,znN,Ao,znO,Hj,He,dL⟩:=R;simp only[Addr.row]at aP;unfold ez.open_ ez.cs at*;simp only[gO,nt]at*;by_cases cY:A=0;rotate_left
 ·refine⟨A,fun h=>absurd h cY,?_⟩;rw[au cY]at aF⊢;have Rr:(A==0)=false:=by simpa using cY
  refine aD.a6 f15 mixed fun aE=>?_;simp-implicitDefEqProofs;refine aA.of aF ?_;simp-implicitDefEqProofs[cY]
 subst cY;rw[aC rfl]at aF;by_cases dB:G=0;rotate_left
 ·refine⟨G,fun h=>absurd h dB,?_⟩;rw[au dB];have Bf:(G==0)=false:=by simpa using dB
  refine aD.a6 f15 mixed fun aE=>?_;simp-implicitDefEqProofs;refine aA.of aF ?_;simp-implicitDefEqProofs;refine aA.of aP ?_;simp-implicitDefEqProofs[dB]
 subst dB;by_cases aa:e_<0
 ·refine⟨1,fun h=>by omega,?_⟩;rw[au (by decide)];refine aD.a6 f15 mixed fun aE=>?_;simp-implicitDefEqProofs;refine aA.of aF ?_;simp-implicitDefEqProofs;refine aA.of aP ?_;simp-implicitDefEqProofs[aa]
 by_cases ab:20<e_
 ·refine⟨1,fun h=>by omega,?_⟩;rw[au (by decide)];refine aD.a6 f15 mixed fun aE=>?_;simp-implicitDefEqProofs;refine aA.of aF ?_;simp-implicitDefEqProofs;refine aA.of aP ?_;simp-implicitDefEqProofs[aa,ab]
 refine⟨0,fun _=>⟨rfl,by omega,by omega⟩,?_⟩;rw[aC rfl];refine aD.a6 f15 mixed fun aE=>?_;simp-implicitDefEqProofs;refine aA.of aF ?_;simp-implicitDefEqProofs;refine aA.of aP ?_;simp-implicitDefEqProofs[aa,ab]
def znR(s:ez)(ap:s.fit)(k:List UInt8)(t d e_:Int):∃x:List (List UInt8)×Entry×Bool×Int,(x.2.2.2≠0->x.1=[]/\x.2.1=gK/\x.2.2.1=false)/\(x.2.2.2=0->oj s k t d=0/\0<=e_/\e_<=20/\HP s k t d e_.toNat (x.1,x.2.1,x.2.2.1)) /\
  aD prog 7 [.agg s.cs,.one (.str k),.one (.int .i64 t),.one (.int .i64 d),.one (.int .i64 e_)] (.b2 [strs x.1,.agg x.2.1.row,.one (.bool x.2.2.1),.one (.int .i64 x.2.2.2)]):=by
 have m9:∀e:Entry,e.row=[.str e.key,.int .i64 e.time,.int .i64 e.status,.str e.type,.str e.hX,.str e.file,.int .i64 e.aK,.int .i64 e.ai,.bool e.same]:=fun _=>rfl;have om:gK.row=[af.str [],af.int i64 0,af.int i64 0,af.str [],af.str [],af.str [],af.int i64 0,af.int i64 0,af.bool false]:=rfl;obtain⟨F,bc,aF⟩:=znQ s ap k t d e_;by_cases aW:F=0;rotate_left
 ·refine⟨([],gK,false,F),fun _=>⟨rfl,rfl,rfl⟩,fun h=>absurd h aW,?_⟩;rw[au aW]at aF;dsimp only;rw[om];have lQ:(F==0)=false:=by simpa using aW
  unfold ez.cs at*;refine aD.a6 f7 mixed fun aE=>?_;simp-implicitDefEqProofs;refine aA.of aF ?_;simp-implicitDefEqProofs[aW]
 obtain⟨LU,g1,g2⟩:=bc aW;rw[aC aW]at aF;subst aW;obtain⟨n,dJ⟩:∃n:Nat,e_=n:=⟨e_.toNat,by omega⟩
 subst dJ;obtain⟨⟨aU,e,is⟩,aj,aP⟩:=znK s ap (k_ s).1 (zmL LU) k t d n (by omega);refine⟨(aU,e,is,0),fun h=>absurd rfl h,fun _=>⟨LU,by omega,by omega,aj⟩,?_⟩;dsimp only at*;generalize (k_ s).1=m at*;rw[m9]at aP⊢;unfold ez.open_ at*;unfold ez.cs at*;simp only[gO,nt]at*;refine aD.a6 f7 mixed fun aE=>?_;simp-implicitDefEqProofs;refine aA.of aF ?_;simp-implicitDefEqProofs;refine aA.of aP ?_;simp-implicitDefEqProofs;refine hc.r ⟨[17],by kernel_rfl,?_⟩;simp-implicitDefEqProofs
end Go.Proofs.YtaalfcghmjkaeaaGreatDoor
