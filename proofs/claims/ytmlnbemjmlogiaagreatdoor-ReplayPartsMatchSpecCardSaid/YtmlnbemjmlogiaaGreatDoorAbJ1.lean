/- Lemmas. -/
import Derived.Test.YtmlnbemjmlogiaaGreatDoorAbJ0
set_option linter.all false
namespace Go
open Go.IntKind Go.Lib
section
def Gj(dF:Nat×Nat)(n:Nat):Prop:=dF=(0,0)\/n<=dF.1
def World.iM(w:bb)(base:Nat)(e:aP)(size:Nat)(v:aI)(n:Nat)(xs:List aI):Prop:=
 xs.length=n*size /\
 ((v=.slice none 0 0/\n=0) \/
  ∃g cap bN,v=.slice (some ⟨g,0,none⟩) n cap/\base<=g/\(∃dF,w.heap[g]?=some (.cells bN e dF)/\Gj dF bN.size)/\n<=cap/\cap<=maxLen/\bN.size=cap*size/\bN.toList.take (n*size)=xs)
section
variable {P:aM}{w:bb}{base:Nat}{e:aP}{size:Nat}{v:aI}{n:Nat}{xs:List aI}
def World.Un(h:w.ownsRow base e size v n xs):w.iM base e size v n xs:=by
 refine⟨h.1,?_⟩;rcases h.2 with aX|⟨g,cap,bN,aF,ad,ay,rest⟩
 ·exact .inl aX
 ·exact .inr ⟨g,cap,bN,aF,ad,⟨(0,0),ay,.inl rfl⟩,rest⟩
def World.Dd(w:bb)(base:Nat)(e:aP)(size:Nat):w.iM base e size (.slice none 0 0) 0 []:=⟨by simp,.inl ⟨rfl,rfl⟩⟩
def World.iM.lt(h:w.iM base e size v n xs):∀k,v.ownBlock=some k->base<=k/\k<w.heap.size:=by
 intro k ak;rcases h.2 with⟨rfl,_⟩|⟨g,cap,bN,rfl,ad,⟨dF,ay,_⟩,_⟩
 ·simp[Value.ownBlock]at ak
 ·simp[Value.ownBlock]at ak;subst ak;exact⟨ad,(jb.1 ay).1⟩
def World.iM.cells(h:w.iM base e size v n xs){g:Nat}(ay:v.ownBlock=some g):∀j u,xs[j]?=some u->w.cell? ((⟨g,0,none⟩:Addr).add j)=some u:=by
 intro j u hu;rcases h.2 with⟨rfl,_⟩|⟨bX,cap,bN,rfl,_,⟨dF,zcO,_⟩,_,_,_,gy⟩
 ·simp[Value.ownBlock]at ay
 ·simp[Value.ownBlock]at ay;subst ay;have AM:(⟨bX,0,none⟩:Addr).add j=⟨bX,j,none⟩:=by unfold Addr.add;split<;>simp_all
  rw[AM,cell_of_row w bX j bN e dF zcO];rw[<-gy,l0]at hu;split at hu
  ·simpa using hu
  ·cases hu
def De(P:aM)(g o:Nat)(t:aP)(dF:Nat×Nat):∀(vs:List aI) (i:Nat) (bN:Array aI) (w:bb),w.heap[g]?=some (.cells bN t dF)->Gj dF bN.size->o+i+vs.length<=bN.size->(∀v∈vs,v.oneCell'=true) ->
  (storeCells ⟨g,o,none⟩ vs i).run P w=.ok () (w.setRow g (bN.toList.take (o+i)++vs++bN.toList.drop (o+i+vs.length)).toArray)
 |[],i,bN,w,ay,_,_,_=>by simp only[storeCells,AN,ur,xg,Df,JP];rw[setRow_self w g bN t dF ay];rfl
 |v::rest,i,bN,w,ay,aZ,al,aa=>by
  have ah:o+i<bN.size:=by simp at al;omega
  have AM:(⟨g,o,none⟩:Addr).add i=⟨g,o+i,none⟩:=by unfold Addr.add;split<;>simp_all
  have ip:w.cell? ⟨g,o+i,none⟩=some bN[o+i]:=by simp[World.cell?,ay,ah]
  have JQ:w.frozen? ⟨g,o+i,none⟩=false:=by
   rcases aZ with rfl|aZ
   ·simp[World.frozen?,ay]
   ·obtain⟨aO,e_⟩:=dF;simp[World.frozen?,ay];intro h;dsimp only at aZ;omega
  have cu:(store ((⟨g,o,none⟩:Addr).add i) v).run P w=.ok () (w.setRow g (bN.setIfInBounds (o+i) v)):=by rw[AM,run_store P w _ v _ (aa v (by simp)),ip];simp[JQ,setCell_eq_setRow w g (o+i) bN t dF v ay]
  have ba:=De P g o t dF rest (i+1) (bN.setIfInBounds (o+i) v) (w.setRow g (bN.setIfInBounds (o+i) v)) (setRow_heap w g bN _ t _ ay) (by simpa using aZ) (by simp at al⊢;omega) (fun x ai=>aa x (by simp[ai]));simp only[storeCells,Sem.run_bind,cu,Result.andThen_ok];rw[ba,setRow_setRow];congr 3;have e:=list_seg_step bN.toList (o+i) v rest (by simp at al⊢;omega);simpa[Array.toList_setIfInBounds,rN]using e
end
section
variable {P:aM}(w:bb)
def N0{z:aI}{size:Nat}(e:aP)(base n m l1:Nat)(xs er:List aI)(rO:z.cells.size=size)(ai:xs.length=n*size)(al:er.length=m*size)(s6:n+m<=maxLen)(un:base<=w.heap.size)(row:Option Nat) :
  (w.drew.alloc (.cells (xs.toArray++er.toArray++Builtin.zeroCells z.cells (grownCap w (n+m) l1 e-(n+m))) e)).iM base e size
   (.slice (some ⟨w.heap.size,0,none⟩) (n+m) (grownCap w (n+m) l1 e)) (n+m) (xs++er) /\
  w.grownBy (w.drew.alloc (.cells (xs.toArray++er.toArray++Builtin.zeroCells z.cells (grownCap w (n+m) l1 e-(n+m))) e)) row:=by
 have cX:(xs++er).length=(n+m)*size:=by rw[eG,ai,al,l3]
 have iN:=grownCap_ge w (n+m) l1 e;have ht:grownCap w (n+m) l1 e<=maxLen:=grownCap_le_maxLen w (n+m) l1 e s6;refine⟨⟨cX,.inr ⟨w.heap.size,_,_,rfl,un,⟨_,Go.heap_alloc_new w.drew _,.inl rfl⟩,iN,ht,?_,?_⟩⟩,⟨rfl,rfl,rfl,by simp,fun k ak _=>Go.heap_alloc_old w.drew _ ak⟩⟩
 ·simp only[Array.size_append,n3,size_zeroCells,rO,ai,al,<-l3];congr 1;omega
 ·simp only[N1,pG];rw[<-pG,<-cX];exact Gk
def zcP(base:Nat)(t ty e:aP)(i:TypeInfo)(z:aI)(size bytes:Nat)(bv:P.underlying t=some (.slice e))(ah:P.info? e=some i)(aZ:i.zero=some z)
  (vI:i.size=size)(ut:i.bytes=bytes)(rO:z.cells.size=size)(cB:0<size)
  (v:aI)(n:Nat)(xs:List aI)(bB:w.iM base e size v n xs)
  (a:Addr)(m c:Nat)(er:List aI)(al:er.length=m*size)(nl:∀j u,er[j]?=some u->w.cell? (a.add j)=some u)(aa:∀u∈er,u.oneCell'=true)
  (s6:n+m<=maxLen)(Gl:(n+m)*bytes<=140737488355328)(un:base<=w.heap.size) :
  ∃cW w',(Builtin.append_ #[t,t] ty #[v,.slice (some a) m c]).run P w=.ok cW w'/\w'.iM base e size cW (n+m) (xs++er)/\w.grownBy w' v.ownBlock/\(cW.ownBlock=v.ownBlock\/cW.ownBlock=some w.heap.size):=by
 have plain:w.ownsRow base e size v n xs->_:=fun h=>run_append_own_at (P:=P) w base t ty e i z size bytes bv ah aZ vI ut rO cB v n xs h a m c er al nl aa s6 Gl un;rcases bB.2 with aX|⟨g,cap,bN,rfl,oZ,⟨dF,ay,kb⟩,rP,ht,eD,gy⟩
 ·obtain⟨cW,w',aa,ab,au,_,bE⟩:=plain ⟨bB.1,.inl aX⟩;exact⟨cW,w',aa,World.Un ab,au,bE⟩
 by_cases zcQ:dF=(0,0)
 ·subst zcQ;obtain⟨cW,w',aa,ab,au,_,bE⟩:=plain ⟨bB.1,.inr ⟨g,cap,bN,rfl,oZ,ay,rP,ht,eD,gy⟩⟩;exact⟨cW,w',aa,World.Un ab,au,bE⟩
 subst vI;subst ut;have cX:(xs++er).length=(n+m)*i.size:=by rw[eG,bB.1,al,l3]
 by_cases yW:n+m<=cap
 ·have fm:n*i.size+er.length<=bN.size:=by rw[al,eD,<-l3];exact yX _ yW
  have aw:=run_firstCells_some (P:=P) w i.size m a m c er al nl;have cu:=De P g (n*i.size) e dF er 0 bN w ay kb (by simpa using fm) aa;simp only[xg]at cu;refine⟨.slice (some ⟨g,0,none⟩) (n+m) cap,w.setRow g (bN.toList.take (n*i.size)++er++bN.toList.drop (n*i.size+er.length)).toArray,?_,⟨cX,.inr ⟨g,cap,_,rfl,oZ,⟨dF,setRow_heap w g bN _ e _ ay,?_⟩,yW,ht,?_,?_⟩⟩,⟨rfl,rfl,rfl,by simp,fun k _ ak=>setRow_other w g k _ (fun e=>ak (by simp[Value.ownBlock,e]))⟩,Or.inl rfl⟩
  ·simp[Builtin.append_,run_underlying bv,sizeOf,typeInfo,ah,Builtin.lenOf,yW,aw,Addr.add_lit,cu]
  ·have:(bN.toList.take (n*i.size)++er++bN.toList.drop (n*i.size+er.length)).toArray.size=bN.size:=by
    simp only[n3,eG,e',eP,l4];omega
   rw[this];exact kb
  ·simp only[n3,eG,e',eP,l4];omega
  ·rw[gy,<-cX];exact Gk
 ·have holds:∀j u,xs[j]?=some u->w.cell? ((⟨g,0,none⟩:Addr).add j)=some u:=bB.cells (g:=g) rfl;have ao:=run_append_grow (P:=P) w t ty e i z bv ah aZ ⟨g,0,none⟩ n cap xs bB.1 holds a m c er al nl (by omega) (by simp only[maxLen]at s6;omega) (growslice_fits (by omega) Gl);have mE:=N0 w e base n m cap xs er rO bB.1 al s6 un (Value.ownBlock (.slice (some ⟨g,0,none⟩) n cap));exact⟨_,_,ao,mE.1,mE.2,Or.inr rfl⟩
def Uo(base:Nat)(t u ty e:aP)(i:TypeInfo)(bv:P.underlying t=some (.slice e))(hu:P.underlying u=some .string)(ah:P.info? e=some i)(aZ:i.zero=some (.int .u8 0))
  (vI:i.size=1)(ut:i.bytes=1)
  (v:aI)(n:Nat)(xs:List aI)(bB:w.iM base e 1 v n xs)(s:ByteArray)
  (s6:n+s.size<=maxLen)(Gl:n+s.size<=140737488355328)(un:base<=w.heap.size) :
  ∃cW w',(Builtin.append_ #[t,u] ty #[v,.string s]).run P w=.ok cW w'/\w'.iM base e 1 cW (n+s.size) (xs++strCells s)/\w.grownBy w' v.ownBlock/\(cW.ownBlock=v.ownBlock\/cW.ownBlock=some w.heap.size):=by
 have n4:xs.length=n:=by simpa using bB.1
 have cX:(xs++strCells s).length=(n+s.size)*1:=by rw[eG,n4,strCells_length,Dg]
 rcases bB.2 with⟨rfl,rfl⟩|⟨g,cap,bN,rfl,oZ,⟨dF,ay,kb⟩,rP,ht,eD,gy⟩
 ·have ai:xs=[]:=n5 n4;subst ai;by_cases hm:s.size=0
  ·have aX:strCells s=[]:=n5 (by rw[strCells_length];exact hm);refine⟨.slice none 0 0,w,?_,by rw[hm,aX];exact World.Dd w base e 1,⟨rfl,rfl,rfl,f_ _,fun _ _ _=>rfl⟩,.inl rfl⟩;have aw:=run_firstCells_string (P:=P) w 1 s;rw[hm]at aw;simp[Builtin.append_,run_underlying bv,run_underlying hu,sizeOf,typeInfo,ah,vI,Builtin.lenOf,hm,aw]
  ·have ao:=run_append_nil_string (P:=P) w t u ty e i (.int .u8 0) bv hu ah aZ s (by omega) (by omega) (by rw[ut];omega);have mE:=N0 w e base 0 s.size 0 [] (strCells s) (z:=.int .u8 0) (size:=1) rfl rfl (by rw[strCells_length,Dg]) s6 un (Value.ownBlock (.slice none 0 0));simp only[hv,List.nil_append,Array.empty_append]at mE⊢;have ax:(s.data.map fun b=>Value.int .u8 b.toNat)=(strCells s).toArray:=by
    apply rQ;simp[strCells]
   rw[ax]at ao;exact⟨_,_,ao,mE.1,mE.2,.inr rfl⟩
 ·by_cases yW:n+s.size<=cap
  ·have zsx:bN.size=cap:=by simpa using eD
   have aw:=run_firstCells_string (P:=P) w 1 s;have aa:∀u∈strCells s,u.oneCell'=true:=by intro u hu;simp only[strCells,hx]at hu;obtain⟨b,_,rfl⟩:=hu;rfl
   have cu:=De P g n e dF (strCells s) 0 bN w ay kb (by rw[strCells_length];omega) aa;simp only[xg]at cu;refine⟨.slice (some ⟨g,0,none⟩) (n+s.size) cap,w.setRow g (bN.toList.take n++strCells s++bN.toList.drop (n+(strCells s).length)).toArray,?_,⟨cX,.inr ⟨g,cap,_,rfl,oZ,⟨dF,setRow_heap w g bN _ e _ ay,?_⟩,yW,ht,?_,?_⟩⟩,⟨rfl,rfl,rfl,by simp,fun k _ ak=>setRow_other w g k _ (fun e=>ak (by simp[Value.ownBlock,e]))⟩,Or.inl rfl⟩
   ·simp[Builtin.append_,run_underlying bv,run_underlying hu,sizeOf,typeInfo,ah,vI,Builtin.lenOf,yW,aw,Addr.add_lit,cu]
   ·have:(bN.toList.take n++strCells s++bN.toList.drop (n+(strCells s).length)).toArray.size=bN.size:=by
     simp only[n3,eG,e',eP,l4,strCells_length];omega
    rw[this];exact kb
   ·simp only[n3,eG,e',eP,l4,strCells_length];omega
   ·have N2:bN.toList.take n=xs:=by simpa using gy
    rw[N2,<-cX];exact Gk
  ·have holds:∀j u,xs[j]?=some u->w.cell? ((⟨g,0,none⟩:Addr).add j)=some u:=bB.cells (g:=g) rfl;have ao:=run_append_grow_string (P:=P) w t u ty e i (.int .u8 0) bv hu ah aZ ⟨g,0,none⟩ n cap xs (by rw[vI];simpa using n4) holds s (by omega) (by omega) (by rw[ut];exact growslice_fits (by omega) (by omega));have mE:=N0 w e base n s.size cap xs (strCells s) (z:=.int .u8 0) (size:=1) rfl (by simpa using n4) (by rw[strCells_length,Dg]) s6 un (Value.ownBlock (.slice (some ⟨g,0,none⟩) n cap));exact⟨_,_,ao,mE.1,mE.2,.inr rfl⟩
def zcR(base:Nat)(src dst e:aP)(s:ByteArray)(hs:P.underlying src=some .string)(aA:P.underlying dst=some (.slice e))(he:P.underlying e=some (.int .u8))(s6:s.size<=maxLen)(un:base<=w.heap.size)(row:Option Nat) :
  ∃cW w',(convert src dst (.string s)).run P w=.ok cW w'/\w'.iM base e 1 cW s.size (strCells s)/\w.grownBy w' row/\cW.ownBlock=some w.heap.size:=by
 have ao:=run_bytes_of_string (P:=P) w src dst e s hs aA he;have iN:=grownCap_ge w s.size 0 e;have ht:grownCap w s.size 0 e<=maxLen:=grownCap_le_maxLen w s.size 0 e s6;have cB:(bytesRow s (grownCap w s.size 0 e)).size=grownCap w s.size 0 e:=by simp only[bytesRow,Array.size_append,Array.size_map,Array.size_replicate];have:s.data.size=s.size:=rfl;omega
 refine⟨_,_,ao,⟨by rw[strCells_length,Dg],.inr ⟨w.heap.size,_,_,rfl,un,⟨_,Go.heap_alloc_new w.drew _,.inr ?_⟩,iN,ht,by rw[cB,Dg],?_⟩⟩,⟨rfl,rfl,rfl,by simp,fun k ak _=>Go.heap_alloc_old w.drew _ ak⟩,rfl⟩
 ·exact f_ _
 ·simp only[bytesRow,N1,Dg,strCells];have ax:(s.data.map fun b=>Value.int .u8 b.toNat).toList=s.data.toList.map fun b=>Value.int .u8 b.toNat:=by simp
  rw[ax];have al:(s.data.toList.map fun b=>Value.int .u8 b.toNat).length=s.size:=by simp
  rw[<-al];exact Gk
end
end
end Go
namespace Go.Ab
open Go Go.IntKind Go.RowKit
section
inductive ag where
 |bool (b:Bool)
 |int (k:IntKind) (n:Int)
 |str (l:aq)
 |nil
 |empty (size:Nat)
 |list (size:Nat) (xs:List (List ag))
 |atom (v:aI)
 |jQ (f:FuncId) (caps:List ag)
 |ref (cs:List ag)
 |any
 |i8 (gz gT:Bool) (bp vs:List (List ag))
inductive aG where
 |one (c:ag)
 |agg (cs:List ag)
inductive ae where
 |dead
 |x (v:aG)
 |b2 (vs:List aG)
 |box (cs:List ag)
 |ptr (s off:Nat)
 |fy (s i off:Nat)
 |elem (cs:List ag)
 |own (e size:Nat) (xs:List (List ag))
 |alias (s:Nat)
 |mp (c:Nat) (bs:List Nat) (es:List (aG×aG))
 |view (s aO len:Nat) (whole:Bool)
 |df (f:FuncId) (caps:List (ag⊕(Nat×Nat)))
 |cond (e:Bool) (v:ae)
 |link (s off d:Nat)
 |res (l:List (Nat×Nat))
 |et (s off:Nat)
 |cR (b:Nat) (cs:List ag)
 |db (v:aI) (e size:Nat) (xs:List (List ag))
 |gL (b c:Nat) (bs:List Nat) (es:List (aG×aG))
abbrev aj:=Nat->ae
def JR(a:Bool)(us:List aI)(v:aI):Prop:=match a with
 |true=>v=.agg us.toArray
 |false=>us=[v]
inductive bD (w:bb) (S:Nat->Prop):ag->aI->Prop where
 |bool (b:Bool):bD w S (.bool b) (.bool b)
 |int (k:IntKind) (n:Int):bD w S (.int k n) (.int k n)
 |str (l:aq) (h:l.length<=maxLen):bD w S (.str l) (.string ⟨l.toArray⟩)
 |nil:bD w S .nil (.slice none 0 0)
 |empty (a:Addr) (cap size:Nat) (h:cap<=maxLen):bD w S (.empty size) (.slice (some a) 0 cap)
 |mF (a:Option Addr) (cap size:Nat) (h:cap<=maxLen) (aX:a=none->cap=0):bD w S (.list size []) (.slice a 0 cap)
 |list (b':Addr) (cap size:Nat) (xs:List (List ag)) (U:Nat->aI) (hs:S b'.block) (dW:b'.spot=none) (ap:xs.length<=cap) (hm:cap<=maxLen)
   (ai:∀x∈xs,x.length=size)(lz:∀(j:Nat) (c:ag),xs.flatten[j]?=some c->w.cell? (b'.add j)=some (U j))
   (ao:∀(j:Nat) (c:ag),xs.flatten[j]?=some c->bD w S c (U j)):bD w S (.list size xs) (.slice (some b') xs.length cap)
 |atom (v:aI) (h:v.oneCell'=true):bD w S (.atom v) v
 |jQ (f:FuncId) (caps:List ag) (U:Nat->aI) (h:∀(j:Nat) (c:ag),caps[j]?=some c->bD w S c (U j)):bD w S (.jQ f caps) (.func (.func f) #[] ((List.range caps.length).map U).toArray)
 |ref (b':Addr) (cs:List ag) (U:Nat->aI) (hs:S b'.block) (dW:b'.spot=none) (lz:∀(j:Nat) (c:ag),cs[j]?=some c->w.cell? (b'.add j)=some (U j))
   (ao:∀(j:Nat) (c:ag),cs[j]?=some c->bD w S c (U j)):bD w S (.ref cs) (.pointer (some b'))
 |any (v:aI) (h:v.oneCell'=true):bD w S .any v
 |i8 (b c:Nat) (ents:Array MapEntry) (gz gT:Bool) (bp vs:List (List ag)) (U V:Nat->Nat->aI) (hs:S b) (bo:w.heap[b]?=some (.map ents c)) (aX:ents.size=bp.length) (hm:vs.length=bp.length)
   (ak:∀(j:Nat) (k:List ag),bp[j]?=some k->∃e,ents.toList[j]?=some e/\JR gz ((List.range k.length).map (U j)) e.key)
   (aF:∀(j:Nat) (x:List ag),vs[j]?=some x->∃e,ents.toList[j]?=some e/\JR gT ((List.range x.length).map (V j)) e.val)
   (qK:∀(j:Nat) (k:List ag) (i:Nat) (c:ag),bp[j]?=some k->k[i]?=some c->bD w S c (U j i))
   (uu:∀(j:Nat) (x:List ag) (i:Nat) (c:ag),vs[j]?=some x->x[i]?=some c->bD w S c (V j i)):bD w S (.i8 gz gT bp vs) (.map (some b))
def cO(w:bb)(S:Nat->Prop)(cs:List ag)(vs:List aI):Prop:=
 vs.length=cs.length/\∀(j:Nat) (c:ag),cs[j]?=some c->∃u,vs[j]?=some u/\bD w S c u
def cz(w:bb)(S:Nat->Prop):aG->aI->Prop
 |.one c,v=>bD w S c v
 |.agg cs,v=>∃us:Array aI,v=.agg us/\cO w S cs us.toList
def bD.N3{w:bb}{S:Nat->Prop}{c:ag}{v:aI}(h:bD w S c v):v.oneCell'=true:=by cases h<;>first|rfl|assumption
def bD.mono{w w':bb}{S S':Nat->Prop}{c:ag}{v:aI}(h:bD w S c v)(bS:∀b,S b->S' b)
  (ad:∀b,S b->w'.heap[b]?=w.heap[b]?):bD w' S' c v:=by
 induction h with
 |bool b=>exact .bool b
 |int k n=>exact .int k n
 |str l h=>exact .str l h
 |nil=>exact .nil
 |empty a cap size h=>exact .empty a cap size h
 |mF a cap size h aX=>exact .mF a cap size h aX
 |list b' cap size xs U hs dW ap hm ai lz ao ba=>
  refine .list b' cap size xs U (bS _ hs) dW ap hm ai (fun j c ac=>?_) ba;have AM:(b'.add j).block=b'.block:=by unfold Addr.add;split<;>rfl
  rw[World.cell?_of_block (w:=w) (w':=w') (by rw[AM];exact ad _ hs)];exact lz j c ac
 |atom v h=>exact .atom v h
 |any v h=>exact .any v h
 |i8 b c ents gz gT bp vs U V hs bo aX hm ak aF qK uu zcS zcT=>exact .i8 b c ents gz gT bp vs U V (bS _ hs) (by rw[ad _ hs];exact bo) aX hm ak aF zcS zcT
 |jQ f caps U h ba=>exact .jQ f caps U ba
 |ref b' cs U hs dW lz ao ba=>
  refine .ref b' cs U (bS _ hs) dW (fun j c ac=>?_) ba;have AM:(b'.add j).block=b'.block:=by unfold Addr.add;split<;>rfl
  rw[World.cell?_of_block (w:=w) (w':=w') (by rw[AM];exact ad _ hs)];exact lz j c ac
def cO.mono{w w':bb}{S S':Nat->Prop}{cs:List ag}{vs:List aI}(h:cO w S cs vs)(bS:∀b,S b->S' b)
  (ad:∀b,S b->w'.heap[b]?=w.heap[b]?):cO w' S' cs vs:=
 ⟨h.1,fun j c ac=>let ⟨u,hu,ao⟩:=h.2 j c ac;⟨u,hu,ao.mono bS ad⟩⟩
def cz.mono{w w':bb}{S S':Nat->Prop}{x:aG}{v:aI}(h:cz w S x v)(bS:∀b,S b->S' b)
  (ad:∀b,S b->w'.heap[b]?=w.heap[b]?):cz w' S' x v:=by
 cases x with
 |one c=>exact bD.mono h bS ad
 |agg cs=>obtain⟨us,aF,al⟩:=h;exact⟨us,aF,al.mono bS ad⟩
def s7(w:bb)(S:Nat->Prop)(bs:List Nat)(es:List (aG×aG))(ents:List MapEntry):Prop:=
 ents.length=es.length/\bs.length=es.length/\∀(j:Nat) (x:aG×aG),es[j]?=some x->∃e,ents[j]?=some e/\bs[j]?=some e.born/\cz w S x.1 e.key/\cz w S x.2 e.val
def s7.mono{w w':bb}{S S':Nat->Prop}{bs:List Nat}{es:List (aG×aG)}{ents:List MapEntry}(h:s7 w S bs es ents)(bS:∀b,S b->S' b)
  (ad:∀b,S b->w'.heap[b]?=w.heap[b]?):s7 w' S' bs es ents:=
 ⟨h.1,h.2.1,fun j x ac=>let ⟨e,aa,ab,au,aN⟩:=h.2.2 j x ac;⟨e,aa,ab,au.mono bS ad,aN.mono bS ad⟩⟩
def bl:ae->aI->Option Nat
 |.box _,.pointer (some a)=>some a.block
 |.own _ _ _,v=>v.ownBlock
 |.mp _ _ _,.map (some b)=>some b
 |.cR b _,_=>some b
 |.db v _ _ _,_=>v.ownBlock
 |.gL b _ _ _,_=>some b
 |_,_=>none
def ae.aR:ae->Bool
 |.box _=>true
 |.own _ _ _=>true
 |.mp _ _ _=>true
 |.cR _ _=>true
 |.db _ _ _ _=>true
 |.gL _ _ _ _=>true
 |_=>false
def ae.valOf:ae->aI->aI
 |.db v _ _ _,_=>v
 |.gL b _ _ _,_=>.map (some b)
 |_,u=>u
def ae.gk:ae->Option (List ag)
 |.box cs=>some cs
 |.cR _ cs=>some cs
 |_=>none
def ae.o0{a:ae}{cs:List ag}(h:a.gk=some cs):a.aR=true:=by cases a<;>first|rfl|cases h
def ae.size:ae->Nat
 |.own _ size _=>size
 |.db _ _ size _=>size
 |_=>0
def ae.len:ae->Nat
 |.own _ _ xs=>xs.length
 |.db _ _ _ xs=>xs.length
 |_=>0
def l5(d:Nat):ag⊕(Nat×Nat)->Bool
 |.inl _=>false
 |.inr p=>p.1==d
def ae.refs(d:Nat):ae->Bool
 |.ptr s _=>s==d
 |.fy s _ _=>s==d
 |.alias s=>s==d
 |.view s _ _ _=>s==d
 |.df _ caps=>caps.any (l5 d)
 |.cond _ v=>v.refs d
 |.link s _ t=>s==d ||t==d
 |.et s _=>s==d
 |_=>false
def ks{a:ae}{v:aI}(h:a.aR=false):bl a v=none:=by cases a<;>first|rfl|(simp[ae.aR]at h)
def ae.jq(d:Nat):ae->Bool
 |.ptr s _=>s==d
 |.fy s _ _=>s==d
 |.alias s=>s==d
 |.view s _ _ _=>s==d
 |.df _ caps=>caps.any (l5 d)
 |.cond e v=>e&&v.jq d
 |.link s _ t=>s==d ||t==d
 |.et s _=>s==d
 |_=>false
def ae.free:ae->Bool
 |.dead=>true
 |.link _ _ _=>true
 |.res _=>true
 |_=>false
def yY{a:ae}(h:a.free=true):a.aR=false:=by cases a<;>first|rfl|cases h
def ae.apart:ae->Bool
 |.dead=>true
 |.link _ _ _=>true
 |.res _=>true
 |.db _ _ _ _=>true
 |.gL _ _ _ _=>true
 |_=>false
def Up{a:ae}(h:a.apart=true)(aB:a.aR=true):(∃v e z xs,a=.db v e z xs)\/∃b c bs es,a=.gL b c bs es:=by cases a<;>first|exact .inl ⟨_,_,_,_,rfl⟩|exact .inr ⟨_,_,_,_,rfl⟩|(cases aB;done)|(cases h;done)
def ae.o1:ae->Nat->Nat->Nat->Prop
 |.link i off d,bL,Dh,bG=>i=bL/\off=Dh/\d=bG
 |.cond e v,bL,Dh,bG=>e=true/\v.o1 bL Dh bG
 |_,_,_,_=>False
def ae.pH{i off d:Nat}:∀{a:ae},a.o1 i off d->a.refs i=true/\a.refs d=true
 |.link _ _ _,⟨rfl,rfl,rfl⟩=>by simp[ae.refs]
 |.cond _ v,h=>by have:=ae.pH (a:=v) h.2;exact this
def ae.qL{d:Nat}:∀{a:ae},a.jq d=true->a.refs d=true
 |.ptr _ _,h=>h
 |.fy _ _ _,h=>h
 |.alias _,h=>h
 |.view _ _ _ _,h=>h
 |.df _ _,h=>h
 |.link _ _ _,h=>h
 |.et _ _,h=>h
 |.cond e v,h=>by simp only[ae.jq,b7]at h;exact ae.qL (a:=v) h.2
def np{a:ae}{d:Nat}(h:a.refs d=true):a.aR=false:=by cases a<;>simp_all [ae.refs,ae.aR]
def yZ(w:bb)(S:Nat->Prop)(s:aj)(tm:Nat->aI)(i off:Nat)(u:aI):Prop:=
 ∃fa b:Nat,u=.pointer (some ⟨fa,0,none⟩)/\S fa/\w.cell? ⟨fa,0,none⟩=some (.pointer (some ⟨b,off,none⟩))/\bl (s i) (tm i)=some b
def yZ.mono{w w':bb}{S S':Nat->Prop}{s s':aj}{tm tm':Nat->aI}{i off:Nat}{u:aI}(h:yZ w S s tm i off u)(bS:∀b,S b->S' b)(ad:∀b,S b->w'.heap[b]?=w.heap[b]?)(ak:∀b,bl (s i) (tm i)=some b->bl (s' i) (tm' i)=some b):yZ w' S' s' tm' i off u:=by obtain⟨fa,b,rfl,aa,ab,au⟩:=h;exact⟨fa,b,rfl,bS _ aa,by rw[World.cell?_of_block (w:=w) (w':=w') (ad _ aa)];exact ab,ak _ au⟩
def xh(w:bb)(S:Nat->Prop)(s:aj)(tm:Nat->aI):ag⊕(Nat×Nat)->aI->Prop
 |.inl c,u=>bD w S c u
 |.inr p,u=>if p.2<1000000 then ∃b,u=.pointer (some ⟨b,p.2,none⟩)/\bl (s p.1) (tm p.1)=some b else yZ w S s tm p.1 (p.2-1000000) u
def s8(w:bb)(S:Nat->Prop)(s:aj)(tm:Nat->aI)(p:Nat×Nat)(u:aI):xh w S s tm (.inr p) u=if p.2<1000000 then ∃b,u=.pointer (some ⟨b,p.2,none⟩)/\bl (s p.1) (tm p.1)=some b else yZ w S s tm p.1 (p.2-1000000) u:=rfl
def dp(w:bb)(S:Nat->Prop)(B:Nat->Prop)(s:aj)(tm:Nat->aI):ae->aI->Prop
 |.dead,_=>True
 |.x bP,v=>cz w S bP v
 |.b2 vs,v=>∃us:Array aI,v=.tuple us/\us.size=vs.length/\∀(j:Nat) (x:aG),vs[j]?=some x->∃u,us[j]?=some u/\cz w S x u
 |.box cs,v=>∃(b:Nat) (b3:Array aI) (t:aP),v=.pointer (some ⟨b,0,none⟩)/\w.heap[b]?=some (.cells b3 t (0,0))/\cO w S cs b3.toList/\B b
 |.ptr i off,v=>∃b,v=.pointer (some ⟨b,off,none⟩)/\bl (s i) (tm i)=some b
 |.fy i k off,v=>∃b,v=.pointer (some ⟨b,k*(s i).size+off,none⟩)/\bl (s i) (tm i)=some b
 |.elem cs,v=>∃b':Addr,v=.pointer (some b')/\b'.spot=none/\S b'.block/\∀(j:Nat) (c:ag),cs[j]?=some c->∃u,w.cell? (b'.add j)=some u/\bD w S c u
 |.own e size xs,v=>∃us:List aI,w.iM 0 e size v xs.length us/\cO w S xs.flatten us/\(∀x∈xs,x.length=size)/\xs.length<=maxLen/\∀b,v.ownBlock=some b->B b
 |.alias i,v=>v=(s i).valOf (tm i)/\(s i).aR=true
 |.mp c bs es,v=>∃(b:Nat) (ents:Array MapEntry),v=.map (some b)/\w.heap[b]?=some (.map ents c)/\B b/\s7 w S bs es ents.toList
 |.view i aO len wh,v=>(s i).aR=true/\aO+len<=(s i).len/\((v=.slice none 0 0/\len=0)\/∃b off cap,v=.slice (some ⟨b,off,none⟩) len cap/\len<=cap/\cap<=maxLen/\bl (s i) (tm i)=some b/\(0<len->off=aO*(s i).size)/\(wh=true->aO=0/\∃l,(s i).valOf (tm i)=.slice (some ⟨b,off,none⟩) l cap))
 |.df f caps,v=>∃us:Array aI,v=.func (.func f) #[] us/\us.size=caps.length/\∀(j:Nat) (c:ag⊕(Nat×Nat)),caps[j]?=some c->∃u,us[j]?=some u/\xh w S s tm c u
 |.cond e a,v=>a.aR=false/\if e then dp w S B s tm a v else v=undef
 |.link i off d,_=>(s d).aR=true/\∃cs b,(s i).gk=some cs/\cs[off]?=some .any/\bl (s i) (tm i)=some b/\w.cell? ⟨b,off,none⟩=some ((s d).valOf (tm d))
 |.res _,_=>True
 |.et i off,v=>yZ w S s tm i off v
 |.cR b cs,_=>∃(b3:Array aI) (t:aP),w.heap[b]?=some (.cells b3 t (0,0))/\cO w S cs b3.toList/\B b
 |.db v e size xs,_=>∃us:List aI,w.iM 0 e size v xs.length us/\cO w S xs.flatten us/\(∀x∈xs,x.length=size)/\xs.length<=maxLen/\∀b,v.ownBlock=some b->B b
 |.gL b c bs es,_=>∃ents:Array MapEntry,w.heap[b]?=some (.map ents c)/\B b/\s7 w S bs es ents.toList
structure Env where
 rd:Nat->Prop
 fb:Nat->Prop
 m:Nat
 val:Nat->aI
abbrev nq(S0:Env)(B:Nat):Nat->Prop:=fun b=>B<=b\/S0.fb b
def bO(S0:Env)(B:Nat)(w:bb)(s:aj)(tm:Nat->aI):Nat->Prop:=
 fun b=>(S0.rd b\/nq S0 B b)/\b<w.heap.size/\∀i,bl (s i) (tm i)≠some b
abbrev aL(a:Act):Nat->aI:=fun i=>a.tmps.getD i undef
class bn where
 holds:bb->Prop
 at_:Nat->Prop
 lt:∀{w:bb} {b:Nat},holds w->at_ b->b<w.heap.size
 Uq:∀{w w':bb},holds w->w.heap.size<=w'.heap.size->(∀b,at_ b->w'.heap[b]?=w.heap[b]?)->holds w'
@[reducible]def bn.none:bn:=⟨fun _=>True,fun _=>False,fun _ h=>h.elim,fun _ _ _=>trivial⟩
variable [bn]
structure pI(S0:Env)(w0:bb):Prop where
 rd:∀b,S0.rd b->b<w0.heap.size
 fb:∀b,S0.fb b->b<w0.heap.size
 apart:∀b,S0.rd b->¬S0.fb b
 xi:bn.holds w0
 y0:∀b,bn.at_ b->¬S0.fb b
structure Kept(L:Nat->Prop)(w w':bb):Prop where
 os:w'.os=w.os
 tape:w'.tape=w.tape
 output:w'.output=w.output
 size:w.heap.size<=w'.heap.size
 block:∀k,k<w.heap.size->¬L k->w'.heap[k]?=w.heap[k]?
def Kept.refl(L:Nat->Prop)(w:bb):Kept L w w:=⟨rfl,rfl,rfl,f_ _,fun _ _ _=>rfl⟩
def Kept.below{L:Nat->Prop}{w w':bb}(h:Kept L w w')(l6:∀b,¬L b):Below w.heap.size w w':=⟨h.os,h.tape,h.output,h.size,fun k ak=>h.block k ak (l6 k)⟩
def Kept.grown{L:Nat->Prop}{a w w':bb}{row:Option Nat}(h:Kept L a w)(ay:w.grownBy w' row)(ao:∀k,row=some k->a.heap.size<=k\/L k):Kept L a w':=
 ⟨ay.os.trans h.os,ay.tape.trans h.tape,ay.output.trans h.output,jc h.size ay.size,fun k ak aX=>by rw[ay.block k (s9 ak h.size) (fun e=>by rcases ao k e.symm with aa|aa;omega;exact aX aa)];exact h.block k ak aX⟩
def Kept.drew{L:Nat->Prop}{a w:bb}(h:Kept L a w)(n:Nat):Kept L a {w with drawn:=n}:=⟨h.os,h.tape,h.output,h.size,h.block⟩
def pI.AO{S0:Env}{w0 w:bb}(h:pI S0 w0)(k:Kept S0.fb w0 w):bn.holds w:=bn.Uq h.xi k.size (fun b ad=>k.block b (bn.lt h.xi ad) (h.y0 b ad))
structure Rel(S0:Env)(w0:bb)(n:Nat)(s:aj)(a:Act)(w:bb):Prop where
 defers:a.defers=[]
 size:a.tmps.size=n
 below:Kept S0.fb w0 w
 lt:pI S0 w0
 rep:∀i,dp w (bO S0 w0.heap.size w s (aL a)) (nq S0 w0.heap.size) s (aL a) (s i) (aL a i)
 inj:∀i j b,bl (s i) (aL a i)=some b->bl (s j) (aL a j)=some b->i=j
 out:∀i,n<=i->(s i).apart=true
 wf:∀i j,(s i).refs j=true->(s j).aR=true
 n6:∀j,j<S0.m->aL a j=S0.val j
def put(s:aj)(d:Nat)(v:ae):aj:=
 match (s d).aR with
 |true=>fun i=>if i=d then (match v.refs d with|true=>.dead|false=>v)else if (s i).refs d then .dead else s i
 |false=>fun i=>if i=d then (match v.refs d with|true=>.dead|false=>v)else s i
def jR{s:aj}{d:Nat}{v:ae}(h:v.refs d=false):put s d v d=v:=by unfold put;cases (s d).aR<;>simp[h]
def N4{s:aj}{d:Nat}{v:ae}(h:v.refs d=true):put s d v d=.dead:=by unfold put;cases (s d).aR<;>simp[h]
def qM{s:aj}{d i:Nat}{v:ae}(h:i≠d):put s d v i=s i\/((s d).aR=true/\(s i).refs d=true/\put s d v i=.dead):=by
 unfold put;cases aB:(s d).aR
 ·exact .inl (by simp[h])
 ·by_cases ao:(s i).refs d=true
  ·exact .inr ⟨rfl,ao,by simp[h,ao]⟩
  ·exact .inl (by simp[h,ao])
def Di{s:aj}{d i:Nat}{v:ae}(h:i≠d)(aB:(s d).aR=true)(ao:(s i).refs d=true):put s d v i=.dead:=by unfold put;rw[aB];simp[h,ao]
def Dj{s:aj}{d i:Nat}{v:ae}(h:i≠d)(ao:(s i).refs d=false):put s d v i=s i:=by
 rcases qM (v:=v) h with h|⟨_,h,_⟩
 ·exact h
 ·rw[ao]at h;cases h
def o2{s:aj}{d i:Nat}{v:ae}(h:i≠d)(ao:(s i).aR=true):put s d v i=s i:=by
 rcases qM (v:=v) h with h|⟨_,h,_⟩
 ·exact h
 ·rw[np h]at ao;cases ao
def fT{s:aj}{d:Nat}{v:ae}(h:∀i j,(s i).refs j=true->(s j).aR=true)(aF:∀j,v.refs j=true->(s j).aR=true) :
  ∀i j,(put s d v i).refs j=true->(put s d v j).aR=true:=by
 intro i j cV;by_cases ah:i=d
 ·subst ah;cases ao:v.refs i with
  |true=>rw[N4 ao]at cV;cases cV
  |false=>
   rw[jR ao]at cV;have fU:j≠i:=by rintro rfl;rw[cV]at ao;cases ao
   rw[o2 fU (aF j cV)];exact aF j cV
 ·rcases qM (s:=s) (v:=v) ah with e|⟨_,_,e⟩
  ·rw[e]at cV;have nr:=h i j cV;by_cases l7:j=d
   ·subst l7;rw[Di ah nr cV]at e;rw[<-e]at cV;cases cV
   ·rw[o2 l7 nr];exact nr
  ·rw[e]at cV;cases cV
def xj(a:Act)(d:Nat)(v:aI)(aA:d<a.tmps.size)(i:Nat):aL (a.put (some d) v) i=if i=d then v else aL a i:=by
 simp only[aL,Act.put,s_];by_cases h:i=d
 ·subst h;simp[aA]
 ·rw[N5 (by omega)];simp[h]
def block_add(a:Addr)(n:Nat):(a.add n).block=a.block:=by unfold Addr.add;split<;>rfl
def dp.mono{w w':bb}{S S':Nat->Prop}{B:Nat->Prop}{s s':aj}{tm tm':Nat->aI}{a:ae}{v:aI}
  (h:dp w S B s tm a v)(bS:∀b,S b->S' b)(ad:∀b,S b->w'.heap[b]?=w.heap[b]?)
  (aB:∀b,bl a v=some b->w'.heap[b]?=w.heap[b]?)
  (ao:∀i,a.jq i=true->tm' i=tm i/\((s i).aR=true->(s' i).aR=true/\(s' i).size=(s i).size/\(s' i).len=(s i).len/\(s' i).valOf=(s i).valOf)/\(∀b,bl (s i) (tm i)=some b->bl (s' i) (tm i)=some b))
  (ak:∀i off d cs b,a.o1 i off d->(s i).gk=some cs->bl (s i) (tm i)=some b->(∃cs',(s' i).gk=some cs'/\cs'[off]?=cs[off]?)/\w'.cell? ⟨b,off,none⟩=w.cell? ⟨b,off,none⟩:=by intro _ _ _ _ _ h;exact h.elim):dp w' S' B s' tm' a v:=by
 induction a with
 |dead=>trivial
 |res l=>trivial
 |link i off d=>obtain⟨aB,cs,b,hs,ap,ad,aF⟩:=h;obtain⟨aa,_,ab⟩:=ao i (by simp[ae.jq]);obtain⟨au,aN,_⟩:=ao d (by simp[ae.jq]);obtain⟨⟨cs',aE,aQ⟩,bf⟩:=ak i off d cs b ⟨rfl,rfl,rfl⟩ hs ad;exact⟨(aN aB).1,cs',b,aE,by rw[aQ];exact ap,by rw[aa];exact ab b ad,by rw[bf,au,(aN aB).2.2.2];exact aF⟩
 |x bP=>exact cz.mono h bS ad
 |b2 vs=>obtain⟨us,aF,al,ai⟩:=h;exact⟨us,aF,al,fun j x ac=>let ⟨u,hu,ao⟩:=ai j x ac;⟨u,hu,ao.mono bS ad⟩⟩
 |box cs=>obtain⟨b,b3,t,rfl,bo,al,bk⟩:=h;exact⟨b,b3,t,rfl,by rw[aB b rfl];exact bo,al.mono bS ad,bk⟩
 |ptr i off=>obtain⟨b,rfl,ak⟩:=h;obtain⟨aa,_,ab⟩:=ao i (by simp[ae.jq]);exact⟨b,rfl,by rw[aa];exact ab b ak⟩
 |fy i k off=>
  obtain⟨b,rfl,ak⟩:=h;obtain⟨aa,au,ab⟩:=ao i (by simp[ae.jq]);have aB:(s i).aR=true:=by
   cases aB:(s i).aR with
   |true=>rfl
   |false=>rw[ks aB]at ak;cases ak
  exact⟨b,by rw[(au aB).2.1],by rw[aa];exact ab b ak⟩
 |elem cs=>obtain⟨b',rfl,dW,JS,ap⟩:=h;refine⟨b',rfl,dW,bS _ JS,fun j c ac=>?_⟩;obtain⟨u,hu,kc⟩:=ap j c ac;exact⟨u,by rw[World.cell?_of_block (w:=w) (w':=w') (by rw[block_add];exact ad _ JS)];exact hu,kc.mono bS ad⟩
 |own e size xs=>
  obtain⟨us,bB,al,ai,hm,bk⟩:=h;refine⟨us,⟨bB.1,?_⟩,al.mono bS ad,ai,hm,bk⟩;rcases bB.2 with aX|⟨g,cap,bN,rfl,oZ,bo,rest⟩
  ·exact .inl aX
  ·exact .inr ⟨g,cap,bN,rfl,oZ,by rw[aB g rfl];exact bo,rest⟩
 |mp c bs es=>obtain⟨b,ents,rfl,bo,bk,he⟩:=h;exact⟨b,ents,rfl,by rw[aB b rfl];exact bo,bk,he.mono bS ad⟩
 |alias i=>obtain⟨aF,bB⟩:=h;obtain⟨aa,ab,_⟩:=ao i (by simp[ae.jq]);exact⟨by rw[aa,(ab bB).2.2.2];exact aF,(ab bB).1⟩
 |view i aO len wh=>
  obtain⟨bB,cG,aF⟩:=h;obtain⟨aa,ab,au⟩:=ao i (by simp[ae.jq]);obtain⟨aE,aQ,bf,bM⟩:=ab bB;refine⟨aE,by rw[bf];exact cG,?_⟩;rcases aF with aF|⟨b,off,cap,aF,ap,hm,ak,aZ,hw⟩
  ·exact .inl aF
  ·exact .inr ⟨b,off,cap,aF,ap,hm,by rw[aa];exact au b ak,by rw[aQ];exact aZ,by rw[aa,bM];exact hw⟩
 |df f caps=>
  obtain⟨us,aF,al,ai⟩:=h;refine⟨us,aF,al,fun j c ac=>?_⟩;obtain⟨u,hu,ap⟩:=ai j c ac;refine⟨u,hu,?_⟩;cases c with
  |inl c=>exact bD.mono ap bS ad
  |inr p=>
   obtain⟨aa,_,au⟩:=ao p.1 (by simp only[ae.jq];exact AP.2 ⟨_,kt ac,by simp[l5]⟩)
   rw[s8]at ap⊢;split at ap
   ·rename_i ah;rw[av ah];obtain⟨b,am,ak⟩:=ap;exact⟨b,am,by rw[aa];exact au b ak⟩
   ·rename_i ah;rw[an ah];exact ap.mono bS ad (fun b ak=>by rw[aa];exact au b ak)
 |et i off=>obtain⟨aa,_,ab⟩:=ao i (by simp[ae.jq]);exact yZ.mono h bS ad (fun b ak=>by rw[aa];exact ab b ak)
 |cR b cs=>obtain⟨b3,t,bo,al,bk⟩:=h;exact⟨b3,t,by rw[aB b rfl];exact bo,al.mono bS ad,bk⟩
 |db u e size xs=>
  obtain⟨us,bB,al,ai,hm,bk⟩:=h;refine⟨us,⟨bB.1,?_⟩,al.mono bS ad,ai,hm,bk⟩;rcases bB.2 with aX|⟨g,cap,bN,rfl,oZ,bo,rest⟩
  ·exact .inl aX
  ·exact .inr ⟨g,cap,bN,rfl,oZ,by rw[aB g rfl];exact bo,rest⟩
 |gL b c bs es=>obtain⟨ents,bo,bk,he⟩:=h;exact⟨ents,by rw[aB b rfl];exact bo,bk,he.mono bS ad⟩
 |cond e a ba=>
  obtain⟨aX,h⟩:=h;refine⟨aX,?_⟩;cases e with
  |false=>exact h
  |true=>exact ba h (fun b Dk=>by rw[ks aX]at Dk;cases Dk) (fun i ah=>ao i (by simp[ae.jq,ah])) (fun i off d cs b al=>ak i off d cs b ⟨rfl,al⟩)
def dp.Gm{w:bb}{S:Nat->Prop}{B:Nat->Prop}{s:aj}{tm:Nat->aI}{i off d:Nat}:∀{a:ae} {v:aI},dp w S B s tm a v->a.o1 i off d ->
  (s d).aR=true/\∃cs b,(s i).gk=some cs/\cs[off]?=some .any/\bl (s i) (tm i)=some b/\w.cell? ⟨b,off,none⟩=some ((s d).valOf (tm d))
 |.link _ _ _,_,h,⟨rfl,rfl,rfl⟩=>h
 |.cond e a,v,h,⟨he,al⟩=>by subst he;exact dp.Gm (a:=a) h.2 al
def dp.y1{w:bb}{S:Nat->Prop}{B:Nat->Prop}{s:aj}{tm:Nat->aI}{j e z:Nat}{xs:List (List ag)}{v:aI}(h:dp w S B s tm (.alias j) v)(hs:s j=.own e z xs):v=tm j/\(s j).aR=true:=by obtain⟨aa,ab⟩:=h;rw[hs]at aa;exact⟨aa,ab⟩
def dp.JT{w:bb}{S:Nat->Prop}{B:Nat->Prop}{s:aj}{tm:Nat->aI}{j c:Nat}{bs:List Nat}{es:List (aG×aG)}{v:aI}(h:dp w S B s tm (.alias j) v)(hs:s j=.mp c bs es):v=tm j/\(s j).aR=true:=by obtain⟨aa,ab⟩:=h;rw[hs]at aa;exact⟨aa,ab⟩
def dp.leads{w:bb}{S:Nat->Prop}{B:Nat->Prop}{s:aj}{tm:Nat->aI}{d:Nat}{a:ae}{v:aI}
  (h:dp w S B s tm a v)(ao:a.jq d=true):(s d).aR=true:=by
 induction a with
 |ptr i off=>
  obtain⟨b,rfl,ak⟩:=h;obtain rfl:i=d:=by simpa[ae.jq]using ao
  cases ah:(s i).aR with
  |true=>rfl
  |false=>rw[ks ah]at ak;cases ak
 |fy i k off=>
  obtain⟨b,rfl,ak⟩:=h;obtain rfl:i=d:=by simpa[ae.jq]using ao
  cases ah:(s i).aR with
  |true=>rfl
  |false=>rw[ks ah]at ak;cases ak
 |alias i=>
  obtain rfl:i=d:=by simpa[ae.jq]using ao
  exact h.2
 |view i aO len wh=>
  obtain rfl:i=d:=by simpa[ae.jq]using ao
  exact h.1
 |df f caps=>
  obtain⟨us,aF,al,ai⟩:=h;simp only[ae.jq]at ao;obtain⟨c,ap,aA⟩:=AP.1 ao;cases c with
  |inl c=>cases aA
  |inr p=>
   obtain rfl:p.1=d:=by simpa[l5]using aA
   obtain⟨j,ac⟩:=mG ap;obtain⟨u,hu,ak⟩:=ai j _ ac;have:∃b,bl (s p.1) (tm p.1)=some b:=by
    rw[s8]at ak;split at ak
    ·obtain⟨b,_,ak⟩:=ak;exact⟨b,ak⟩
    ·obtain⟨_,b,_,_,_,ak⟩:=ak;exact⟨b,ak⟩
   obtain⟨b,ak⟩:=this;cases ah:(s p.1).aR with
   |true=>rfl
   |false=>rw[ks ah]at ak;cases ak
 |et i off=>
  obtain⟨_,b,_,_,_,ak⟩:=h;obtain rfl:i=d:=by simpa[ae.jq]using ao
  cases ah:(s i).aR with
  |true=>rfl
  |false=>rw[ks ah]at ak;cases ak
 |cond e a ba=>simp only[ae.jq,b7]at ao;obtain⟨rfl,ao⟩:=ao;exact ba h.2 ao
 |link i off t=>
  obtain⟨aB,cs,b,hs,_⟩:=h;simp only[ae.jq,gl,fc]at ao;rcases ao with rfl|rfl
  ·exact ae.o0 hs
  ·exact aB
 |_=>simp[ae.jq]at ao
def dp.gU{w:bb}{S:Nat->Prop}{B:Nat->Prop}{s:aj}{tm:Nat->aI}{a:ae}{v:aI}{b:Nat}
  (h:dp w S B s tm a v)(ad:bl a v=some b):B b/\b<w.heap.size:=by
 cases a with
 |box cs=>
  obtain⟨br,b3,t,rfl,bo,al,bk⟩:=h;obtain rfl:br=b:=by simpa[bl]using ad
  exact⟨bk,(jb.1 bo).1⟩
 |own e size xs=>obtain⟨us,bB,_,_,_,bk⟩:=h;exact⟨bk b ad,(bB.lt b ad).2⟩
 |mp c bs es=>
  obtain⟨br,ents,rfl,bo,bk,he⟩:=h;obtain rfl:br=b:=by simpa[bl]using ad
  exact⟨bk,(jb.1 bo).1⟩
 |cR br cs=>
  obtain⟨b3,t,bo,al,bk⟩:=h;obtain rfl:br=b:=by simpa[bl]using ad
  exact⟨bk,(jb.1 bo).1⟩
 |db u e size xs=>obtain⟨us,bB,_,_,_,bk⟩:=h;exact⟨bk b ad,(bB.lt b ad).2⟩
 |gL br c bs es=>
  obtain⟨ents,bo,bk,he⟩:=h;obtain rfl:br=b:=by simpa[bl]using ad
  exact⟨bk,(jb.1 bo).1⟩
 |_=>simp[bl]at ad
def Ur{s:aj}{d i:Nat}{v:ae}{u:aI}{b:Nat}(h:i≠d)(ad:bl (put s d v i) u=some b):bl (s i) u=some b:=by
 rcases qM (s:=s) (v:=v) h with bx|⟨_,_,bx⟩
 ·rw[bx]at ad;exact ad
 ·rw[bx]at ad;cases ad
def Rel.put{S0:Env}{w0 w w':bb}{n:Nat}{s:aj}{a:Act}{d:Nat}{r:ae}{v:aI}
  (af:Rel S0 w0 n s a w)(aA:S0.m<=d/\d<n)(ay:w.grownBy w' none)(l8:∀j,r.refs j=true->(s j).aR=true)
  (ao:dp w' (bO S0 w0.heap.size w' s (aL a)) (nq S0 w0.heap.size) s (aL a) r v)
  (aw:∀b,bl r v=some b->w.heap.size<=b)
  (zcU:∀b,bl r v=some b->dp w' (fun br=>bO S0 w0.heap.size w' s (aL a) br/\br≠b) (nq S0 w0.heap.size) s (aL a) r v):Rel S0 w0 n (put s d r) (a.put (some d) v) w':=by
 have lA:d<a.tmps.size:=by rw[af.size];exact aA.2
 have iw:=xj a d v lA;have pJ:∀i,i≠d->aL (a.put (some d) v) i=aL a i:=fun i ah=>by rw[iw,an ah]
 have y2:aL (a.put (some d) v) d=v:=by rw[iw,av rfl]
 have cv:∀i b,bl (Ab.put s d r i) (aL (a.put (some d) v) i)=some b->(i=d/\bl r v=some b)\/(i≠d/\bl (s i) (aL a i)=some b):=by
  intro i b ad;by_cases ah:i=d
  ·subst ah;rw[y2]at ad;cases kc:r.refs i with
   |true=>rw[N4 kc]at ad;cases ad
   |false=>rw[jR kc]at ad;exact .inl ⟨rfl,ad⟩
  ·rw[pJ i ah]at ad;exact .inr ⟨ah,Ur ah ad⟩
 have hold:∀b,bO S0 w0.heap.size w s (aL a) b->w'.heap[b]?=w.heap[b]?:=fun b ad=>ay.block b ad.2.1 (by simp);have dg:∀b,bO S0 w0.heap.size w s (aL a) b->bO S0 w0.heap.size w' (Ab.put s d r) (aL (a.put (some d) v)) b:=by
  intro b ⟨aa,ab,au⟩;refine⟨aa,s9 ab ay.size,fun i ah=>?_⟩;rcases cv i b ah with⟨_,h⟩|⟨_,h⟩
  ·have:=aw b h;omega
  ·exact au i h
 have rR:∀i,i≠d->((s i).aR=true->(Ab.put s d r i).aR=true/\(Ab.put s d r i).size=(s i).size/\(Ab.put s d r i).len=(s i).len/\(Ab.put s d r i).valOf=(s i).valOf)/\(∀b,bl (s i) (aL a i)=some b->bl (Ab.put s d r i) (aL a i)=some b):=by
  intro i ah;refine⟨fun aB=>by rw[o2 ah aB];exact⟨aB,rfl,rfl,rfl⟩,fun b ad=>?_⟩;have aB:(s i).aR=true:=by
   cases aB:(s i).aR with
   |true=>rfl
   |false=>rw[ks aB]at ad;cases ad
  rw[o2 ah aB];exact ad
 refine⟨?_,?_,?_,af.lt,?_,?_,?_,?_,fun j ac=>by rw[pJ j (by omega)];exact af.n6 j ac⟩
 ·exact af.defers
 ·simp[Act.put,af.size]
 ·exact af.below.grown ay (by simp)
 ·intro i;by_cases ah:i=d
  ·subst ah;rw[y2];cases kc:r.refs i with
   |true=>rw[N4 kc];trivial
   |false=>
    rw[jR kc];have Gn:∀j,r.jq j=true->aL (a.put (some i) v) j=aL a j/\((s j).aR=true->(Ab.put s i r j).aR=true/\(Ab.put s i r j).size=(s j).size/\(Ab.put s i r j).len=(s j).len/\(Ab.put s i r j).valOf=(s j).valOf)/\(∀b,bl (s j) (aL a j)=some b->bl (Ab.put s i r j) (aL a j)=some b):=by
     intro j ac;have fU:j≠i:=by rintro rfl;rw[ae.qL ac]at kc;cases kc
     exact⟨pJ j fU,rR j fU⟩
    have f':∀bL off bG cs b,r.o1 bL off bG->(s bL).gk=some cs->bl (s bL) (aL a bL)=some b->(∃cs',(Ab.put s i r bL).gk=some cs'/\cs'[off]?=cs[off]?)/\w'.cell? ⟨b,off,none⟩=w'.cell? ⟨b,off,none⟩:=by
     intro bL off bG cs b al cT _;have fU:bL≠i:=by rintro rfl;rw[(ae.pH al).1]at kc;cases kc
     exact⟨⟨cs,by rw[o2 fU (ae.o0 cT)];exact cT,rfl⟩,rfl⟩
    cases jp:bl r v with
    |none=>
     refine ao.mono (fun b ⟨aa,ab,au⟩=>⟨aa,ab,fun j ac=>?_⟩) (fun _ _=>rfl) (fun _ _=>rfl) Gn f';rcases cv j b ac with⟨_,h⟩|⟨_,h⟩
     ·rw[jp]at h;cases h
     ·exact au j h
    |some N6=>
     refine(zcU N6 jp).mono (fun b ⟨⟨aa,ab,au⟩,aN⟩=>⟨aa,ab,fun j ac=>?_⟩) (fun _ _=>rfl) (fun _ _=>rfl) Gn f';rcases cv j b ac with⟨_,h⟩|⟨_,h⟩
     ·rw[jp]at h;exact aN (by injection h with h;exact h.symm)
     ·exact au j h
  ·rw[pJ i ah];rcases qM (s:=s) (v:=r) ah with am|⟨_,_,am⟩
   ·rw[am];refine(af.rep i).mono dg hold (fun b ad=>ay.block b ((af.rep i).gU ad).2 (by simp)) (fun j ac=>?_) (fun bL off bG cs b al cT cm=>?_);rotate_left
    ·have hid:bL≠d:=by
      rintro rfl;have aB:(s bL).aR=true:=ae.o0 cT;have ak:=Di (s:=s) (v:=r) ah aB (ae.pH al).1;rw[ak]at am;rw[<-am]at al;exact al.elim
     exact⟨⟨cs,by rw[o2 hid (ae.o0 cT)];exact cT,rfl⟩,World.cell?_of_block (ay.block b ((af.rep bL).gU cm).2 (by simp))⟩
    by_cases l7:j=d
    ·subst l7;have aB:=(af.rep i).leads ac;rcases qM (s:=s) (v:=r) ah with jr|⟨_,_,jr⟩
     ·-- it zsy not zsz,zsA it leads to Dl owner d: zsB be
      exfalso;have:Ab.put s j r i=.dead:=by unfold Ab.put;rw[aB];simp[ah,ae.qL ac]
      rw[jr]at this;rw[this]at ac;simp[ae.jq]at ac
     ·rw[am]at jr;rw[jr]at ac;simp[ae.jq]at ac
    ·exact⟨pJ j l7,rR j l7⟩
   ·rw[am];trivial
 ·intro i j b l9 Gp;rcases cv i b l9 with⟨ah,aa⟩|⟨ah,aa⟩<;>rcases cv j b Gp with⟨ac,ab⟩|⟨ac,ab⟩
  ·rw[ah,ac]
  ·have:=aw b aa;have:=((af.rep j).gU ab).2;omega
  ·have:=aw b ab;have:=((af.rep i).gU aa).2;omega
  ·exact af.inj i j b aa ab
 ·intro i ah;have hid:i≠d:=by omega
  rcases qM (s:=s) (v:=r) hid with am|⟨_,_,am⟩
  ·rw[am];exact af.out i ah
  ·rw[am];rfl
 ·exact fT af.wf l8
end
section
variable [bn]
inductive cf where
 |one
 |agg (n:Nat)
 |bad
def tk(P:aM)(t:aP):cf:=
 match P.underlying t,P.info? t with
 |some (.struct _),some i=>.agg i.size
 |some (.array _ _),some i=>.agg i.size
 |some (.struct _),none=>.bad
 |some (.array _ _),none=>.bad
 |some _,_=>.one
 |none,_=>.bad
def fieldAt(P:aM)(t:aP)(f:Nat):Option (Nat×cf):=
 match P.underlying t with
 |some (.struct ez)=>match ez[f]? with
  |some fd=>match P.info? fd.type with
   |some i=>if i.size=0 then none else some (fd.offset,tk P fd.type)
   |none=>none
  |none=>none
 |_=>none
def gM(P:aM)(t:aP):Option (aP×Nat):=
 match P.underlying t with
 |some (.slice e)=>match P.info? e with
  |some i=>if i.size=0 then none else some (e,i.size)
  |none=>none
 |_=>none
def k1(P:aM)(t:aP):Bool:=
 match P.underlying t with
 |some .string=>true
 |_=>false
def vJ:aI->ag
 |.bool b=>.bool b
 |.int k n=>.int k n
 |.string s=>.str s.data.toList
 |.slice none 0 0=>.nil
 |v=>.atom v
def vK:aI->Bool
 |.string s=>decide (s.data.toList.length<=maxLen)
 |.agg _=>false
 |.tuple _=>false
 |_=>true
def vL(v:aI):ae:=
 match v with
 |.agg us=>if us.toList.all vK then .x (.agg (us.toList.map vJ))else .dead
 |.tuple _=>.dead
 |v=>if vK v then .x (.one (vJ v))else .dead
def Gq{w:bb}{S:Nat->Prop}{v:aI}(h:vK v=true):bD w S (vJ v) v:=by
 unfold vJ;split
 ·exact .bool _
 ·exact .int _ _
 ·rename_i s;have al:s.data.toList.length<=maxLen:=vM h;have e:s=⟨s.data.toList.toArray⟩:=by cases s;simp
  have:=bD.str (w:=w) (S:=S) s.data.toList al;rw[<-e]at this;exact this
 ·exact .nil
 ·refine .atom _ ?_;revert h;cases v<;>simp[vK,Value.oneCell']
def look(s:aj):aW->ae
 |.tmp t=>match s t with
  |.box _=>.ptr t 0
  |.own _ _ _=>.alias t
  |.mp _ _ _=>.alias t
  |.cR _ _=>.dead
  |.db _ _ _ _=>.dead
  |.gL _ _ _ _=>.dead
  |a=>a
 |.const v=>vL v
 |.global g=>.x (.one (.atom (.pointer (some ⟨g,0,none⟩))))
 |.func f=>.x (.one (.atom (.func (.func f) #[] #[])))
def ag.isAny:ag->Bool
 |.any=>true
 |_=>false
def ae.told:ae->Bool
 |.box cs=>!cs.any ag.isAny
 |.cR _ cs=>!cs.any ag.isAny
 |_=>true
def lB(cs:List ag)(off m:Nat):Bool:=((cs.drop off).take m).any ag.isAny
def Us{cs:List ag}{off m j:Nat}(h:lB cs off m=false)(ac:cs[j]?=some .any):j<off\/off+m<=j:=by
 rcases mH j off with aa|aa
 ·exact .inl aa
 ·rcases mH j (off+m)with ab|ab
  ·exfalso;unfold lB at h;rw[y3]at h;refine h .any (kt (i:=j-off) ?_) rfl;rw[l0,av (by omega),js,show off+(j-off)=j by omega];exact ac
  ·exact .inr ab
def ch(i off:Nat):Nat:=1000000+1000*i+off
abbrev cU:Nat:=999999
def ae.ns:ae->Nat->Nat->Nat->Bool
 |.link bL o _,i,off,m=>bL==i&&decide (off<=o)&&decide (o<off+m)
 |.cond _ v,i,off,m=>v.ns i off m
 |_,_,_,_=>false
def ae.Ut{i off m:Nat}:∀{a:ae},a.ns i off m=true->a.aR=false
 |.link _ _ _,_=>rfl
 |.cond _ _,_=>rfl
def ae.Dm{i off m o d:Nat}:∀{a:ae},a.o1 i o d->off<=o->o<off+m->a.ns i off m=true
 |.link _ _ _,⟨rfl,rfl,rfl⟩,aa,ab=>by simp[ae.ns,aa,ab]
 |.cond _ v,⟨_,al⟩,aa,ab=>ae.Dm (a:=v) al aa ab
def dc(s:aj)(i off m:Nat):aj:=fun j=>match (s j).ns i off m with
 |true=>.dead
 |false=>s j
def ku{s:aj}{i off m j:Nat}(h:(s j).aR=true):dc s i off m j=s j:=by
 unfold dc;cases al:(s j).ns i off m with
 |true=>rw[ae.Ut al]at h;cases h
 |false=>rfl
def ib(s:aj)(i off m j:Nat):dc s i off m j=s j\/dc s i off m j=.dead:=by
 unfold dc;cases (s j).ns i off m with
 |true=>exact .inr rfl
 |false=>exact .inl rfl
def iO:ae->Prop×ae
 |.cond e a=>(e=true,a)
 |.x (.one (.ref cs))=>(True,.elem cs)
 |a=>(True,a)
def zcV{w:bb}{S B:Nat->Prop}{s:aj}{tm:Nat->aI}{cs:List ag}{v:aI}(h:bD w S (.ref cs) v):dp w S B s tm (.elem cs) v:=by
 cases h with
 |ref b' _ U hs dW lz ao=>exact⟨b',rfl,dW,hs,fun j c ac=>⟨U j,lz j c ac,ao j c ac⟩⟩
section
variable {P:aM}{S0:Env}{w0 w:bb}{n:Nat}{s:aj}{a:Act}
abbrev mI(S0:Env)(w0:bb)(s:aj)(a:Act)(w:bb)(r:ae)(v:aI):Prop:=
 dp w (bO S0 w0.heap.size w s (aL a)) (nq S0 w0.heap.size) s (aL a) r v
def Rel.look(af:Rel S0 w0 n s a w)(x:aW):mI S0 w0 s a w (look s x) (a.eval x):=by
 cases x with
 |tmp t=>
  have h:=af.rep t;have he:a.eval (.tmp t)=aL a t:=rfl;rw[he];unfold Ab.look;dsimp only;split
  ·rename_i cs hs;rw[hs]at h;obtain⟨b,b3,ty,aF,_⟩:=h;exact⟨b,aF,by rw[hs,aF];rfl⟩
  ·rename_i e size xs hs;exact⟨by rw[hs];rfl,by rw[hs];rfl⟩
  ·rename_i c bs es hs;exact⟨by rw[hs];rfl,by rw[hs];rfl⟩
  ·trivial
  ·trivial
  ·trivial
  ·exact h
 |const v=>
  show mI S0 w0 s a w (vL v) v;unfold vL;split
  ·rename_i us;split
   ·rename_i kv;refine⟨us,rfl,by simp,fun j c ac=>?_⟩;rw[eZ]at ac;cases hu:us.toList[j]? with
    |none=>rw[hu]at ac;cases ac
    |some u=>
     rw[hu]at ac;injection ac with ac
     subst ac;exact⟨u,rfl,Gq (hJ.1 kv u (kt hu))⟩
   ·trivial
  ·trivial
  ·rename_i v _ _;split
   ·rename_i h;exact Gq h
   ·trivial
 |global g=>exact bD.atom _ rfl
 |func f=>exact bD.atom _ rfl
def zcW{S:Nat->Prop}{B:Nat->Prop}{tm:Nat->aI}{r:ae}{v:aI}(h:dp w S B s tm r v)(am:(iO r).1):dp w S B s tm (iO r).2 v:=by
 unfold iO at am⊢;split at am
 ·have he:=am;subst he;exact h.2
 ·exact zcV h
 ·exact h
def Uu(x:aW):(look s x).aR=false:=by
 cases x with
 |tmp t=>
  show (look s (.tmp t)).aR=false;simp only[look];split
  ·rfl
  ·rfl
  ·rfl
  ·rfl
  ·rfl
  ·rfl
  ·rename_i aa ab au aN bE cS;cases hs:s t<;>first|rfl|(exact absurd hs (aa _))|(exact absurd hs (ab _ _ _))|(exact absurd hs (au _ _ _))|(exact absurd hs (aN _ _))|(exact absurd hs (bE _ _ _ _))|(exact absurd hs (cS _ _ _ _))
 |const v=>
  show (vL v).aR=false;unfold vL;split
  ·split<;>rfl
  ·rfl
  ·split<;>rfl
 |_=>rfl
def N7{r:ae}{j:Nat}(h:(iO r).2.refs j=true):r.refs j=true:=by
 unfold iO at h;split at h
 ·exact h
 ·cases h
 ·exact h
def zcX{r:ae}{S:Nat->Prop}{B:Nat->Prop}{tm:Nat->aI}{v:aI}(h:dp w S B s tm r v)(ao:r.aR=false):(iO r).2.aR=false:=by
 unfold iO;split
 ·exact h.1
 ·rfl
 ·exact ao
def aJ(s:aj)(x:aW):Prop×ae:=iO (look s x)
def Rel.aJ(af:Rel S0 w0 n s a w)(x:aW)(am:(aJ s x).1):mI S0 w0 s a w (aJ s x).2 (a.eval x):=
 zcW (af.look x) am
def Rel.Uv(af:Rel S0 w0 n s a w)(x:aW):(Ab.aJ s x).2.aR=false:=
 zcX (af.look x) (Uu x)
def N8{xs:List (List ag)}{size:Nat}(ai:∀x∈xs,x.length=size){k j:Nat}{c:ag}(h:(xs.getD k [])[j]?=some c):xs.flatten[k*size+j]?=some c:=by
 induction xs generalizing k with
 |nil=>simp at h
 |cons x xs ba=>
  have al:=ai x (by simp);cases k with
  |zero=>simp only[List.getD_cons_zero]at h;simp only[ta,Nat.zero_mul,hv];rw[kx (by have:=(eQ.1 h).1;omega)];exact h
  |succ k=>simp only[List.getD_cons_succ]at h;have:=ba (fun x fo=>ai x (by simp[fo])) h;simp only[ta];rw[l_ (by rw[al,l3];omega)];rw[<-this];congr 1;rw[al,l3];omega
def mem(s:aj):ae->Option (List ag)
 |.ptr i off=>match s i with
  |.box cs=>some (cs.drop off)
  |.cR _ cs=>some (cs.drop off)
  |_=>none
 |.fy i k off=>match s i with
  |.own _ _ xs=>some ((xs.getD k []).drop off)
  |_=>none
 |.elem cs=>some cs
 |_=>none
def Gr(a:Addr)(i j:Nat):(a.add i).add j=a.add (i+j):=by unfold Addr.add;by_cases ah:i=0<;>by_cases ac:j=0<;>simp[ah,ac,rN]
def n7(g o j:Nat):(⟨g,o,none⟩:Addr).add j=⟨g,o+j,none⟩:=by unfold Addr.add;split<;>simp_all
def Rel.mem(af:Rel S0 w0 n s a w){r:ae}{v:aI}{cs:List ag}(ao:mI S0 w0 s a w r v)(hm:mem s r=some cs) :
  ∃b':Addr,v=.pointer (some b')/\b'.spot=none/\∀(j:Nat) (c:ag),cs[j]?=some c->∃u,w.cell? (b'.add j)=some u/\bD w (bO S0 w0.heap.size w s (aL a)) c u:=by
 cases r with
 |ptr i off=>
  obtain⟨b,rfl,ak⟩:=ao;refine⟨_,rfl,rfl,fun j c ac=>?_⟩;rw[n7];have ah:=af.rep i;simp only[Ab.mem]at hm;split at hm
  ·rename_i Uw hs;rw[hs]at ah ak;obtain⟨br,b3,t,aF,bo,al,_⟩:=ah;rw[aF]at ak;obtain rfl:br=b:=by simpa[bl]using ak
   injection hm with hm;subst hm
   rw[js]at ac;obtain⟨u,hu,b8⟩:=al.2 _ _ ac;exact⟨u,by rw[cell_of_row w br (off+j) b3 t (0,0) bo];simpa using hu,b8⟩
  ·rename_i br Uw hs;rw[hs]at ah ak;obtain⟨b3,t,bo,al,_⟩:=ah;obtain rfl:br=b:=by simpa[bl]using ak
   injection hm with hm;subst hm
   rw[js]at ac;obtain⟨u,hu,b8⟩:=al.2 _ _ ac;exact⟨u,by rw[cell_of_row w br (off+j) b3 t (0,0) bo];simpa using hu,b8⟩
  ·cases hm
 |fy i k off=>
  obtain⟨b,rfl,ak⟩:=ao;refine⟨_,rfl,rfl,fun j c ac=>?_⟩;rw[n7];have ah:=af.rep i;simp only[Ab.mem]at hm;split at hm
  ·rename_i e size xs hs;rw[hs]at ah ak;rw[hs];obtain⟨us,bB,al,ai,_⟩:=ah;injection hm with hm
   subst hm;rw[js]at ac;obtain⟨u,hu,b8⟩:=al.2 _ _ (N8 ai ac);have ap:=bB.cells (g:=b) ak _ _ hu;rw[n7]at ap;refine⟨u,?_,b8⟩;rw[<-ap];simp only[ae.size,hv,rN]
  ·cases hm
 |elem Uw=>
  obtain⟨b',rfl,dW,bS,ap⟩:=ao;simp only[Ab.mem]at hm;injection hm with hm;subst hm
  exact⟨b',rfl,dW,ap⟩
 |_=>simp[Ab.mem]at hm
end
end
inductive hK where
 |b|i|s
 deriving DecidableEq
def rS(P:aM):Nat->aP->Option (List hK)
 |0,_=>none
 |d+1,t=>
  match P.underlying t with
  |some .bool=>some [.b]
  |some (.int _)=>some [.i]
  |some .string=>some [.s]
  |some (.struct ez)=>if P.stoodInHeld t then none else
   ez.toList.foldl (init:=some []) fun acc f=>match acc,rS P d f.type with
    |some l,some bp=>if f.name= "_" \/f.offset≠l.length\/(P.info? f.type).map (·.size)≠some bp.length\/bp.length=0 then none else some (l++bp)
    |_,_=>none
  |_=>none
def jt:List ag->List ag->Bool
 |[],[]=>true
 |.bool a::xs,.bool b::aV=>a==b&&jt xs aV
 |.int _ a::xs,.int _ b::aV=>a==b&&jt xs aV
 |.str a::xs,.str b::aV=>a==b&&jt xs aV
 |_,_=>false
def iP:List hK->List ag->List ag->Prop
 |[],[],[]=>True
 |.b::bp,.bool _::xs,.bool _::aV=>iP bp xs aV
 |.i::bp,.int k _::xs,.int cq _::aV=>k=cq/\iP bp xs aV
 |.s::bp,.str _::xs,.str _::aV=>iP bp xs aV
 |_,_,_=>False
def uv(P:aM)(t:aP):Option (List hK):=
 match P.eqGuardType P.depth t,P.underlying t,rS P 100 t with
 |false,some (.struct _),some (k::bp)=>some (k::bp)
 |_,_,_=>none
inductive gA where
 |s
 |i (k:IntKind)
 |b
 |st (bp:List hK)
def Gs(P:aM)(t:aP):Bool:=match P.underlying t with
 |some .string=>true
 |some (.int _)=>true
 |some .bool=>true
 |_=>false
def AQ(P:aM)(k:aP):Option gA:=match P.underlying k with
 |some .string=>some .s
 |some (.int k)=>some (.i k)
 |some .bool=>some .b
 |some (.struct ez)=>match uv P k,ez.toList.all fun f=>Gs P f.type with
  |some bp,true=>some (.st bp)
  |_,_=>none
 |_=>none
def n8(P:aM)(t:aP):Option (gA×aP):=
 match P.underlying t with
 |some (.map k e)=>match AQ P k with
  |some cn=>some (cn,e)
  |none=>none
 |_=>none
def jS:List hK->List ag->List ag->Bool
 |[],[],[]=>true
 |.b::bp,.bool _::xs,.bool _::aV=>jS bp xs aV
 |.i::bp,.int k _::xs,.int cq _::aV=>k==cq&&jS bp xs aV
 |.s::bp,.str _::xs,.str _::aV=>jS bp xs aV
 |_,_,_=>false
def uw:gA->aG->aG->Option Bool
 |.s,.one (.str a),.one (.str b)=>some (a==b)
 |.i _,.one (.int k a),.one (.int cq b)=>if k=cq then some (a==b)else none
 |.b,.one (.bool a),.one (.bool b)=>some (a==b)
 |.st bp,.agg xs,.agg aV=>if jS bp xs aV then some (jt xs aV)else none
 |_,_,_=>none
def kd:gA->aG->Bool
 |.s,.one (.str _)=>true
 |.i q,.one (.int k _)=>decide (k=q)
 |.b,.one (.bool _)=>true
 |.st bp,.agg xs=>jS bp xs xs
 |_,_=>false
def vN(a:Bool)(cs:List ag):aG:=match a,cs with
 |false,[c]=>.one c
 |_,cs=>.agg cs
def hR(gz gT:Bool)(bp vs:List (List ag)):List (aG×aG):=(bp.zip vs).map fun x=>(vN gz x.1,vN gT x.2)
def fz(cn:gA)(k:aG):List (aG×aG)->Nat->Option (Option Nat)
 |[],_=>some none
 |e::r,i=>match uw cn k e.1 with
  |some true=>some (some i)
  |some false=>fz cn k r (i+1)
  |none=>none
def ic(c:Nat)(bs:List Nat)(es:List (aG×aG))(k v:aG):Option Nat->Nat×List Nat×List (aG×aG)
 |some i=>(c,bs,es.set i (k,v))
 |none=>(c+1,bs++[c],es++[(k,v)])
def eH(P:aM)(t:aP):Option aG:=
 match P.info? t with
 |some i=>match i.zero with
  |some (.agg us)=>if us.toList.all vK then some (.agg (us.toList.map vJ))else none
  |some v=>if vK v then some (.one (vJ v))else none
  |none=>none
 |none=>none
section
variable [bn]
def xk(op:BinOp)(k:IntKind)(x y:Int):Int:=
 let a:=BitVec.ofInt k.bits x
 let b:=BitVec.ofInt k.bits y
 match op with
 |.and=>k.wrap (a &&& b).toNat
 |.or=>k.wrap (a |||b).toNat
 |.xor=>k.wrap (a ^^^ b).toNat
 |_=>k.wrap (a &&& ~~~b).toNat
def dD(a b:aq):Bool:=Op.bytesLess a b
def AR(op:BinOp)(x y:ag):Prop×ag:=
 match x,y with
 |.int k a,.int cq b=>
  match op with
  |.shl=>(0<=b,.int k (k.wrap (a*2^(min b.toNat k.bits))))
  |.shr=>(0<=b,.int k (a.fdiv (2^(min b.toNat k.bits))))
  |.add=>(k=cq,.int k (k.wrap (a+b)))
  |.sub=>(k=cq,.int k (k.wrap (a-b)))
  |.mul=>(k=cq,.int k (k.wrap (a*b)))
  |.quo=>(k=cq/\b≠0,.int k (k.wrap (a.tdiv b)))
  |.rem=>(k=cq/\b≠0,.int k (a.tmod b))
  |.and=>(k=cq,.int k (xk .and k a b))
  |.or=>(k=cq,.int k (xk .or k a b))
  |.xor=>(k=cq,.int k (xk .xor k a b))
  |.andNot=>(k=cq,.int k (xk .andNot k a b))
  |.eql=>(k=cq,.bool (a==b))
  |.neq=>(k=cq,.bool (a != b))
  |.lss=>(k=cq,.bool (decide (a<b)))
  |.leq=>(k=cq,.bool (decide (a<=b)))
  |.gtr=>(k=cq,.bool (decide (b<a)))
  |.geq=>(k=cq,.bool (decide (b<=a)))
 |.str a,.str b=>
  match op with
  |.add=>(a.length+b.length<=maxLen,.str (a++b))
  |.eql=>(True,.bool (a==b))
  |.neq=>(True,.bool (!(a==b)))
  |.lss=>(True,.bool (dD a b))
  |.leq=>(True,.bool (dD a b ||a==b))
  |.gtr=>(True,.bool (!(dD a b ||a==b)))
  |.geq=>(True,.bool (!dD a b))
  |_=>(False,.nil)
 |_,_=>(False,.nil)
def AS:ag->Option Bool
 |.nil=>some true
 |.empty _=>some false
 |.list _ (_::_)=>some false
 |_=>none
def ju(P:aM)(t:aP):Bool:=
 match P.underlying t with
 |some (.slice _)=>true
 |_=>false
def Gt(P:aM)(op:BinOp)(t:aP)(p q:Prop)(b:Option Bool):Prop×ae:=
 match op,b with
 |.eql,some b=>(p/\q/\ju P t=true,.x (.one (.bool b)))
 |.neq,some b=>(p/\q/\ju P t=true,.x (.one (.bool (!b))))
 |_,_=>(False,.dead)
def hL(P:aM)(op:BinOp)(t:aP)(x y:Prop×ae):Prop×ae:=
 match x,y with
 |(p,.x (.one (.bool a))),(q,.x (.one (.bool b)))=>
  match op with
  |.eql=>(p/\q/\P.underlying t=some .bool,.x (.one (.bool (a==b))))
  |.neq=>(p/\q/\P.underlying t=some .bool,.x (.one (.bool (a != b))))
  |_=>(False,.dead)
 |(p,.x (.one a)),(q,.x (.one .nil))=>Gt P op t p q (AS a)
 |(p,.x (.one a)),(q,.x (.one b))=>(p/\q/\(AR op a b).1,.x (.one (AR op a b).2))
 |(p,.x (.agg xs)),(q,.x (.agg aV))=>
  match uv P t with
  |some bp=>match op with
   |.eql=>(p/\q/\iP bp xs aV,.x (.one (.bool (jt xs aV))))
   |.neq=>(p/\q/\iP bp xs aV,.x (.one (.bool (!jt xs aV))))
   |_=>(False,.dead)
  |none=>(False,.dead)
 |_,_=>(False,.dead)
def JU(e:Bool):aG->aG->aG
 |.one (.bool a),.one (.bool b)=>.one (.bool (bif e then a else b))
 |x,y=>bif e then x else y
def Dn(c a b:Prop×ae):Prop×ae:=
 match c,a,b with
 |(vO,.x (.one (.bool e))),(pa,.x JV),(zcY,.x JW)=>(vO/\(e=true->pa)/\(e=false->zcY),.x (JU e JV JW))
 |_,_,_=>(False,.dead)
def Dp(k:cf)(p:Prop)(cs:List ag):Prop×ae:=
 match k with
 |.agg n=>(p/\n<=cs.length,.x (.agg (cs.take n)))
 |.one=>match cs with
  |c::_=>(p,.x (.one c))
  |[]=>(False,.dead)
 |.bad=>(False,.dead)
def xl(k:cf)(z:Option aG)(p:Prop)(cs:List ag):Prop×ae:=
 match k,cs with
 |.one,[]=>match z with
  |some x=>(False,.x x)
  |none=>(False,.dead)
 |k,cs=>Dp k p cs
def k2(k:cf)(z:Option aG)(p:Prop)(m:Option (List ag)):Prop×ae:=
 match m with
 |some cs=>xl k z p cs
 |none=>(False,.dead)
def N9:ae->Bool
 |.ptr _ _=>true
 |.fy _ _ _=>true
 |.elem _=>true
 |_=>false
def ux(P:aM)(t:aP)(f:Nat)(x:Prop×ae):Prop×ae:=
 match fieldAt P t f,x with
 |some (o,_),(p,.ptr i off)=>(p,.ptr i (off+o))
 |some (o,_),(p,.fy i k off)=>(p,.fy i k (off+o))
 |some (o,_),(p,.elem cs)=>(p,.elem (cs.drop o))
 |_,_=>(False,.dead)
def y4(P:aM)(t:aP)(f:Nat)(x:Prop×ae):Prop×ae:=
 match fieldAt P t f,x with
 |some (o,k),(p,.x (.agg cs))=>Dp k p (cs.drop o)
 |_,_=>(False,.dead)
def AT(P:aM)(t:aP):Option (Nat×Nat):=
 match P.underlying t with
 |some (.array len e)=>match P.info? e with
  |some i=>some (len,i.size)
  |none=>none
 |_=>none
def AU(P:aM)(t:aP)(x i:Prop×ae):Prop×ae:=
 match AT P t,x,i with
 |some (len,size),(p,.ptr j off),(q,.x (.one (.int _ n)))=>(p/\q/\0<=n/\n<len,.ptr j (off+n.toNat*size))
 |some (len,size),(p,.elem cs),(q,.x (.one (.int _ n)))=>(p/\q/\0<=n/\n<len,.elem (cs.drop (n.toNat*size)))
 |_,_,_=>(False,.dead)
def l'(P:aM)(s:aj)(t:aP)(x i:Prop×ae):Prop×ae:=
 match gM P t,x,i with
 |some (_,size),(p,.x (.one (.list z xs))),(q,.x (.one (.int _ n)))=>(p/\q/\z=size/\0<=n/\n<xs.length,.elem (xs.getD n.toNat []))
 |some (_,size),(p,.alias j),(q,.x (.one (.int _ n)))=>match s j with
  |.own _ z xs=>(p/\q/\z=size/\0<=n/\n<xs.length,.fy j n.toNat 0)
  |_=>(False,.dead)
 |some (_,size),(p,.view j aO len _),(q,.x (.one (.int _ n)))=>(p/\q/\(s j).size=size/\0<=n/\n<len,.fy j (aO+n.toNat) 0)
 |_,_,_=>AU P t x i
def Dq(P:aM)(t:aP)(x i:Prop×ae):Prop×ae:=
 match x,i with
 |(p,.x (.one (.str l))),(q,.x (.one (.int _ n)))=>(p/\q/\k1 P t=true/\0<=n/\n<l.length,.x (.one (.int .u8 (l.getD n.toNat 0).toNat)))
 |_,_=>(False,.dead)
def y5(x:Prop×ae)(i:Nat):Prop×ae:=
 match x with
 |(p,.b2 vs)=>match vs[i]? with
  |some v=>(p,.x v)
  |none=>(False,.dead)
 |_=>(False,.dead)
def n9(P:aM)(s:aj)(t:aP)(x:Prop×ae):Prop×ae:=
 match x with
 |(p,.x (.one (.str l)))=>(p/\k1 P t=true,.x (.one (.int .i64 l.length)))
 |(p,.x (.one .nil))=>(p/\(gM P t).isSome=true,.x (.one (.int .i64 0)))
 |(p,.x (.one (.empty _)))=>(p/\(gM P t).isSome=true,.x (.one (.int .i64 0)))
 |(p,.x (.one (.list _ xs)))=>(p/\(gM P t).isSome=true,.x (.one (.int .i64 xs.length)))
 |(p,.alias i)=>match s i with
  |.own _ _ xs=>(p/\(gM P t).isSome=true,.x (.one (.int .i64 xs.length)))
  |.mp _ _ es=>(p/\(n8 P t).isSome=true,.x (.one (.int .i64 es.length)))
  |_=>(False,.dead)
 |(p,.view _ _ len _)=>(p/\(gM P t).isSome=true,.x (.one (.int .i64 len)))
 |_=>(False,.dead)
def Gu(P:aM)(t:aP)(x:Prop×ae):Prop×ae:=
 match x with
 |(p,.x (.one .nil))=>(p/\(gM P t).isSome=true,.x (.one (.int .i64 0)))
 |_=>(False,.dead)
def vP(es:List (aG×aG))(z:aG)(ok:Bool):Option Nat->ae
 |some j=>if ok then .b2 [((es[j]?).getD (z,z)).2,.one (.bool true)]else .x ((es[j]?).getD (z,z)).2
 |none=>if ok then .b2 [z,.one (.bool false)]else .x z
def uy(P:aM)(s:aj)(t:aP)(x k:Prop×ae)(ok:Bool):Prop×ae:=
 match n8 P t,x,k with
 |some (cn,e),(p,.alias i),(q,.x cL)=>match s i with
  |.mp _ _ es=>match fz cn cL es 0,eH P e with
   |some r,some z=>(p/\q/\kd cn cL=true,vP es z ok r)
   |_,_=>(False,.dead)
  |_=>(False,.dead)
 |some (cn,e),(p,.x (.one (.i8 gz gT bp vs))),(q,.x cL)=>match fz cn cL (hR gz gT bp vs) 0,eH P e with
  |some r,some z=>(p/\q/\kd cn cL=true,vP (hR gz gT bp vs) z ok r)
  |_,_=>(False,.dead)
 |_,_,_=>(False,.dead)
def Gv(x y:Prop×ae):Prop×ae:=
 match x,y with
 |(p,.x (.one (.int k a))),(q,.x (.one (.int _ b)))=>(p/\q,.x (.one (.int k (max a b))))
 |_,_=>(False,.dead)
def Dr(x y:Prop×ae):Prop×ae:=
 match x,y with
 |(p,.x (.one (.int k a))),(q,.x (.one (.int _ b)))=>(p/\q,.x (.one (.int k (min a b))))
 |_,_=>(False,.dead)
def dG(s:aj)(o:Option aW)(other:Int):Prop×Option Int:=
 match o with
 |none=>(True,some other)
 |some x=>match aJ s x with
  |(p,.x (.one (.int _ n)))=>(p,some n)
  |_=>(False,none)
def b4{α:Type}(l:List α)(aO ah:Int):List α:=(l.take ah.toNat).drop aO.toNat
def ky(P:aM)(s:aj)(t:aP)(x:Prop×ae)(aO ah mx:Option aW):Prop×ae:=
 match x with
 |(p,.x (.one (.str l)))=>match mx,dG s aO 0,dG s ah l.length with
  |none,(q,some a),(r,some b)=>(p/\q/\r/\k1 P t=true/\0<=a/\a<=b/\b<=l.length,.x (.one (.str (b4 l a b))))
  |_,_,_=>(False,.dead)
 |(p,.x (.one (.list z xs)))=>match gM P t,dG s aO 0,dG s ah xs.length,dG s mx xs.length with
  |some (_,size),(q,some a),(r,some b),(u,some c)=>(p/\q/\r/\u/\z=size/\0<=a/\a<=b/\b<=c/\c<=xs.length/\(ah=none->mx=none),.x (.one (.list z (b4 xs a b))))
  |_,_,_,_=>(False,.dead)
 |(p,.x (.one .nil))=>match gM P t,dG s aO 0,dG s ah 0,mx with
  |some _,(q,some a),(r,some b),none=>(p/\q/\r/\a=0/\b=0,.x (.one .nil))
  |_,_,_,_=>(False,.dead)
 |(p,.alias i)=>match s i with
  |.own _ z xs=>match gM P t,dG s aO 0,dG s ah xs.length,dG s mx xs.length with
   |some (_,size),(q,some a),(r,some b),(u,some c)=>(p/\q/\r/\u/\z=size/\0<=a/\a<=b/\b<=c/\c<=xs.length/\(ah=none->mx=none),.view i a.toNat (b.toNat-a.toNat) (aO.isNone&&mx.isNone))
   |_,_,_,_=>(False,.dead)
  |_=>(False,.dead)
 |(p,.view i lo0 len wh)=>match gM P t,dG s aO 0,dG s ah len,dG s mx len with
  |some (_,size),(q,some a),(r,some b),(u,some c)=>(p/\q/\r/\u/\(s i).size=size/\0<=a/\a<=b/\b<=c/\c<=len/\(ah=none->mx=none),.view i (lo0+a.toNat) (b.toNat-a.toNat) (wh&&(aO.isNone&&mx.isNone)))
  |_,_,_,_=>(False,.dead)
 |_=>(False,.dead)
def Ds(op:UnOp)(x:Prop×ae):Prop×ae:=
 match op,x with
 |.not,(p,.x (.one (.bool b)))=>(p,.x (.one (.bool (!b))))
 |.neg,(p,.x (.one (.int k n)))=>(p,.x (.one (.int k (k.wrap (0-n)))))
 |_,_=>(False,.dead)
def pK(P:aM)(t:aP):Option IntKind:=
 match P.underlying t with
 |some (.int k)=>some k
 |_=>none
def iQ(s:aj)(size:Nat):ae->Option (List (List ag))
 |.x (.one .nil)=>some []
 |.x (.one (.empty z))=>if z=size then some []else none
 |.x (.one (.list z aV))=>if z=size then some aV else none
 |.alias j=>match s j with
  |.own _ z aV=>if z=size then some aV else none
  |_=>none
 |.view j aO len _=>match s j with
  |.own _ z aV=>if z=size then some ((aV.drop aO).take len)else none
  |_=>none
 |_=>none
def vQ(P:aM)(e:aP):Bool:=match P.underlying e,P.info? e with
 |some (.int .u8),some i=>(match i.zero with
  |some (.int .u8 0)=>true
  |_=>false)&&(i.size==1&&i.bytes==1)
 |_,_=>false
abbrev ie(b:UInt8):List ag:=[.int .u8 b.toNat]
def bq(l:aq):List (List ag):=l.map ie
def vR(P:aM)(t:aP):Bool:=match P.underlying t with
 |some (.slice e)=>vQ P e
 |_=>false
def vS(xs:List (List ag)):Prop:=∀x∈xs,∃n,x=[.int .u8 n]
def Gw:List ag->UInt8
 |.int _ n::_=>UInt8.ofNat n.toNat
 |_=>0
def o3(xs:List (List ag)):aq:=xs.map Gw
def o4(P:aM)(s:aj)(src dst:aP)(x:Prop×ae):Prop×ae:=
 match x with
 |(p,.x (.one (.int _ n)))=>match pK P dst with
  |some k=>(p/\(P.underlying src).isSome=true,.x (.one (.int k (k.wrap n))))
  |none=>(p/\(P.underlying src).isSome=true/\k1 P dst=true/\0<=n/\n<128,.x (.one (.str [UInt8.ofNat n.toNat])))
 |(p,.x (.one (.str l)))=>(p/\k1 P src=true/\k1 P dst=true,.x (.one (.str l)))
 |(p,v)=>match iQ s 1 v with
  |some xs=>(p/\vR P src=true/\k1 P dst=true/\vS xs,.x (.one (.str (o3 xs))))
  |none=>(False,.dead)
def uz(P:aM)(s:aj)(c:Callee)(args:List aW)(ts:List aP):Prop×ae:=
 match c with
 |.builtin .len=>match args,ts with
  |[x],[t]=>n9 P s t (aJ s x)
  |_,_=>(False,.dead)
 |.builtin .cap=>match args,ts with
  |[x],[t]=>Gu P t (aJ s x)
  |_,_=>(False,.dead)
 |.builtin .max=>match args with
  |[x,y]=>Gv (aJ s x) (aJ s y)
  |_=>(False,.dead)
 |.builtin .min=>match args with
  |[x,y]=>Dr (aJ s x) (aJ s y)
  |_=>(False,.dead)
 |_=>(False,.dead)
def tc:List (Prop×ae)->Prop×Option (List ag)
 |[]=>(True,some [])
 |(p,.x (.one c))::r=>match tc r with
  |(q,some cs)=>(p/\q,some (c::cs))
  |_=>(False,none)
 |_=>(False,none)
def lC:List (Prop×ae)->Prop×Option (List (ag⊕(Nat×Nat)))
 |[]=>(True,some [])
 |(p,.x (.one c))::r=>match lC r with
  |(q,some cs)=>(p/\q,some (.inl c::cs))
  |_=>(False,none)
 |(p,.ptr i off)::r=>match lC r with
  |(q,some cs)=>(p/\off<1000000/\q,some (.inr (i,off)::cs))
  |_=>(False,none)
 |(p,.et i off)::r=>match lC r with
  |(q,some cs)=>(p/\q,some (.inr (i,off+1000000)::cs))
  |_=>(False,none)
 |_=>(False,none)
def xm(s:aj)(fn:Fn)(first jd:List aW):Prop×ae:=
 match fn,first with
 |.func f,[]=>match tc (jd.map (aJ s))with
  |(p,some cs)=>(p,.x (.one (.jQ f cs)))
  |_=>match lC (jd.map (aJ s))with
   |(p,some cs)=>(p,.df f cs)
   |_=>(False,.dead)
 |_,_=>(False,.dead)
def Gx:aW->Bool
 |.const .nilIface=>true
 |_=>false
def Dt(P:aM)(t:aP):Bool:=
 match P.underlying t with
 |some (.interface _)=>true
 |_=>false
def AV(P:aM)(op:BinOp)(t:aP)(x:Prop×ae):Prop×ae:=
 match x,op with
 |(p,.x (.one (.atom .nilIface))),.eql=>(p/\Dt P t=true,.x (.one (.bool true)))
 |(p,.x (.one (.atom .nilIface))),.neq=>(p/\Dt P t=true,.x (.one (.bool false)))
 |(p,.x (.one (.atom (.iface _ _)))),.eql=>(p/\Dt P t=true,.x (.one (.bool false)))
 |(p,.x (.one (.atom (.iface _ _)))),.neq=>(p/\Dt P t=true,.x (.one (.bool true)))
 |_,_=>(False,.dead)
def zcZ(P:aM)(op:BinOp)(t:aP)(x:Prop×ae):(AV P op t x).2=.dead\/∃b,(AV P op t x).2=.x (.one (.bool b)):=by unfold AV;split<;>first|exact Or.inl rfl|exact Or.inr ⟨_,rfl⟩
def td(P:aM)(s:aj)(op:BinOp)(t:aP)(x y:aW):Prop×ae:=bif Gx y then AV P op t (aJ s x)else hL P op t (aJ s x) (aJ s y)
def jT(s:aj)(r:ae)(v:Prop×ae):Prop×ae:=
 match v with
 |(p,.x (.one .any))=>match r with
  |.ptr i off=>match s (ch i off)with
   |.link bL o d=>match bL==i&&o==off with
    |true=>(p,.alias d)
    |false=>(p,.x (.one .any))
   |_=>(p,.x (.one .any))
  |_=>(p,.x (.one .any))
 |v=>v
def Gy(s:aj)(r:ae)(v:Prop×ae):jT s r v=v\/∃p i off d,v=(p,.x (.one .any))/\r=.ptr i off/\s (ch i off)=.link i off d/\jT s r v=(p,.alias d):=by
 unfold jT;split
 ·rename_i p;split
  ·rename_i i off;split
   ·rename_i bL o d hs;split
    ·rename_i h;simp only[b7,fc]at h;obtain⟨rfl,rfl⟩:=h;exact .inr ⟨p,_,_,d,rfl,rfl,hs,rfl⟩
    ·exact .inl rfl
   ·exact .inl rfl
  ·exact .inl rfl
 ·exact .inl rfl
def Ux(s:aj)(cs:List ag)(v:Prop×ae):jT s (.elem cs) v=v:=by
 rcases Gy s (.elem cs) v with e|⟨_,_,_,_,_,e,_⟩
 ·exact e
 ·cases e
def pL(P:aM)(s:aj)(t:aP)(x:Prop×ae):Prop×ae:=
 match x with
 |(p,.et i off)=>match tk P t with
  |.one=>(p,.ptr i off)
  |_=>(False,.dead)
 |x=>jT s x.2 (k2 (tk P t) (eH P t) x.1 (mem s x.2))
def eA(P:aM)(s:aj):Op->Prop×ae
 |.move x=>aJ s x
 |.assign x=>(True,look s x)
 |.pick c a b=>Dn (aJ s c) (aJ s a) (aJ s b)
 |.load t x=>pL P s t (aJ s x)
 |.nilCheck x=>match N9 (aJ s x).2 with
  |true=>aJ s x
  |false=>(False,.dead)
 |.binOp op t x y _=>td P s op t x y
 |.unOp op _ x=>Ds op (aJ s x)
 |.convert src dst x=>o4 P s src dst (aJ s x)
 |.slice t x aO ah mx=>ky P s t (aJ s x) aO ah mx
 |.fieldAddr t x f=>ux P t f (aJ s x)
 |.field t x f=>y4 P t f (aJ s x)
 |.indexAddr t x i=>l' P s t (aJ s x) (aJ s i)
 |.index t x i=>Dq P t (aJ s x) (aJ s i)
 |.extract x i=>y5 (aJ s x) i
 |.makeFunc fn first jd=>xm s fn first.toList jd.toList
 |.lookup t x k ok=>uy P s t (aJ s x) (aJ s k) ok
 |.call c=>uz P s c.callee c.args.toList c.argTypes.toList
 |_=>(False,.dead)
end
section
variable [bn]
section
variable {P:aM}{S0:Env}{w0 w:bb}{n:Nat}{s:aj}{a:Act}
def pM{w:bb}{S:Nat->Prop}{b:Bool}{v:aI}(h:bD w S (.bool b) v):v=.bool b:=by cases h;rfl
def jv{w:bb}{S:Nat->Prop}{k:IntKind}{m:Int}{v:aI}(h:bD w S (.int k m) v):v=.int k m:=by cases h;rfl
def nt{w:bb}{S:Nat->Prop}{l:aq}{v:aI}(h:bD w S (.str l) v):v=.string ⟨l.toArray⟩/\l.length<=maxLen:=by
 cases h with
 |str _ h=>exact⟨rfl,h⟩
def te{w:bb}{S:Nat->Prop}{v:aI}(h:bD w S .nil v):v=.slice none 0 0:=by cases h;rfl
def zda(l:aq):(⟨l.toArray⟩:ByteArray).toList=l:=ByteArray.toList_mk l
def JX(l:aq):(⟨l.toArray⟩:ByteArray).size=l.length:=by simp[ByteArray.size]
def zdb(op:BinOp)(t:aP){x y:ag}{u v:aI}{S:Nat->Prop}(ai:bD w S x u)(aU:bD w S y v)(am:(AR op x y).1) :
  ∃r,(binOp op t u v).run P w=.ok r w/\bD w S (AR op x y).2 r:=by
 cases x<;>cases y<;>try (exact am.elim)
 case int.int k m cq iR=>
  obtain rfl:=jv ai;obtain rfl:=jv aU;cases op<;>simp only[AR]at am⊢<;>simp only[binOp]
  case shl=>exact⟨_,by simp only[Op.shift];rw[an (by omega)];rfl,.int _ _⟩
  case shr=>exact⟨_,by simp only[Op.shift];rw[an (by omega)];rfl,.int _ _⟩
  case quo=>obtain⟨rfl,am⟩:=am;exact⟨_,by simp[Op.intDiv,am],.int _ _⟩
  case rem=>obtain⟨rfl,am⟩:=am;exact⟨_,by simp[Op.intDiv,am],.int _ _⟩
  all_goals subst am
  all_goals simp only[ne_eq,JY,hy]
  case add=>exact⟨_,rfl,.int _ _⟩
  case sub=>exact⟨_,rfl,.int _ _⟩
  case mul=>exact⟨_,rfl,.int _ _⟩
  case and=>exact⟨_,rfl,.int _ _⟩
  case or=>exact⟨_,rfl,.int _ _⟩
  case xor=>exact⟨_,rfl,.int _ _⟩
  case andNot=>exact⟨_,rfl,.int _ _⟩
  all_goals exact⟨_,rfl,.bool _⟩
 case str.str l pN=>
  obtain⟨rfl,al⟩:=nt ai;obtain⟨rfl,dK⟩:=nt aU;cases op<;>simp only[AR]at am⊢<;>(try exact am.elim)<;>simp only[binOp,Op.stringOp,zda,JX]
  case add=>
   refine⟨.string ⟨(l++pN).toArray⟩,?_,.str _ (by simpa using am)⟩;rw[an (by simp only[maxLen]at am;simp[IntKind.max,IntKind.signed,IntKind.bits];omega)];show Result.ok (Value.string (⟨l.toArray⟩++⟨pN.toArray⟩)) w=_
   congr 2
  all_goals exact⟨_,rfl,.bool _⟩
def zdc(op:BinOp)(t:aP)(gN e0:aW){x y:ag}{u v:aI}{S:Nat->Prop}(ai:bD w S x u)(aU:bD w S y v)(am:(AR op x y).1) :
  (eqGuard op t gN e0 u v).run P w=.ok () w:=by
 cases x<;>cases y<;>try (exact am.elim)
 case int.int=>obtain rfl:=jv ai;rw[eqGuard_at_int];rfl
 case str.str=>obtain⟨rfl,_⟩:=nt ai;rw[eqGuard_at_string];rfl
def N_{t:aP}{d:TypeDesc}(h:P.underlying t=some d)(w:bb):(isAgg t).run P w=.ok (match d with|.struct _=>true|.array _ _=>true|_=>false) w:=by simp only[isAgg,Sem.run_bind,run_underlying h,Result.andThen_ok];cases d<;>rfl
def run_sizeOf{t:aP}{i:TypeInfo}(h:P.info? t=some i)(w:bb):(sizeOf t).run P w=.ok i.size w:=by simp[sizeOf,typeInfo,h]
def info_of_underlying{t:aP}{d:TypeDesc}(h:P.underlying t=some d):∃i,P.info? t=some i:=by
 cases ah:P.info? t with
 |some i=>exact⟨i,rfl⟩
 |none=>simp[Program.underlying,ah]at h
def valOf(P:aM)(t:aP)(us:List aI):aI:=
 match P.underlying t with
 |some (.struct _)=>.agg us.toArray
 |some (.array _ _)=>.agg us.toArray
 |_=>us.headD undef
def N'{t:aP}{d:TypeDesc}{i:TypeInfo}(h:P.underlying t=some d)(ah:P.info? t=some i)(us:Array aI)(off:Nat)(al:off+i.size<=us.size)(hs:0<i.size)(w:bb) :
  (part t us off).run P w=.ok (valOf P t ((us.toList.drop off).take i.size)) w:=by
 have bF:us[off]?=some us[off]:=vT (by omega);have Oa:us.toList.drop off=us[off]::us.toList.drop (off+1):=by rw[jw (by simp;omega)];simp
 have Do:us.extract off (off+i.size)=((us.toList.drop off).take i.size).toArray:=by apply rQ;simp only[Ob,Oc];simp
 have zdd:((us.toList.drop off).take i.size).head?.getD undef=us[off]:=by
  rw[Oa];obtain⟨m,hm⟩:∃m,i.size=m+1:=⟨i.size-1,by omega⟩
  rw[hm];rfl
 simp only[part,Sem.run_bind,N_ h,Result.andThen_ok,valOf,h];cases d with
 |struct ez=>simp[run_sizeOf ah,Do]
 |array k e=>simp[run_sizeOf ah,Do]
 |_=>simp[bF,zdd]
def Du:∀{bp:List hK} {xs aV:List ag},iP bp xs aV->xs.length=bp.length/\aV.length=bp.length:=by
 intro bp;induction bp with
 |nil=>intro xs aV h;cases xs<;>cases aV<;>simp_all [iP]
 |cons k bp ba=>
  intro xs aV h;cases k<;>cases xs with
  |nil=>simp[iP]at h
  |cons x xs=>
   cases aV with
   |nil=>cases x<;>simp[iP]at h
   |cons y aV=>
    cases x<;>cases y<;>simp only[iP]at h<;>first
     |exact h.elim
     |(have:=ba h;simp[this.1,this.2])
     |(have:=ba h.2;simp[this.1,this.2])
def Uy:∀{aE aQ:List hK} {xs aV:List ag},iP (aE++aQ) xs aV ->
  iP aE (xs.take aE.length) (aV.take aE.length)/\iP aQ (xs.drop aE.length) (aV.drop aE.length) /\
  jt xs aV=(jt (xs.take aE.length) (aV.take aE.length)&&jt (xs.drop aE.length) (aV.drop aE.length)):=by
 intro aE;induction aE with
 |nil=>intro aQ xs aV h;exact⟨trivial,h,by simp[jt]⟩
 |cons k aE ba=>
  intro aQ xs aV h;cases k<;>cases xs with
  |nil=>simp[iP]at h
  |cons x xs=>
   cases aV with
   |nil=>cases x<;>simp[iP]at h
   |cons y aV=>
    cases x<;>cases y<;>simp only[List.cons_append,iP]at h<;>first
     |exact h.elim
     |(obtain⟨aa,ab,au⟩:=ba h;exact⟨aa,ab,by simp only[hz,Gz,JZ,jt,au,Bool.and_assoc]⟩)
     |(obtain⟨a1,h⟩:=h;obtain⟨aa,ab,au⟩:=ba h;exact⟨⟨a1,aa⟩,ab,by simp only[hz,Gz,JZ,jt,au,Bool.and_assoc]⟩)
def cO.sub{S:Nat->Prop}{xs:List ag}{us:List aI}(h:cO w S xs us)(o m:Nat):cO w S ((xs.drop o).take m) ((us.drop o).take m):=by
 refine⟨by simp[h.1],fun j c ac=>?_⟩;rw[l0]at ac;split at ac
 ·rename_i ar;rw[js]at ac;obtain⟨u,hu,ao⟩:=h.2 _ _ ac;exact⟨u,by rw[l0,av ar,js];exact hu,ao⟩
 ·cases ac
def cO.drop{S:Nat->Prop}{xs:List ag}{us:List aI}(h:cO w S xs us)(o:Nat):cO w S (xs.drop o) (us.drop o):=by refine⟨by simp[h.1],fun j c ac=>?_⟩;rw[js]at ac;obtain⟨u,hu,ao⟩:=h.2 _ _ ac;exact⟨u,by rw[js];exact hu,ao⟩
def cO.head{S:Nat->Prop}{x:ag}{xs:List ag}{us:List aI}(h:cO w S (x::xs) us):∃u r,us=u::r/\bD w S x u:=by
 obtain⟨u,hu,ao⟩:=h.2 0 x rfl;cases us with
 |nil=>simp at hu
 |cons o5 r=>simp at hu;subst hu;exact⟨_,_,rfl,ao⟩
def zde{xs aV:List ag}(h:iP [.b] xs aV):∃p q,xs=[.bool p]/\aV=[.bool q]:=by
 obtain⟨aa,ab⟩:=Du h
 match xs,aV,aa,ab with
 |[x],[y],_,_=>cases x<;>cases y<;>simp_all [iP]
def zdf{xs aV:List ag}(h:iP [.i] xs aV):∃k p q,xs=[.int k p]/\aV=[.int k q]:=by
 obtain⟨aa,ab⟩:=Du h
 match xs,aV,aa,ab with
 |[x],[y],_,_=>cases x<;>cases y<;>simp_all [iP]
def zdg{xs aV:List ag}(h:iP [.s] xs aV):∃p q,xs=[.str p]/\aV=[.str q]:=by
 obtain⟨aa,ab⟩:=Du h
 match xs,aV,aa,ab with
 |[x],[y],_,_=>cases x<;>cases y<;>simp_all [iP]
def rT(P:aM)(d:Nat)(acc:Option (List hK))(f:Field):Option (List hK):=
 match acc,rS P d f.type with
 |some l,some bp=>if f.name= "_" \/f.offset≠l.length\/(P.info? f.type).map (·.size)≠some bp.length\/bp.length=0 then none else some (l++bp)
 |_,_=>none
def Dv(d:Nat):∀(ez:List Field),ez.foldl (rT P d) none=none
 |[]=>rfl
 |_::ez=>Dv d ez
def Uz{d:Nat}{t:aP}{bp:List hK}(h:rS P d t=some bp):∃ty,P.underlying t=some ty:=by
 cases d with
 |zero=>simp[rS]at h
 |succ d=>
  simp only[rS]at h;cases hu:P.underlying t with
  |some ty=>exact⟨ty,rfl⟩
  |none=>rw[hu]at h;cases h
def UA{S:Nat->Prop}:∀(d D:Nat) (t:aP) (bp:List hK) (xs aV:List ag) (us vs:List aI),d<=D->rS P d t=some bp->cO w S xs us->cO w S aV vs->iP bp xs aV->0<bp.length ->
  (Op.equalIn D t (valOf P t us) (valOf P t vs)).run P w=.ok (jt xs aV) w:=by
 intro d;induction d with
 |zero=>intro D t bp xs aV us vs _ h;simp[rS]at h
 |succ d ba=>
  intro D t bp xs aV us vs hM ak ai aU aw je;obtain⟨D,rfl⟩:∃zdh,D=zdh+1:=⟨D-1,by omega⟩
  simp only[rS]at ak;cases hu:P.underlying t with
  |none=>rw[hu]at ak;cases ak
  |some ty=>
   rw[hu]at ak;cases ty with
   |bool=>
    simp only[b9]at ak;subst ak;obtain⟨p,q,rfl,rfl⟩:=zde aw
    ·obtain⟨u,r,rfl,aa⟩:=ai.head;obtain⟨v,cD,rfl,ab⟩:=aU.head;rw[pM aa,pM ab];simp[valOf,hu,jt,run_equalIn_bool' w D t p q hu]
   |int k=>
    simp only[b9]at ak;subst ak;obtain⟨aE,p,q,rfl,rfl⟩:=zdf aw
    ·obtain⟨u,r,rfl,aa⟩:=ai.head;obtain⟨v,cD,rfl,ab⟩:=aU.head;rw[jv aa,jv ab];simp[valOf,hu,jt,run_equalIn_int w D t aE k p q hu]
   |string=>
    simp only[b9]at ak;subst ak;obtain⟨p,q,rfl,rfl⟩:=zdg aw
    ·obtain⟨u,r,rfl,aa⟩:=ai.head;obtain⟨v,cD,rfl,ab⟩:=aU.head;rw[(nt aa).1,(nt ab).1];simp[valOf,hu,jt,run_equalIn_string w D t _ _ hu]
   |struct ez=>
    simp only at ak;split at ak
    ·cases ak
    ·rename_i cu;have vU:P.fieldsOf t=ez:=by simp[Program.fieldsOf,hu]
     have cP:=run_equalIn_struct (P:=P) w D t us.toArray vs.toArray (by rw[vU];exact hu) (by simpa using cu);rw[vU]at cP;have gV:∀l:List aI,valOf P t l=.agg l.toArray:=fun l=>by simp[valOf,hu]
     rw[gV,gV,cP];have key:∀(l:List Field) (acc:List hK),l.foldl (rT P d) (some acc)=some bp->acc.length<=bp.length ->
       (∃r,bp=acc++r)/\(Op.eqFields D us.toArray vs.toArray l).run P w=.ok (jt (xs.drop acc.length) (aV.drop acc.length)) w:=by
      intro l;induction l with
      |nil=>intro acc h _;simp only[List.foldl_nil,b9]at h;subst h;obtain⟨aa,ab⟩:=Du aw;refine⟨⟨[],by simp⟩,?_⟩;rw[nu (by omega),nu (by omega)];rfl
      |cons f l zdi=>
       intro acc h y6;simp only[Dw]at h;cases pO:rS P d f.type with
       |none=>simp[rT,pO,Dv]at h
       |some n_=>
        simp only[rT,pO]at h;split at h
        ·rw[Dv]at h;cases h
        ·rename_i AW;have aX:f.name≠ "_" :=fun e=>AW (.inl e);have aB:f.offset=acc.length:=AX fun e=>AW (.inr (.inl e));have cB:(P.info? f.type).map (·.size)=some n_.length:=AX fun e=>AW (.inr (.inr (.inl e)));have zdj:0<n_.length:=Nat.pos_of_ne_zero fun e=>AW (.inr (.inr (.inr e)));obtain⟨i,ah,GA⟩:∃i,P.info? f.type=some i/\i.size=n_.length:=by
          cases ah:P.info? f.type with
          |none=>rw[ah]at cB;cases cB
          |some i=>rw[ah]at cB;exact⟨i,rfl,by simpa using cB⟩
         have cX:(acc++n_).length<=bp.length:=by
          have:∀(l:List Field) (a b:List hK),l.foldl (rT P d) (some a)=some b->a.length<=b.length:=by
           intro l;induction l with
           |nil=>intro a b h;simp at h;subst h;exact f_ _
           |cons g l Od=>
            intro a b h;simp only[Dw]at h;cases ay:rT P d (some a) g with
            |none=>rw[ay,Dv]at h;cases h
            |some a'=>
             rw[ay]at h;have:=Od _ _ h;simp only[rT]at ay;split at ay
             ·split at ay
              ·cases ay
              ·rename_i ax aK _;injection ax with ax
               injection ay with ay;subst ax;subst ay
               simp at this;omega
             ·cases ay
          exact this _ _ _ h
         obtain⟨⟨r,ao⟩,zdk⟩:=zdi _ h cX;refine⟨⟨n_++r,by rw[ao,pG]⟩,?_⟩;have hd:bp=acc++(n_++r):=by rw[ao,pG]
         rw[hd]at aw;obtain⟨_,vV,_⟩:=Uy aw;obtain⟨Oe,_,he⟩:=Uy vV;obtain⟨mJ,ke⟩:=Du aw;have k3:us.length=xs.length:=ai.1;have tf:vs.length=aV.length:=aU.1;obtain⟨ty,uA⟩:=Uz pO
         ·have jf:=N' (P:=P) uA ah us.toArray f.offset (by simp[GA,aB,k3,mJ]<;>omega) (by omega) w;have jU:=N' (P:=P) uA ah vs.toArray f.offset (by simp[GA,aB,tf,ke]<;>omega) (by omega) w;have heq:=ba D f.type n_ ((xs.drop f.offset).take i.size) ((aV.drop f.offset).take i.size) ((us.drop f.offset).take i.size) ((vs.drop f.offset).take i.size) (by omega) pO
           (ai.sub _ _) (aU.sub _ _) (by rw[aB,GA];exact Oe) zdj
          simp only[Op.eqFields,aX,ne_eq,not_false_eq_true,gW,Sem.run_bind,jf,jU,Result.andThen_ok,heq];rw[he,aB,GA];cases ad:jt ((xs.drop acc.length).take n_.length) ((aV.drop acc.length).take n_.length)with
          |false=>simp
          |true=>simp only[Bool.not_true,pP,hy,ig];rw[zdk];simp
     obtain⟨_,uB⟩:=key ez.toList [] ak (cj _);simpa using uB
   |_=>cases ak
end
end
open Go.MapKept
section
variable [bn]
section
variable {P:aM}{w:bb}{S:Nat->Prop}
structure uC(P:aM)(ga:aP)(cn:gA):Prop where
 check:∀{w:bb} {S:Nat->Prop} {k:aG} {v:aI} (em:Bool),kd cn k=true->cz w S k v->(Instr.checkKey em 10000 ga v).run P w=.ok () w
 find:∀{w:bb} {S:Nat->Prop} {k:aG} {v:aI} {es:List (aG×aG)} {ents:List MapEntry} {r:Option Nat},kd cn k=true->cz w S k v->ents.length=es.length ->
  (∀(j:Nat) (x:aG×aG),es[j]?=some x->∃e,ents[j]?=some e/\cz w S x.1 e.key)->fz cn k es 0=some r ->
  match r with
  |none=>(Instr.findKey ga v ents).run P w=.ok none w
  |some j=>∃e,ents[j]?=some e/\e.key=v/\(Instr.findKey ga v ents).run P w=.ok (some (j,e.val)) w
 stays:∀{w:bb} {S:Nat->Prop} {k:aG} {v:aI},kd cn k=true->cz w S k v->(Instr.keyThatStays v v).run P w=.ok v w
def gA.fits:gA->TypeDesc->Prop
 |.s,d=>d=.string
 |.i k,d=>d=.int k
 |.b,d=>d=.bool
 |.st _,_=>False
def UB{cn:gA}{d:TypeDesc}{k:aG}{v:aI}(aA:cn.fits d)(ak:kd cn k=true)(ao:cz w S k v):IsKey d v:=by
 cases cn<;>(try (exact aA.elim))<;>cases k<;>(try (rename_i c;cases c))<;>simp[kd]at ak
 ·obtain rfl:=aA;obtain⟨rfl,_⟩:=nt ao;trivial
 ·obtain rfl:=aA;obtain rfl:=jv ao;exact ak
 ·obtain rfl:=aA;obtain rfl:=pM ao;trivial
def UC{cn:gA}{d:TypeDesc}{k cq:aG}{v cW:aI}{r:Bool}(aA:cn.fits d)(aa:cz w S k v)(ab:cz w S cq cW)(h:uw cn k cq=some r) :
  Instr.sameNow d v cW=some r/\(r=true->v=cW):=by
 unfold uw at h;split at h
 ·rename_i a b;obtain rfl:=aA;obtain⟨rfl,_⟩:=nt aa;obtain⟨rfl,_⟩:=nt ab;injection h with h
  subst h;have:((⟨a.toArray⟩:ByteArray)==⟨b.toArray⟩)=(a==b):=by
   show (a.toArray==b.toArray)=(a==b)
   simp
  refine⟨by simp only[Instr.sameNow,this],fun e=>by rw[fc.1 e]⟩
 ·obtain rfl:=aA;obtain rfl:=jv aa;obtain rfl:=jv ab;split at h
  ·rename_i ak;subst ak;injection h with h
   subst h;exact⟨by simp[Instr.sameNow],fun e=>by rw[fc.1 e]⟩
  ·cases h
 ·obtain rfl:=aA;obtain rfl:=pM aa;obtain rfl:=pM ab;injection h with h;subst h
  exact⟨rfl,fun e=>by rw[fc.1 e]⟩
 ·exact aA.elim
 ·cases h
def UD{cn:gA}{d:TypeDesc}{k:aG}{v:aI}(aA:cn.fits d)(ak:cz w S k v):∀(es:List (aG×aG)) (ents:List MapEntry) (i:Nat) (r:Option Nat),
  (ents.length=es.length)->(∀(j:Nat) (x:aG×aG),es[j]?=some x->∃e,ents[j]?=some e/\cz w S x.1 e.key)->fz cn k es i=some r ->
  match r with
  |none=>Instr.findNow d v ents i=some none
  |some j=>∃e,i<=j/\ents[j-i]?=some e/\e.key=v/\Instr.findNow d v ents i=some (some (j,e.val))
 |[],ents,i,r,al,_,h=>by have:ents=[]:=n5 al;subst this;simp[fz]at h;subst h;rfl
 |x::es,ents,i,r,al,ai,h=>by
  cases ents with
  |nil=>simp at al
  |cons cC ents=>
   obtain⟨e,he,ao⟩:=ai 0 x rfl;simp at he;subst he;simp only[fz]at h;split at h
   ·rename_i heq;injection h with h
    subst h;obtain⟨aa,ab⟩:=UC aA ak ao heq;exact⟨cC,f_ _,by simp,(ab rfl).symm,by simp[Instr.findNow,aa]⟩
   ·rename_i heq;obtain⟨aa,_⟩:=UC aA ak ao heq;have ba:=UD aA ak es ents (i+1) r (by simpa using al) (fun j y ac=>by simpa using ai (j+1) y (by simpa using ac)) h;cases r with
    |none=>simp only[Instr.findNow,aa];exact ba
    |some j=>obtain⟨e,cG,bF,mK,aw⟩:=ba;refine⟨e,by omega,?_,mK,by simp only[Instr.findNow,aa];exact aw⟩;rw[show j-i=(j-(i+1))+1 by omega];simpa using bF
   ·cases h
def uC.basic{ga:aP}{d:TypeDesc}{cn:gA}(hu:P.underlying ga=some d)(aA:cn.fits d):uC P ga cn where
 check:=fun em aD ao=>Go.MapKept.run_checkKey hu (UB aA aD ao) em 9999
 stays:=fun aD ao=>Go.MapKept.run_keyThatStays (UB aA aD ao)
 find:=fun {w S k v es ents r} aD ao al ai aw=>by
  have aX:=UD aA ao es ents 0 r al ai aw;cases r with
  |none=>exact Go.MapKept.run_findKey hu aX
  |some j=>obtain⟨e,_,bF,mK,ix⟩:=aX;exact⟨e,by simpa using bF,mK,Go.MapKept.run_findKey hu ix⟩
def GB:∀{bp:List hK} {xs aV:List ag},jS bp xs aV=true->iP bp xs aV
 |[],xs,aV,h=>by cases xs<;>cases aV<;>simp_all [jS,iP]
 |k::bp,[],aV,h=>by cases k<;>simp[jS]at h
 |k::bp,x::xs,[],h=>by cases k<;>cases x<;>simp[jS]at h
 |k::bp,x::xs,y::aV,h=>by
  cases k<;>cases x<;>cases y<;>simp[jS]at h<;>simp only[iP]
  ·exact GB h
  ·exact⟨h.1,GB h.2⟩
  ·exact GB h
def cO.rest{x:ag}{u:aI}{xs:List ag}{us:List aI}(h:cO w S (x::xs) (u::us)):cO w S xs us:=
 ⟨by have:=h.1;simpa using this,fun j c ac=>by simpa using h.2 (j+1) c (by simpa using ac)⟩
def J0:∀{bp:List hK} {xs aV:List ag} {us vs:List aI},jS bp xs aV=true->jt xs aV=true->cO w S xs us->cO w S aV vs->us=vs
 |[],xs,aV,us,vs,h,_,aa,ab=>by cases xs<;>cases aV<;>simp[jS]at h;have ax:us=[]:=n5 aa.1;have aK:vs=[]:=n5 ab.1;rw[ax,aK]
 |k::bp,[],aV,us,vs,h,_,_,_=>by cases k<;>simp[jS]at h
 |k::bp,x::xs,[],us,vs,h,_,_,_=>by cases k<;>cases x<;>simp[jS]at h
 |k::bp,x::xs,y::aV,us,vs,h,he,aa,ab=>by
  obtain⟨u,us,rfl,iy⟩:=aa.head;obtain⟨v,vs,rfl,mL⟩:=ab.head;have t1:cO w S xs us:=aa.rest;have t2:cO w S aV vs:=ab.rest;cases k<;>cases x<;>cases y<;>simp[jS]at h<;>simp only[jt,b7,fc]at he
  ·rw[pM iy,pM mL,he.1,J0 h he.2 t1 t2]
  ·rw[jv iy,jv mL,he.1,h.1,J0 h.2 he.2 t1 t2]
  ·rw[(nt iy).1,(nt mL).1,he.1,J0 h he.2 t1 t2]
def zdl{t:aP}(h:Gs P t=true)(em:Bool)(n:Nat)(v:aI):(Instr.checkKey em (n+1) t v).run P w=.ok () w:=by
 unfold Gs at h;split at h
 ·rename_i hu;simp[Instr.checkKey,run_underlying hu]
 ·rename_i hu;simp[Instr.checkKey,run_underlying hu]
 ·rename_i hu;simp[Instr.checkKey,run_underlying hu]
 ·cases h
def zdm{d:Nat}:∀(l:List Field) (a b:List hK),l.foldl (rT P d) (some a)=some b->a.length<=b.length:=by
 intro l;induction l with
 |nil=>intro a b h;simp at h;subst h;exact f_ _
 |cons g l Od=>
  intro a b h;simp only[Dw]at h;cases ay:rT P d (some a) g with
  |none=>rw[ay,Dv]at h;cases h
  |some a'=>
   rw[ay]at h;have:=Od _ _ h;simp only[rT]at ay;split at ay
   ·split at ay
    ·cases ay
    ·rename_i ax aK _;injection ax with ax
     injection ay with ay;subst ax;subst ay
     simp at this;omega
   ·cases ay
def UE(em:Bool)(n d:Nat)(us:Array aI){bp:List hK}(al:us.size=bp.length):∀(l:List Field) (acc:List hK),l.foldl (rT P d) (some acc)=some bp->(∀f∈l,Gs P f.type=true) ->
  ((forIn l PUnit.unit (fun (f:Field) (_:PUnit)=>(do
    if f.name≠ "_" then do
     let x <-part f.type us f.offset
     Instr.checkKey em (n+1) f.type x
     pure (ForInStep.yield PUnit.unit)
    else pure (ForInStep.yield PUnit.unit):Sem (ForInStep PUnit)))):Sem PUnit).run P w=.ok PUnit.unit w
 |[],_,_,_=>by simp
 |f::l,acc,h,ad=>by
  simp only[Dw]at h;cases pO:rT P d (some acc) f with
  |none=>rw[pO,Dv]at h;cases h
  |some pQ=>
   rw[pO]at h;have ba:=UE em n d us al l pQ h (fun g ay=>ad g (by simp[ay]));have cX:=zdm l _ _ h;simp only[rT]at pO;cases Dy:rS P d f.type with
   |none=>simp[Dy]at pO
   |some n_=>
    simp only[Dy]at pO;split at pO
    ·cases pO
    ·rename_i AW;injection pO with pO
     subst pO;have aX:f.name≠ "_" :=fun e=>AW (.inl e);have cB:(P.info? f.type).map (·.size)=some n_.length:=AX fun e=>AW (.inr (.inr (.inl e)));obtain⟨i,ah,GA⟩:∃i,P.info? f.type=some i/\i.size=n_.length:=by
      cases ah:P.info? f.type with
      |none=>rw[ah]at cB;cases cB
      |some i=>rw[ah]at cB;exact⟨i,rfl,by simpa using cB⟩
     obtain⟨ty,uA⟩:=Uz Dy;rw[eG]at cX;have jf:=N' (P:=P) uA ah us f.offset (by omega) (by omega) w;simp only[List.forIn_cons,Sem.run_bind,aX,ne_eq,not_false_eq_true,gW,jf,Result.andThen_ok,zdl (ad f (by simp)),Sem.run_pure];exact ba
def zdn{k:aP}{bp:List hK}(h:AQ P k=some (.st bp)):∃ez,P.underlying k=some (.struct ez)/\uv P k=some bp/\(∀f∈ez.toList,Gs P f.type=true):=by
 unfold AQ at h;split at h
 ·cases h
 ·cases h
 ·cases h
 ·rename_i ez hu;split at h
  ·rename_i vW hd ad;injection h with h
   injection h with h;subst h
   exact⟨ez,hu,hd,fun f aw=>hJ.1 ad f aw⟩
  ·cases h
 ·cases h
def uC.struct{ga:aP}{bp:List hK}(h:AQ P ga=some (.st bp)):uC P ga (.st bp):=by
 obtain⟨ez,hu,hd,ad⟩:=zdn h;unfold uv at hd;split at hd;rotate_left
 ·cases hd
 rename_i zsC rU vW ay UF vX;injection hd with hd
 subst hd;have GC:rS P (99+1) ga=some (rU::vW):=vX;rw[rS,hu]at GC;dsimp only at GC;split at GC
 ·cases GC
 have gV:∀l:Array aI,valOf P ga l.toList=.agg l:=fun l=>by simp[valOf,hu]
 have Do:∀{w:bb} {S:Nat->Prop} {k:aG} {v:aI},kd (.st (rU::vW)) k=true->cz w S k v->∃xs us,k=.agg xs/\v=.agg us/\cO w S xs us.toList/\jS (rU::vW) xs xs=true:=by
  intro w S k v aD ao;cases k with
  |one c=>simp[kd]at aD
  |agg xs=>obtain⟨us,rfl,al⟩:=ao;exact⟨xs,us,rfl,rfl,al,aD⟩
 refine⟨fun {w S k v} em aD ao=>?_,fun {w S k v es ents r} aD ao al ai aw=>?_,fun {w S k v} aD ao=>?_⟩
 ·obtain⟨xs,us,rfl,rfl,al,fm⟩:=Do aD ao;have cX:=(Du (GB fm)).1;have nv:us.size=(rU::vW).length:=by have:=al.1;rw[l4]at this;omega
  rw[show (10000:Nat)=9998+1+1 from rfl,Instr.checkKey];simp only[Sem.run_bind,run_underlying hu,Result.andThen_ok];rw[<-Array.forIn_toList];have:=UE (P:=P) (w:=w) em 9998 99 us nv ez.toList [] GC ad;rw[this];simp
 ·obtain⟨xs,us,rfl,rfl,J1,fm⟩:=Do aD ao;have key:∀(es:List (aG×aG)) (ents:List MapEntry) (i:Nat),ents.length=es.length->(∀(j:Nat) (x:aG×aG),es[j]?=some x->∃e,ents[j]?=some e/\cz w S x.1 e.key)->fz (.st (rU::vW)) (.agg xs) es i=some r ->
  match r with
  |none=>(Instr.findAsking ga (.agg us) ents i).run P w=.ok none w
  |some j=>∃e,i<=j/\ents[j-i]?=some e/\e.key=.agg us/\(Instr.findAsking ga (.agg us) ents i).run P w=.ok (some (j,e.val)) w:=by
   intro es;induction es with
   |nil=>intro ents i al _ h;have:ents=[]:=n5 al;subst this;simp only[fz,b9]at h;subst h;simp[Instr.findAsking]
   |cons x es ba=>
    intro ents i al ai h;cases ents with
    |nil=>simp at al
    |cons cC ents=>
     obtain⟨e,he,ao⟩:=ai 0 x rfl;simp only[GD,b9]at he;subst he;obtain⟨cH,dl⟩:=x;simp only[fz]at h;cases cH with
     |one c=>simp[uw]at h
     |agg aV=>
      obtain⟨vs,aF,UG⟩:=ao;simp only[uw]at h;by_cases AY:jS (rU::vW) xs aV=true
      ·rw[av AY]at h;have heq:(Op.equal ga (.agg us) cC.key).run P w=.ok (jt xs aV) w:=by
        have:=UA (P:=P) (w:=w) 100 10000 ga (rU::vW) xs aV us.toList vs.toList (by omega) vX J1 UG (GB AY) (by simp);rw[gV,gV]at this;rw[aF];exact this
       cases ap:jt xs aV with
       |true=>rw[ap]at h heq;simp only[b9]at h;subst h;refine⟨cC,f_ _,by simp,?_,by simp[Instr.findAsking,heq]⟩;have:=J0 AY ap J1 UG;rw[aF];congr 1;exact rQ this.symm
       |false=>
        rw[ap]at h heq;simp only at h;have ba:=ba ents (i+1) (by simpa using al) (fun j y ac=>by simpa using ai (j+1) y (by simpa using ac)) h;cases r with
        |none=>simpa[Instr.findAsking,heq]using ba
        |some j=>obtain⟨e,cG,bF,mK,aw⟩:=ba;refine⟨e,by omega,?_,mK,by simpa[Instr.findAsking,heq]using aw⟩;rw[show j-i=(j-(i+1))+1 by omega];simpa using bF
      ·rw[an AY]at h;cases h
  have ak:=key es ents 0 al ai aw;have UH:(match P.underlying ga with|some (.array _ _)|some (.struct _)=>true|_=>false)=true:=by rw[hu]
  cases r with
  |none=>rw[run_findKey_eq w UH];exact ak
  |some j=>obtain⟨e,_,bF,mK,ix⟩:=ak;exact⟨e,by simpa using bF,mK,by rw[run_findKey_eq w UH];exact ix⟩
 ·obtain⟨xs,us,rfl,rfl,J1,fm⟩:=Do aD ao;have n':∀(u:aI),u∈us.toList->Instr.sameBits 9999 u u=true:=by
   have key:∀(bp:List hK) (xs:List ag) (us:List aI),jS bp xs xs=true->cO w S xs us->∀u∈us,Instr.sameBits 9999 u u=true:=by
    intro bp;induction bp with
    |nil=>
     intro xs us h al u hu;cases xs with
     |nil=>have ax:us=[]:=n5 al.1;subst ax;cases hu
     |cons x xs=>simp[jS]at h
    |cons k bp ba=>
     intro xs us h al u hu;cases xs with
     |nil=>cases k<;>simp[jS]at h
     |cons x xs=>
      obtain⟨v,vs,rfl,iy⟩:=al.head;rcases fp.1 hu with rfl|hu
      ·cases k<;>cases x<;>simp[jS]at h
       ·rw[pM iy];simp[Instr.sameBits]
       ·rw[jv iy];simp[Instr.sameBits]
       ·rw[(nt iy).1];simp[Instr.sameBits,Go.MapKept.bytes_beq]
      ·cases k<;>cases x<;>simp[jS]at h<;>exact ba xs vs (by first|exact h|exact h.2) al.rest u hu
   exact key _ _ _ fm J1
  have hs:Instr.sameBits 10000 (.agg us) (.agg us)=true:=by show Instr.sameBits (9999+1) (.agg us) (.agg us)=true;simp only[Instr.sameBits,nw,ig,hJ];intro p am;obtain⟨i,ah,e⟩:=GF am;rw[List.getElem_zip]at e;rw[<-e];exact n' _ (hS _)
  simp[Instr.keyThatStays,hs]
def UI{a:Bool}{cs:List ag}{U:Nat->aI}{v:aI}(h:JR a ((List.range cs.length).map U) v)(ao:∀(i:Nat) (c:ag),cs[i]?=some c->bD w S c (U i)):cz w S (vN a cs) v:=by
 cases a with
 |true=>have h:v=.agg ((List.range cs.length).map U).toArray:=h;subst h;refine⟨_,rfl,by simp,fun j c ac=>?_⟩;have ar:=(eQ.1 ac).1;exact⟨U j,by simp[ar],ao j c ac⟩
 |false=>
  have h:(List.range cs.length).map U=[v]:=h;have al:=pR List.length h;simp only[GG,List.length_range,qN]at al;obtain⟨c,rfl⟩:=GH.1 al;have aF:U 0=v:=by simpa using h
  rw[<-aF];exact ao 0 c rfl
def zdo{gz gT:Bool}{bp vs:List (List ag)}{v:aI}(h:bD w S (.i8 gz gT bp vs) v):∃(b c:Nat) (ents:Array MapEntry) (bs:List Nat),v=.map (some b)/\S b/\w.heap[b]?=some (.map ents c)/\s7 w S bs (hR gz gT bp vs) ents.toList:=by
 cases h with
 |i8 b c ents _ _ _ _ U V hs bo aX hm ak aF qK uu=>
  refine⟨b,c,ents,ents.toList.map (·.born),rfl,hs,bo,?_,?_,fun j x ac=>?_⟩
  ·simp[hR,aX,hm]
  ·simp[hR,aX,hm]
  ·unfold hR at ac;rw[eZ]at ac;cases aZ:(bp.zip vs)[j]? with
   |none=>rw[aZ]at ac;cases ac
   |some y=>
    rw[aZ]at ac;injection ac with ac
    subst ac;rw[List.getElem?_zip_eq_some]at aZ;obtain⟨e,aa,ab⟩:=ak j y.1 aZ.1;obtain⟨cg,au,aN⟩:=aF j y.2 aZ.2;rw[aa]at au;injection au with au
    subst au;exact⟨e,aa,by rw[eZ,aa];rfl,UI ab (fun i c ap=>qK j y.1 i c aZ.1 ap),UI aN (fun i c ap=>uu j y.2 i c aZ.2 ap)⟩
def J2{P:aM}{t:aP}{cn:gA}{e:aP}(h:n8 P t=some (cn,e)):∃k,P.underlying t=some (.map k e)/\uC P k cn:=by
 unfold n8 at h;split at h
 ·rename_i k cg hu;split at h
  ·rename_i zdp ak;simp only[b9,cA]at h;obtain⟨rfl,rfl⟩:=h;refine⟨k,hu,?_⟩;cases zdp with
   |st bp=>exact uC.struct ak
   |s=>unfold AQ at ak;split at ak<;>first|(cases ak;done)|(rename_i q;exact uC.basic q rfl)|(split at ak<;>cases ak)
   |i q=>unfold AQ at ak;split at ak<;>first|(rename_i bK;injection ak with ak;injection ak with ak;subst ak;exact uC.basic bK rfl)|(cases ak;done)|(split at ak<;>cases ak)
   |b=>unfold AQ at ak;split at ak<;>first|(cases ak;done)|(rename_i q;exact uC.basic q rfl)|(split at ak<;>cases ak)
  ·cases h
 ·cases h
def zdq{t:aP}{x:aG}(h:eH P t=some x):∃z,(zeroValue t).run P w=.ok z w/\cz w S x z:=by
 unfold eH at h;split at h
 ·rename_i i ah;split at h
  ·rename_i us aZ;split at h
   ·rename_i kv;injection h with h
    subst h;refine⟨.agg us,by simp[zeroValue,typeInfo,ah,aZ],us,rfl,by simp,fun j c ac=>?_⟩;rw[eZ]at ac;cases hu:us.toList[j]? with
    |none=>rw[hu]at ac;cases ac
    |some u=>
     rw[hu]at ac;injection ac with ac
     subst ac;exact⟨u,rfl,Gq (hJ.1 kv u (kt hu))⟩
   ·cases h
  ·rename_i v _ aZ;split at h
   ·rename_i hs;injection h with h
    subst h;exact⟨v,by simp[zeroValue,typeInfo,ah,aZ],Gq hs⟩
   ·cases h
  ·cases h
 ·cases h
def UJ{t ga qO:aP}{cn:gA}{b c:Nat}{ents:Array MapEntry}{bs:List Nat}{es:List (aG×aG)}{k x:aG}{lD bP:aI}{r:Option Nat}
  (bv:P.underlying t=some (.map ga qO))(hu:uC P ga cn)(ad:w.heap[b]?=some (.map ents c))(he:s7 w S bs es ents.toList)
  (ak:cz w S k lD)(aD:kd cn k=true)(ai:cz w S x bP)(aw:fz cn k es 0=some r) :
  ∃vY c',(Instr.mapUpdate t (.map (some b)) lD bP).run P w=.ok () {w with heap:=w.heap.setIfInBounds b (.map vY c')} /\
   c'=(ic c bs es k x r).1/\s7 w S (ic c bs es k x r).2.1 (ic c bs es k x r).2.2 vY.toList:=by
 have GE:=hu.check (em:=ents.isEmpty) aD ak;have UK:=hu.check (em:=false) aD ak;have aX:=hu.find (es:=es) (ents:=ents.toList) (r:=r) aD ak he.1 (fun j y ac=>by obtain⟨e,aa,_,ab,_⟩:=he.2.2 j y ac;exact⟨e,aa,ab⟩) aw;cases r with
 |none=>
  refine⟨ents.push {key:=lD,val:=bP,born:=c},c+1,?_,rfl,?_⟩
  ·simp[Instr.mapUpdate,run_underlying bv,Go.MapKept.run_getObj_map ad,UK,aX,Go.MapKept.run_setObj_map _ ad,Result.andThen]
  ·simp only[ic,Array.toList_push];refine⟨by simp[he.1],by simp[he.2.1],fun j y ac=>?_⟩;by_cases ar:j<es.length
   ·rw[kx ar]at ac;rw[kx (by rw[he.1];exact ar),kx (by rw[he.2.1];exact ar)];exact he.2.2 j y ac
   ·rw[l_ (by omega)]at ac;have AZ:j-es.length=0:=by
     cases h:j-es.length with
     |zero=>rfl
     |succ m=>rw[h]at ac;simp at ac
    rw[AZ]at ac;simp at ac;subst ac;refine⟨{key:=lD,val:=bP,born:=c},?_,?_,ak,ai⟩
    ·rw[l_ (by rw[he.1];omega),he.1,AZ];rfl
    ·rw[l_ (by rw[he.2.1];omega),he.2.1,AZ];rfl
 |some i=>
  obtain⟨e,bF,mK,ix⟩:=aX;have J3:ents[i]?=some e:=by simpa using bF
  refine⟨ents.modify i fun e=>{e with key:=lD,val:=bP},c,?_,rfl,?_⟩
  ·have cu:(Instr.keyThatStays e.key lD).run P w=.ok lD w:=by rw[mK];exact hu.stays aD ak
   simp[Instr.mapUpdate,run_underlying bv,Go.MapKept.run_getObj_map ad,UK,ix,J3,cu,Go.MapKept.run_setObj_map _ ad,Result.andThen]
  ·simp only[ic];refine⟨by simp[he.1],by simp[he.2.1],fun j y ac=>?_⟩;rw[y7]at ac;split at ac
   ·rename_i cV;subst cV;split at ac
    ·injection ac with ac;subst ac
     have ar:i<es.length:=by assumption
     obtain⟨cg,aa,ab,_⟩:=he.2.2 i es[i] (cr ar);rw[bF]at aa;injection aa with aa;subst aa
     refine⟨{e with key:=lD,val:=bP},?_,ab,ak,ai⟩;simp[J3]
    ·cases ac
   ·rename_i cV;obtain⟨cg,aa,ab⟩:=he.2.2 j y ac;refine⟨cg,?_,ab⟩;have:(ents.modify i fun e=>{e with key:=lD,val:=bP})[j]?=ents[j]?:=by
     rw[Of,an cV]
    rw[Array.getElem?_toList]at aa⊢;rw[this];exact aa
def zdr{t ga qO:aP}{cn:gA}{b c:Nat}{ents:Array MapEntry}{bs:List Nat}{es:List (aG×aG)}{k:aG}{lD z:aI}{r:Option Nat}(ok:Bool)
  (bv:P.underlying t=some (.map ga qO))(hu:uC P ga cn)(ad:w.heap[b]?=some (.map ents c))(he:s7 w S bs es ents.toList)
  (ak:cz w S k lD)(aD:kd cn k=true)(aw:fz cn k es 0=some r)(aZ:(zeroValue qO).run P w=.ok z w) :
  ∃v,(Instr.lookup t (.map (some b)) lD ok).run P w=.ok (if ok then .tuple #[v,.bool r.isSome]else v) w /\
   match r with
   |none=>v=z
   |some i=>∃x,es[i]?=some x/\cz w S x.2 v:=by
 have GE:=hu.check (em:=ents.isEmpty) aD ak;have aX:=hu.find (es:=es) (ents:=ents.toList) (r:=r) aD ak he.1 (fun j y ac=>by obtain⟨e,aa,_,ab,_⟩:=he.2.2 j y ac;exact⟨e,aa,ab⟩) aw;cases r with
 |none=>refine⟨z,?_,rfl⟩;cases ok<;>simp[Instr.lookup,run_underlying bv,Go.MapKept.run_getObj_map ad,GE,aX,aZ,Result.andThen]
 |some i=>
  obtain⟨e,bF,mK,ix⟩:=aX;have ar:i<es.length:=by have:=(eQ.1 bF).1;have:=he.1;omega
  obtain⟨cg,aa,_,_,ab⟩:=he.2.2 i es[i] (cr ar);rw[bF]at aa;injection aa with aa;subst aa
  refine⟨e.val,?_,es[i],cr ar,ab⟩;cases ok<;>simp[Instr.lookup,run_underlying bv,Go.MapKept.run_getObj_map ad,GE,ix,Result.andThen]
end
end
section
variable [bn]
section
variable {P:aM}{S0:Env}{w0 w:bb}{n:Nat}{s:aj}{a:Act}
abbrev eu(S0:Env)(w0:bb)(s:aj)(a:Act)(w:bb)(r:Prop×ae)(v:aI):Prop:=r.1->mI S0 w0 s a w r.2 v
abbrev Yields(P:aM)(S0:Env)(w0:bb)(s:aj)(a:Act)(w:bb)(m:Sem aI)(r:ae):Prop:=
 ∃v,m.run P w=.ok v w/\mI S0 w0 s a w r v/\r.aR=false
def UL{t:aP}(h:ju P t=true):∃e,P.underlying t=some (.slice e):=by
 unfold ju at h;split at h
 ·exact⟨_,by assumption⟩
 ·cases h
inductive GI:aI->Bool->Prop where
 |yes:GI (.slice none 0 0) true
 |no (a:Addr) (l c:Nat):GI (.slice (some a) l c) false
def UM{S:Nat->Prop}{c:ag}{v:aI}{b:Bool}(h:bD w S c v)(ad:AS c=some b):∃br,GI v br/\br=b:=by
 unfold AS at ad;split at ad
 ·cases h;injection ad with ad;exact⟨_,.yes,ad⟩
 ·cases h;injection ad with ad;exact⟨_,.no _ _ _,ad⟩
 ·cases h;injection ad with ad;exact⟨_,.no _ _ _,ad⟩
 ·cases ad
def UN(d:Nat){t e:aP}{v:aI}{b:Bool}(h:GI v b)(he:P.underlying t=some (.slice e)):(Op.equalIn (d+1) t v (.slice none 0 0)).run P w=.ok b w:=by cases h<;>simp[Op.equalIn,run_underlying he]
def UO(op:BinOp)(t:aP)(gN e0:aW){u v:aI}{b:Bool}(hu:GI u b):(eqGuard op t gN e0 u v).run P w=.ok () w:=by cases hu<;>simp[eqGuard]
def zds{y:aW}(h:Gx y=true):y=.const .nilIface:=by
 unfold Gx at h;split at h
 ·rfl
 ·cases h
def J4{t:aP}(h:Dt P t=true):∃e,P.underlying t=some (.interface e):=by
 unfold Dt at h;split at h
 ·exact⟨_,by assumption⟩
 ·cases h
def J5{w:bb}{S:Nat->Prop}{u v:aI}(h:bD w S (.atom u) v):v=u:=by cases h;rfl
def UP(d:Nat){t:aP} {ms} (he:P.underlying t=some (.interface ms)):(Op.equalIn (d+1) t .nilIface .nilIface).run P w=.ok true w:=by simp[Op.equalIn,run_underlying he]
def UQ(d:Nat){t:aP} {ms} (y:aP) (v:aI) (he:P.underlying t=some (.interface ms)):(Op.equalIn (d+1) t (.iface y v) .nilIface).run P w=.ok false w:=by simp[Op.equalIn,run_underlying he]
def UR(op:BinOp)(t:aP)(gN:aW):(eqGuard op t gN (.const .nilIface) .nilIface .nilIface).run P w=.ok () w:=by unfold eqGuard;cases op<;>simp
def US(op:BinOp)(t:aP)(gN e0:aW)(y:aP)(v:aI):(eqGuard op t gN e0 (.iface y v) .nilIface).run P w=.ok () w:=by unfold eqGuard;cases op<;>simp
def zdt(op:BinOp)(t:aP)(gN:aW){x:Prop×ae}{u:aI}(ai:eu S0 w0 s a w x u)(am:(AV P op t x).1) :
  Yields P S0 w0 s a w (do eqGuard op t gN (.const .nilIface) u .nilIface;binOp op t u .nilIface) (AV P op t x).2:=by
 unfold AV at am⊢;split at am
 ·obtain⟨jf,jU⟩:=am;obtain⟨e,he⟩:=J4 jU;obtain rfl:=J5 (ai jf);refine⟨_,?_,bD.bool _,rfl⟩;have bK:=UP (P:=P) (w:=w) 9999 he;simp only[Sem.run_bind,UR (P:=P) .eql t gN,Result.andThen_ok];simp only[binOp,Op.equal,Op.maxDepth,Sem.run_bind,bK,Result.andThen_ok];rfl
 ·obtain⟨jf,jU⟩:=am;obtain⟨e,he⟩:=J4 jU;obtain rfl:=J5 (ai jf);refine⟨_,?_,bD.bool _,rfl⟩;have bK:=UP (P:=P) (w:=w) 9999 he;simp only[Sem.run_bind,UR (P:=P) .neq t gN,Result.andThen_ok];simp only[binOp,Op.equal,Op.maxDepth,Sem.run_bind,bK,Result.andThen_ok];rfl
 ·rename_i y v;obtain⟨jf,jU⟩:=am;obtain⟨e,he⟩:=J4 jU;obtain rfl:=J5 (ai jf);refine⟨_,?_,bD.bool _,rfl⟩;have bK:=UQ (P:=P) (w:=w) 9999 y v he;simp only[Sem.run_bind,US (P:=P) .eql t gN _ y v,Result.andThen_ok];simp only[binOp,Op.equal,Op.maxDepth,Sem.run_bind,bK,Result.andThen_ok];rfl
 ·rename_i y v;obtain⟨jf,jU⟩:=am;obtain⟨e,he⟩:=J4 jU;obtain rfl:=J5 (ai jf);refine⟨_,?_,bD.bool _,rfl⟩;have bK:=UQ (P:=P) (w:=w) 9999 y v he;simp only[Sem.run_bind,US (P:=P) .neq t gN _ y v,Result.andThen_ok];simp only[binOp,Op.equal,Op.maxDepth,Sem.run_bind,bK,Result.andThen_ok];rfl
 ·exact am.elim
def zdu(op:BinOp)(t:aP)(gN e0:aW){x y:Prop×ae}{u v:aI}(ai:eu S0 w0 s a w x u)(aU:eu S0 w0 s a w y v)(am:(hL P op t x y).1) :
  Yields P S0 w0 s a w (do eqGuard op t gN e0 u v;binOp op t u v) (hL P op t x y).2:=by
 obtain⟨p,x⟩:=x;obtain⟨q,y⟩:=y;unfold hL at am⊢;split at am
 ·rename_i fa eV ax aK;injection ax with rV rW;subst rV;subst rW
  injection aK with pS pT;subst pS;subst pT
  cases op<;>first|exact am.elim|skip
  all_goals
   simp only at am⊢;obtain⟨jf,jU,hu⟩:=am;obtain rfl:=pM (ai jf);obtain rfl:=pM (aU jU);refine⟨_,?_,bD.bool _,rfl⟩;rw[eqGuard_at_bool];simp[binOp,Op.equal,Op.maxDepth,run_equalIn_bool' w 9999 t _ _ hu,bne]
 ·rename_i bw ax aK;injection ax with rV rW;subst rV;subst rW
  injection aK with pS pT;subst pS;subst pT
  unfold Gt at am⊢;split at am
  ·rename_i b ad;obtain⟨jf,jU,bv⟩:=am;obtain⟨e,he⟩:=UL bv;obtain⟨r,ao,cm⟩:=UM (ai jf) ad;subst cm;obtain rfl:=te (aU jU);refine⟨_,?_,bD.bool _,rfl⟩;simp only[Sem.run_bind,UO (P:=P) .eql t gN e0 ao,Result.andThen_ok];have bK:=UN (P:=P) (w:=w) 9999 ao he;cases ao<;>simp only[binOp,Op.equal,Op.maxDepth,Sem.run_bind,bK,Result.andThen_ok]<;>rfl
  ·rename_i b ad;obtain⟨jf,jU,bv⟩:=am;obtain⟨e,he⟩:=UL bv;obtain⟨r,ao,cm⟩:=UM (ai jf) ad;subst cm;obtain rfl:=te (aU jU);refine⟨_,?_,bD.bool _,rfl⟩;simp only[Sem.run_bind,UO (P:=P) .neq t gN e0 ao,Result.andThen_ok];have bK:=UN (P:=P) (w:=w) 9999 ao he;cases ao<;>simp only[binOp,Op.equal,Op.maxDepth,Sem.run_bind,bK,Result.andThen_ok]<;>rfl
  ·exact am.elim
 ·rename_i bw bA bY UT ax aK;injection ax with rV rW;subst rV;subst rW
  injection aK with pS pT;subst pS;subst pT
  simp only at am⊢;obtain⟨jf,jU,Og⟩:=am;obtain⟨r,ao,b8⟩:=zdb (P:=P) op t (ai jf) (aU jU) Og;refine⟨r,?_,b8,rfl⟩;simp only[Sem.run_bind,zdc (P:=P) op t gN e0 (ai jf) (aU jU) Og,Result.andThen_ok,ao]
 ·rename_i xs aV ax aK;injection ax with rV rW;subst rV;subst rW
  injection aK with pS pT;subst pS;subst pT
  cases hd:uv P t with
  |none=>rw[hd]at am;exact am.elim
  |some bp=>
   rw[hd]at am;unfold uv at hd;split at hd
   ·rename_i ez k vW ay UF vX;injection hd with hd
    subst hd;cases op<;>first|exact am.elim|skip
    all_goals
     simp only at am⊢;obtain⟨jf,jU,aw⟩:=am;obtain⟨us,rfl,nv⟩:=ai jf;obtain⟨vs,rfl,gO⟩:=aU jU;refine⟨_,?_,bD.bool _,rfl⟩;simp only[Sem.run_bind,run_eqGuard_agg (P:=P) w _ t gN e0 us vs ay,Result.andThen_ok,run_eql_struct,run_neq_struct];have gV:∀l:Array aI,valOf P t l.toList=.agg l:=fun l=>by simp[valOf,UF]
     have heq:=UA (P:=P) (w:=w) 100 10000 t (k::vW) _ _ us.toList vs.toList (by omega) vX nv gO aw (by simp);rw[gV,gV]at heq;rw[heq];rfl
   ·cases hd
 ·exact am.elim
def zdv{c x y:Prop×ae}{UU bP Oh:aI}(ap:eu S0 w0 s a w c UU)(ai:eu S0 w0 s a w x bP)(aU:eu S0 w0 s a w y Oh)(am:(Dn c x y).1) :
  Yields P S0 w0 s a w (do pure (if <-asBool UU then bP else Oh)) (Dn c x y).2:=by
 obtain⟨vO,c⟩:=c;obtain⟨zdw,x⟩:=x;obtain⟨zsD,y⟩:=y
 match c,x,y,am with
 |.x (.one (.bool e)),.x JV,.x JW,am=>
  obtain⟨aa,ab,au⟩:=am;obtain rfl:=pM (ap aa);refine⟨if e then bP else Oh,by simp[asBool],?_,rfl⟩;have zdx:∀(S:Nat->Prop) (v:aI),cz w S (bif e then JV else JW) v->cz w S (JU e JV JW) v:=by
   intro S v h;unfold JU;split
   ·cases e<;>exact h
   ·exact h
  refine zdx _ _ ?_;cases e with
  |true=>exact ai (ab rfl)
  |false=>exact aU (au rfl)
def Oi{t:aP}{m:Nat}(h:tk P t=.agg m):∃i,P.info? t=some i/\i.size=m/\(isAgg t).run P w=.ok true w:=by
 unfold tk at h;split at h<;>first|cases h|skip
 all_goals rename_i hu ah;exact⟨_,ah,rfl,by rw[N_ hu]⟩
def J6{t:aP}(h:tk P t=.one):(isAgg t).run P w=.ok false w:=by
 unfold tk at h;split at h<;>first|cases h|skip
 rename_i ty hu A0 Oj zdy zdz;rw[N_ hu];cases ty with
 |struct ez=>
  exfalso;cases ah:P.info? t with
  |some i=>exact A0 _ _ ah rfl
  |none=>exact zdy _ ah rfl
 |array k e=>
  exfalso;cases ah:P.info? t with
  |some i=>exact Oj _ _ _ ah rfl
  |none=>exact zdz _ _ ah rfl
 |_=>rfl
def UW{t:aP}{p:Prop}{m:Option (List ag)}{v:aI}
  (hm:p->∀cs,m=some cs->∃b':Addr,v=.pointer (some b')/\b'.spot=none/\∀(j:Nat) (c:ag),cs[j]?=some c->∃u,w.cell? (b'.add j)=some u/\bD w (bO S0 w0.heap.size w s (aL a)) c u)
  {z:Option aG}(am:(k2 (tk P t) z p m).1):Yields P S0 w0 s a w (Instr.loadAt t v) (k2 (tk P t) z p m).2:=by
 cases m with
 |none=>exact am.elim
 |some cs=>
  simp only[k2]at am⊢;cases ak:tk P t with
  |bad=>rw[ak]at am;exact am.elim
  |one=>
   rw[ak]at am;cases cs with
   |nil=>cases z<;>exact am.elim
   |cons c cs=>
    obtain⟨b',rfl,dW,ap⟩:=hm am _ rfl;obtain⟨u,hu,ao⟩:=ap 0 c rfl;refine⟨u,?_,ao,rfl⟩;have iz:w.cell? b'=some u:=by simpa[Addr.add]using hu
    simp[Instr.loadAt,Instr.sureAddr,loadVar,J6 (w:=w) ak,iz]
  |agg m=>
   rw[ak]at am;obtain⟨am,al⟩:=am;obtain⟨b',rfl,dW,ap⟩:=hm am _ rfl;obtain⟨i,ah,cB,gb⟩:=Oi (w:=w) ak;have hex:∀j,∃u,∀c,(cs.take m)[j]?=some c->w.cell? (b'.add j)=some u/\bD w (bO S0 w0.heap.size w s (aL a)) c u:=by
    intro j;cases ac:(cs.take m)[j]? with
    |none=>exact⟨undef,fun c h=>by cases h⟩
    |some c=>
     rw[l0]at ac;split at ac
     ·obtain⟨u,aa,ab⟩:=ap j c ac;exact⟨u,fun c' h=>by injection h with h;subst h;exact⟨aa,ab⟩⟩
     ·cases ac
   obtain⟨U,lz⟩:=Classical.axiomOfChoice hex;have cX:(cs.take m).length=m:=by rw[e'];omega
   have zdA:∀j,j<m->w.cell? (b'.add j)=some (U j):=fun j ac=>(lz j _ (cr (by omega:j<(cs.take m).length))).1;refine⟨.agg ((List.range m).map U).toArray,?_,⟨_,rfl,by simp;omega,fun j c ac=>?_⟩,rfl⟩
   ·have:=run_loadCells (P:=P) (w:=w) b' m U zdA;simp only[Instr.loadAt,Instr.sureAddr,loadVar,Sem.run_bind,Sem.run_pure,Result.andThen_ok,gb,gW,run_sizeOf ah,cB,this]
   ·have A1:j<m:=by have:=(eQ.1 ac).1;omega
    exact⟨U j,by simp[A1],(lz j c ac).2⟩
end
end
section
variable [bn]
def y8{xs:List (List ag)}{size:Nat}(ai:∀x∈xs,x.length=size):xs.flatten.length=xs.length*size:=by
 induction xs with
 |nil=>simp
 |cons x xs ba=>simp only[ta,eG,hz];rw[ba (fun y aU=>ai y (by simp[aU])),ai x (by simp),l3];omega
def GJ{xs:List (List ag)}{size:Nat}(ai:∀x∈xs,x.length=size)(k:Nat):(xs.drop k).flatten=xs.flatten.drop (k*size):=by
 induction xs generalizing k with
 |nil=>simp
 |cons x xs ba=>
  cases k with
  |zero=>simp
  |succ k=>have al:=ai x (by simp);simp only[JZ,ta];have ax:x.drop ((k+1)*size)=[]:=nu (by rw[al,l3];omega);rw[ba (fun x fo=>ai x (by simp[fo])),List.drop_append,ax,List.nil_append,al];congr 1;rw[l3];omega
def Dz{xs:List (List ag)}{size:Nat}(ai:∀x∈xs,x.length=size)(k:Nat):(xs.take k).flatten=xs.flatten.take (k*size):=by
 induction xs generalizing k with
 |nil=>simp
 |cons x xs ba=>
  cases k with
  |zero=>simp
  |succ k=>have al:=ai x (by simp);simp only[Gz,ta];have ax:x.take ((k+1)*size)=x:=k4 (by rw[al,l3];omega);rw[ba (fun x fo=>ai x (by simp[fo])),List.take_append,ax,al];congr 2;rw[l3];omega
section
variable {P:aM}{S0:Env}{w0 w:bb}{n:Nat}{s:aj}{a:Act}
def J7{e:aP}(h:vQ P e=true):P.underlying e=some (.int .u8)/\∃i,P.info? e=some i/\i.zero=some (.int .u8 0)/\i.size=1/\i.bytes=1:=by
 unfold vQ at h;split at h
 ·rename_i i aa ab;simp only[b7,fc]at h;refine⟨aa,i,ab,?_,h.2⟩;obtain⟨au,_⟩:=h;split at au
  ·assumption
  ·cases au
 ·cases h
def zdB(l:aq):(bq l).flatten=l.map fun b=>ag.int .u8 b.toNat:=by
 unfold bq;induction l with
 |nil=>rfl
 |cons b r ba=>simp[ba]
def Ok(S:Nat->Prop)(l:aq):cO w S (bq l).flatten (Go.Lib.strCells ⟨l.toArray⟩):=by
 rw[zdB];refine⟨by simp[Go.Lib.strCells],fun j c ac=>?_⟩;rw[eZ]at ac;cases ad:l[j]? with
 |none=>rw[ad]at ac;cases ac
 |some b=>
  rw[ad]at ac;injection ac with ac
  subst ac;exact⟨.int .u8 b.toNat,by simp[Go.Lib.strCells,ad],bD.int _ _⟩
def Ol(l:aq):∀x∈bq l,x.length=1:=by intro x ai;simp only[bq,hx]at ai;obtain⟨b,_,rfl⟩:=ai;rfl
@[simp]def GK(l:aq):(bq l).length=l.length:=by simp[bq]
def Om(af:Rel S0 w0 n s a w){size:Nat}{y:Prop×ae}{v:aI}{aV:List (List ag)}(aU:eu S0 w0 s a w y v)(am:y.1)(h:iQ s size y.2=some aV) :
  ∃(b:Option Addr) (c:Nat) (us:List aI),v=.slice b aV.length c/\(b=none->aV.length=0)/\cO w (bO S0 w0.heap.size w s (aL a)) aV.flatten us/\(∀y∈aV,y.length=size)/\aV.length<=maxLen /\
   ∀b',b=some b'->∀j u,us[j]?=some u->w.cell? (b'.add j)=some u:=by
 obtain⟨q,y⟩:=y;have ao:=aU am;dsimp only at h ao;unfold iQ at h;split at h
 ·injection h with h;subst h
  obtain rfl:=te ao;exact⟨none,0,[],rfl,fun _=>rfl,⟨rfl,fun j c ac=>by simp at ac⟩,fun y aU=>(by cases aU),by simp,fun b' h=>by cases h⟩
 ·split at h
  ·injection h with h;subst h
   cases ao with
   |empty b c _ ap=>exact⟨some b,c,[],rfl,fun _=>rfl,⟨rfl,fun j c ac=>by simp at ac⟩,fun y aU=>(by cases aU),by simp,fun b' _ j u ac=>by simp at ac⟩
  ·cases h
 ·split at h
  ·rename_i z pU aZ;subst aZ;injection h with h
   subst h;cases ao with
   |mF b c _ ap aX=>exact⟨b,c,[],rfl,fun _=>rfl,⟨rfl,fun j c ac=>by simp at ac⟩,fun y aU=>(by cases aU),by simp,fun b' _ j u ac=>by simp at ac⟩
   |list b' cap _ _ U hs dW ap hm ai lz b8=>
    have al:((List.range pU.flatten.length).map U).length=pU.flatten.length:=by simp
    refine⟨some b',cap,(List.range pU.flatten.length).map U,rfl,fun h=>(by cases h),⟨al,fun j c ac=>?_⟩,ai,by omega,fun zsE h j u ac=>?_⟩
    ·have ar:=(eQ.1 ac).1;exact⟨U j,by rw[eZ,DA ar];rfl,b8 j c ac⟩
    ·injection h with h;subst h
     have ar:=(eQ.1 ac).1;rw[al]at ar;have hu:u=U j:=by rw[eZ,DA ar]at ac;injection ac with ac;exact ac.symm
     rw[hu];exact lz j _ (cr ar)
  ·cases h
 ·rename_i i;split at h
  ·rename_i e z pU hs;split at h
   ·rename_i aZ;subst aZ;injection h with h
    subst h;obtain⟨rfl,_⟩:=dp.y1 ao hs;have ah:=af.rep i;rw[hs]at ah;obtain⟨us,bB,al,ai,hm,cY⟩:=ah;rcases bB.2 with⟨aF,a1⟩|⟨g,cap,bN,aF,_⟩
    ·refine⟨none,0,us,by rw[aF,a1],fun _=>a1,al,ai,hm,fun b' h=>by cases h⟩
    ·refine⟨_,cap,us,aF,fun h=>(by cases h),al,ai,hm,fun b' h j u ac=>?_⟩;injection h with h
     subst h;exact bB.cells (g:=g) (by rw[aF];rfl) j u ac
   ·cases h
  ·cases h
 ·rename_i i aO len wh;split at h
  ·rename_i e z pU hs;split at h
   ·rename_i aZ;subst aZ;injection h with h
    subst h;have ah:=af.rep i;rw[hs]at ah;obtain⟨us,bB,al,ai,hm,cY⟩:=ah;obtain⟨_,cG,aF⟩:=ao;rw[hs]at cG;have pV:aO+len<=pU.length:=cG;have GL:((pU.drop aO).take len).length=len:=by rw[e',eP];omega
    have UV:∀y∈(pU.drop aO).take len,y.length=z:=fun y aU=>ai y (vZ (v7 aU));have bF:((pU.drop aO).take len).flatten=(pU.flatten.drop (aO*z)).take (len*z):=by rw[Dz (fun x fo=>ai x (vZ fo)),GJ ai]
    have fH:pU.flatten.length=pU.length*z:=y8 ai;have nv:us.length=pU.length*z:=bB.1;have gB:cO w (bO S0 w0.heap.size w s (aL a)) ((pU.drop aO).take len).flatten ((us.drop (aO*z)).take (len*z)):=by
     rw[bF];refine⟨by simp only[e',eP,fH,nv],fun j c ac=>?_⟩;rw[l0,js]at ac;split at ac
     ·rename_i ar;obtain⟨u,hu,tg⟩:=al.2 _ c ac;exact⟨u,by rw[l0,av ar,js];exact hu,tg⟩
     ·cases ac
    rcases aF with⟨rfl,a1⟩|⟨b,off,cap,rfl,ap,J8,ak,aZ,_⟩
    ·exact⟨none,0,_,by rw[GL,a1],fun _=>by rw[GL,a1],gB,UV,by omega,fun b' h=>by cases h⟩
    ·refine⟨some ⟨b,off,none⟩,cap,_,by rw[GL],fun h=>(by cases h),gB,UV,by omega,fun b' h j u ac=>?_⟩;injection h with h
     subst h;rw[l0,js]at ac;split at ac
     ·rename_i ar;have a1:0<len:=by
       rcases Nat.eq_zero_or_pos len with a1|a1
       ·rw[a1]at ar;simp at ar
       ·exact a1
      have lE:=aZ a1;rw[hs]at ak lE;have:=bB.cells (g:=b) ak _ u ac;rw[n7,hv]at this;rw[n7,lE];exact this
     ·cases ac
   ·cases h
  ·cases h
 ·cases h
def zdC{xs:List (List ag)}(h:vS xs):∃o6:List Int,xs=(o6.map fun n=>[ag.int .u8 n])/\o3 xs=o6.map fun n=>UInt8.ofNat n.toNat:=by
 induction xs with
 |nil=>exact⟨[],rfl,rfl⟩
 |cons x r ba=>obtain⟨n,rfl⟩:=h x (by simp);obtain⟨o6,ax,aK⟩:=ba (fun y aU=>h y (by simp[aU]));exact⟨n::o6,by rw[ax];rfl,by show Gw _::o3 r=_;rw[aK];rfl⟩
end
end
section
variable [bn]
section
variable {P:aM}{S0:Env}{w0 w:bb}{n:Nat}{s:aj}{a:Act}
def UX{t:aP}{f o:Nat}{k:cf}(h:fieldAt P t f=some (o,k)) :
  ∃ez fd i,P.underlying t=some (.struct ez)/\ez[f]?=some fd/\P.info? fd.type=some i/\0<i.size/\fd.offset=o/\tk P fd.type=k:=by
 unfold fieldAt at h;split at h
 ·rename_i ez hu;split at h
  ·rename_i fd th;split at h
   ·rename_i i ah;split at h
    ·cases h
    ·rename_i aZ;injection h with h
     injection h with aa ab;exact⟨ez,fd,i,hu,th,ah,by omega,aa,ab⟩
   ·cases h
  ·cases h
 ·cases h
def On{t:aP}{f o:Nat}{k:cf}(h:fieldAt P t f=some (o,k))(b':Addr) :
  (Instr.fieldAt t (.pointer (some b')) f).run P w=.ok (.pointer (some (b'.add o))) w:=by
 obtain⟨ez,fd,i,hu,th,ah,je,aB,_⟩:=UX h;have bY:i.size≠0:=by omega
 simp[Instr.fieldAt,Instr.sureAddr,run_underlying hu,th,fieldPlace,run_sizeOf ah,bY,aB]
def zdD{t:aP}{f:Nat}{x:Prop×ae}{v:aI}(ai:eu S0 w0 s a w x v)(am:(ux P t f x).1) :
  Yields P S0 w0 s a w (Instr.fieldAt t v f) (ux P t f x).2:=by
 obtain⟨p,x⟩:=x;cases aw:fieldAt P t f with
 |none=>simp only[ux,aw]at am
 |some ok=>
  obtain⟨o,k⟩:=ok;cases x with
  |ptr i off=>simp only[ux,aw]at am⊢;obtain⟨b,rfl,ad⟩:=ai am;exact⟨_,On aw _,⟨b,by rw[n7],ad⟩,rfl⟩
  |fy i cq off=>simp only[ux,aw]at am⊢;obtain⟨b,rfl,ad⟩:=ai am;exact⟨_,On aw _,⟨b,by rw[n7,rN],ad⟩,rfl⟩
  |elem cs=>
   simp only[ux,aw]at am⊢;obtain⟨b',rfl,dW,bS,ap⟩:=ai am;refine⟨_,On aw _,⟨_,rfl,?_,by rw[block_add];exact bS,fun j c ac=>?_⟩,rfl⟩
   ·unfold Addr.add;split<;>simp[dW]
   ·rw[Gr];rw[js]at ac;exact ap _ _ ac
  |_=>simp only[ux,aw]at am
def zdE{t:aP}{f:Nat}{x:Prop×ae}{v:aI}(ai:eu S0 w0 s a w x v)(am:(y4 P t f x).1) :
  Yields P S0 w0 s a w (Instr.field t v f) (y4 P t f x).2:=by
 obtain⟨p,x⟩:=x;cases aw:fieldAt P t f with
 |none=>cases x<;>simp only[y4,aw]at am
 |some ok=>
  obtain⟨o,k⟩:=ok;cases x with
  |x bP=>cases bP with
   |one c=>simp only[y4,aw]at am
   |agg cs=>
    simp only[y4,aw]at am⊢;obtain⟨ez,fd,i,hu,th,ah,je,aB,ak⟩:=UX aw;subst aB;subst ak;cases vX:tk P fd.type with
    |bad=>rw[vX]at am;exact am.elim
    |one=>
     rw[vX]at am;simp only[Dp]at am⊢;cases aA:cs.drop fd.offset with
     |nil=>rw[aA]at am;exact am.elim
     |cons c r=>
      rw[aA]at am;obtain⟨us,rfl,al⟩:=ai am;obtain⟨u,iz,ao⟩:=(al.drop fd.offset).2 0 c (by rw[aA];rfl);rw[js]at iz;refine⟨u,?_,ao,rfl⟩;have:us[fd.offset]?=some u:=by simpa using iz
      simp[Instr.field,run_underlying hu,th,asAgg,part,J6 (w:=w) vX,this]
    |agg m=>
     rw[vX]at am;obtain⟨am,dK⟩:=am;obtain⟨us,rfl,al⟩:=ai am;obtain⟨bL,e_,cB,gb⟩:=Oi (w:=w) vX;refine⟨.agg (us.extract fd.offset (fd.offset+m)),?_,⟨_,rfl,?_⟩,rfl⟩
     ·simp[Instr.field,run_underlying hu,th,asAgg,part,gb,run_sizeOf e_,cB]
     ·have:=al.sub fd.offset m;simp only[Ob,Oc];simpa using this
  |_=>simp only[y4,aw]at am
def qP{t e:aP}{size:Nat}(h:gM P t=some (e,size)) :
  ∃i,P.underlying t=some (.slice e)/\P.info? e=some i/\i.size=size/\0<size:=by
 unfold gM at h;split at h
 ·rename_i cg hu;split at h
  ·rename_i i ah;split at h
   ·cases h
   ·injection h with h;injection h with aa ab
    subst aa;exact⟨i,hu,ah,ab,by omega⟩
  ·cases h
 ·cases h
def uD{t:aP}(h:k1 P t=true):P.underlying t=some .string:=by
 unfold k1 at h;split at h
 ·assumption
 ·cases h
def Oo{t e:aP}{size:Nat}(h:gM P t=some (e,size))(b':Addr)(len cap:Nat)(k:IntKind)(m:Int)(a1:0<=m)(aa:m<len) :
  (Instr.indexAt t (.slice (some b') len cap) (.int k m)).run P w=.ok (.pointer (some (b'.add (m.toNat*size)))) w:=by
 obtain⟨i,hu,ah,hs,_⟩:=qP h;simp[Instr.indexAt,asIntOf,run_underlying hu,a1,aa,run_sizeOf ah,hs]
def zdF{xs:List (List ag)}{size k:Nat}(ai:∀x∈xs,x.length=size)(ak:k<xs.length):(xs.getD k []).length=size:=by rw[lF,cr ak];exact ai _ (hS ak)
def zdG{t:aP}{len size:Nat}(h:AT P t=some (len,size)):∃e i,P.underlying t=some (.array len e)/\P.info? e=some i/\i.size=size:=by
 unfold AT at h;split at h
 ·rename_i o7 e hu;split at h
  ·rename_i i ah;injection h with h
   injection h with aa ab;subst aa
   exact⟨e,i,hu,ah,ab⟩
  ·cases h
 ·cases h
def UY{t:aP}{len size:Nat}(h:AT P t=some (len,size))(b':Addr)(k:IntKind)(m:Int)(a1:0<=m)(aa:m<len) :
  (Instr.indexAt t (.pointer (some b')) (.int k m)).run P w=.ok (.pointer (some (b'.add (m.toNat*size)))) w:=by
 obtain⟨e,i,hu,ah,hs⟩:=zdG h;simp[Instr.indexAt,asIntOf,Instr.sureAddr,run_underlying hu,a1,aa,run_sizeOf ah,hs]
def zdH{t:aP}{x i:Prop×ae}{v y9:aI}(ai:eu S0 w0 s a w x v)(ah:eu S0 w0 s a w i y9)(am:(AU P t x i).1) :
  Yields P S0 w0 s a w (Instr.indexAt t v y9) (AU P t x i).2:=by
 obtain⟨p,x⟩:=x;obtain⟨q,i⟩:=i;unfold AU at am⊢;split at am
 ·rename_i len size kz j off eI k n cp ax aK;injection ax with ax cd;subst ax;subst cd
  injection aK with aK fI;subst aK;subst fI
  obtain⟨aa,ab,aN,bE⟩:=am;obtain rfl:=jv (ah ab);obtain⟨b,rfl,ad⟩:=ai aa;refine⟨_,UY cp _ k n aN bE,⟨b,?_,ad⟩,rfl⟩;rw[n7]
 ·rename_i len size kz cs eI k n cp ax aK;injection ax with ax cd;subst ax;subst cd
  injection aK with aK fI;subst aK;subst fI
  obtain⟨aa,ab,aN,bE⟩:=am;obtain rfl:=jv (ah ab);obtain⟨b',rfl,dW,hs,ap⟩:=ai aa;refine⟨_,UY cp _ k n aN bE,⟨_,rfl,?_,by rw[block_add];exact hs,fun j c ac=>?_⟩,rfl⟩
  ·unfold Addr.add;split<;>simp[dW]
  ·rw[js]at ac;rw[Gr];exact ap _ c ac
 ·exact am.elim
def zdI{t:aP}{x i:Prop×ae}(am:(l' P s t x i).1) :
  (l' P s t x i=AU P t x i)\/∃e size k m,gM P t=some (e,size)/\i.2=.x (.one (.int k m))/\((∃z xs,x.2=.x (.one (.list z xs)))\/(∃j,x.2=.alias j)\/∃j aO len wh,x.2=.view j aO len wh):=by
 unfold l' at am;split at am
 ·rename_i cp;exact .inr ⟨_,_,_,_,cp,rfl,.inl ⟨_,_,rfl⟩⟩
 ·rename_i cp;exact .inr ⟨_,_,_,_,cp,rfl,.inr (.inl ⟨_,rfl⟩)⟩
 ·rename_i cp;exact .inr ⟨_,_,_,_,cp,rfl,.inr (.inr ⟨_,_,_,_,rfl⟩)⟩
 ·rename_i aa ab au;refine .inl ?_;unfold l';split
  ·exact absurd rfl (aa _ _ _ _ _ _ _ _ (by assumption) rfl)
  ·exact absurd rfl (ab _ _ _ _ _ _ _ (by assumption) rfl)
  ·exact absurd rfl (au _ _ _ _ _ _ _ _ _ _ (by assumption) rfl)
  ·rfl
def zdJ{t:aP}{x i:Prop×ae}{v y9:aI}(af:Rel S0 w0 n s a w)(ai:eu S0 w0 s a w x v)(ah:eu S0 w0 s a w i y9)(am:(l' P s t x i).1) :
  Yields P S0 w0 s a w (Instr.indexAt t v y9) (l' P s t x i).2:=by
 rcases zdI am with he|⟨e,size,k,m,cp,J9,UZ⟩
 ·rw[he]at am⊢;exact zdH ai ah am
 obtain⟨p,x⟩:=x;obtain⟨q,i⟩:=i;dsimp only at J9 UZ;subst J9;rcases UZ with⟨z,xs,rfl⟩|⟨j,rfl⟩|⟨j,aO,len,wh,rfl⟩
 ·simp only[l',cp]at am⊢;obtain⟨aa,ab,rfl,aN,bE⟩:=am;obtain rfl:=jv (ah ab);have ao:=ai aa;cases ao with
  |mF=>simp at bE;omega
  |list b' cap size xs U hs dW ap hm n4 lz b8=>
   refine⟨_,Oo cp b' _ cap k m aN bE,⟨_,rfl,?_,by rw[block_add];exact hs,fun j c ac=>?_⟩,rfl⟩
   ·unfold Addr.add;split<;>simp[dW]
   ·rw[Gr];have:=N8 n4 ac;exact⟨_,lz _ _ this,b8 _ _ this⟩
 ·simp only[l',cp]at am⊢;cases o8:s j with
  |own cg z xs=>
   rw[o8]at am;simp only at am⊢;obtain⟨aa,ab,rfl,aN,bE⟩:=am;obtain rfl:=jv (ah ab);obtain⟨rfl,_⟩:=dp.y1 (ai aa) o8;have ac:=af.rep j;rw[o8]at ac;obtain⟨us,bB,al,n4,_⟩:=ac;rcases bB.2 with⟨_,a1⟩|⟨g,cap,bN,aF,_⟩
   ·omega
   ·rw[aF];refine⟨_,Oo cp _ _ cap k m aN bE,⟨g,?_,?_⟩,rfl⟩
    ·rw[n7,o8];simp[ae.size]
    ·rw[o8];show Value.ownBlock _=_;rw[aF];rfl
  |_=>rw[o8]at am;exact am.elim
 ·simp only[l',cp]at am⊢;obtain⟨aa,ab,au,aN,bE⟩:=am;obtain rfl:=jv (ah ab);obtain⟨_,cG,aF⟩:=ai aa;rcases aF with⟨_,a1⟩|⟨b,off,cap,rfl,ap,hm,ak,aZ,_⟩
  ·omega
  ·obtain rfl:=aZ (by omega);refine⟨_,Oo cp _ _ cap k m aN bE,⟨b,?_,ak⟩,rfl⟩;rw[n7,au,l3];simp
def zdK{t:aP}{x i:Prop×ae}{v y9:aI}(ai:eu S0 w0 s a w x v)(ah:eu S0 w0 s a w i y9)(am:(Dq P t x i).1) :
  Yields P S0 w0 s a w (Instr.index t v y9) (Dq P t x i).2:=by
 obtain⟨p,x⟩:=x;obtain⟨q,i⟩:=i
 match x,i,am with
 |.x (.one (.str l)),.x (.one (.int k m)),am=>
  obtain⟨aa,ab,au,aN,bE⟩:=am;obtain rfl:=jv (ah ab);obtain⟨rfl,_⟩:=nt (ai aa);have hu:=uD au;have ar:m.toNat<l.length:=by omega
  refine⟨_,?_,bD.int _ _,rfl⟩;have bF:(⟨l.toArray⟩:ByteArray)[m.toNat]?=some (l.getD m.toNat 0):=by
   rw[ByteArray.getElem?_lt' _ _ (by rw[JX];exact ar)];congr 1;show l.toArray[m.toNat]=_
   simp[List.getD,ar]
  simp[Instr.index,asIntOf,run_underlying hu,aN,bF]
def zdL{x:Prop×ae}{i:Nat}{v:aI}(ai:eu S0 w0 s a w x v)(am:(y5 x i).1) :
  Yields P S0 w0 s a w (Instr.extract v i) (y5 x i).2:=by
 obtain⟨p,x⟩:=x
 match x,am with
 |.b2 vs,am=>
  simp only[y5]at am⊢;cases aF:vs[i]? with
  |none=>rw[aF]at am;exact am.elim
  |some bP=>rw[aF]at am;obtain⟨us,rfl,_,h⟩:=ai am;obtain⟨u,hu,ao⟩:=h i bP aF;exact⟨u,by simp[Instr.extract,hu],ao,rfl⟩
def zdM{t ty:aP}{x:Prop×ae}{v:aI}(af:Rel S0 w0 n s a w)(ai:eu S0 w0 s a w x v)(am:(n9 P s t x).1) :
  Yields P S0 w0 s a w (Builtin.len_ #[t] ty #[v]) (n9 P s t x).2:=by
 obtain⟨p,x⟩:=x
 match x,am with
 |.x (.one (.str l)),am=>obtain⟨aa,ab⟩:=am;obtain⟨rfl,_⟩:=nt (ai aa);exact⟨_,by simp[Builtin.len_,run_underlying (uD ab),goInt,JX],bD.int _ _,rfl⟩
 |.x (.one .nil),am=>obtain⟨aa,ab⟩:=am;obtain rfl:=te (ai aa);obtain⟨⟨e,z⟩,cp⟩:=v8.1 ab;obtain⟨i,hu,_⟩:=qP cp;exact⟨_,by simp[Builtin.len_,run_underlying hu,goInt],bD.int _ _,rfl⟩
 |.x (.one (.empty z)),am=>obtain⟨aa,ab⟩:=am;have ao:=ai aa;obtain⟨⟨e,z⟩,cp⟩:=v8.1 ab;obtain⟨i,hu,_⟩:=qP cp;cases ao;exact⟨_,by simp[Builtin.len_,run_underlying hu,goInt],bD.int _ _,rfl⟩
 |.x (.one (.list z xs)),am=>
  obtain⟨aa,ab⟩:=am;obtain⟨⟨e,kA⟩,cp⟩:=v8.1 ab;obtain⟨i,hu,_⟩:=qP cp;have ao:=ai aa;have:∃b c,v=.slice b xs.length c:=by
   cases ao with
   |mF b c _ _ _=>exact⟨b,c,rfl⟩
   |list b' cap=>exact⟨_,cap,rfl⟩
  obtain⟨b,c,rfl⟩:=this;exact⟨_,by simp[Builtin.len_,run_underlying hu,goInt],bD.int _ _,rfl⟩
 |.alias j,am=>
  simp only[n9]at am⊢;cases o8:s j with
  |own cg z xs=>
   rw[o8]at am;obtain⟨aa,ab⟩:=am;obtain⟨⟨e,kA⟩,cp⟩:=v8.1 ab;obtain⟨i,hu,_⟩:=qP cp;obtain⟨rfl,_⟩:=dp.y1 (ai aa) o8;have ac:=af.rep j;rw[o8]at ac;obtain⟨us,bB,_⟩:=ac;have:∃b c,aL a j=.slice b xs.length c:=by
    rcases bB.2 with⟨h,a1⟩|⟨g,cap,bN,aF,_⟩
    ·exact⟨none,0,by rw[h,a1]⟩
    ·exact⟨_,cap,aF⟩
   obtain⟨b,c,aF⟩:=this;rw[aF];exact⟨_,by simp[Builtin.len_,run_underlying hu,goInt],bD.int _ _,rfl⟩
  |mp c bs es=>
   rw[o8]at am;obtain⟨aa,ab⟩:=am;obtain⟨⟨cn,e⟩,cp⟩:=v8.1 ab;obtain⟨ga,hu,_⟩:=J2 cp;obtain⟨rfl,_⟩:=dp.JT (ai aa) o8;have ac:=af.rep j;rw[o8]at ac;obtain⟨b,ents,aF,bo,_,he⟩:=ac;rw[aF];have al:ents.size=es.length:=by have:=he.1;simpa using this
   exact⟨_,by simp[Builtin.len_,run_underlying hu,goInt,Go.MapKept.run_getObj_map bo,Result.andThen,al],bD.int _ _,rfl⟩
  |_=>rw[o8]at am;exact am.elim
 |.view i aO len wh,am=>
  obtain⟨aa,ab⟩:=am;obtain⟨⟨e,kA⟩,cp⟩:=v8.1 ab;obtain⟨j,hu,_⟩:=qP cp;obtain⟨_,cG,aF⟩:=ai aa;have:∃b c,v=.slice b len c:=by
   rcases aF with⟨h,a1⟩|⟨b,off,cap,rfl,_⟩
   ·exact⟨none,0,by rw[h,a1]⟩
   ·exact⟨_,cap,rfl⟩
  obtain⟨b,c,aF⟩:=this;rw[aF];exact⟨_,by simp[Builtin.len_,run_underlying hu,goInt],bD.int _ _,rfl⟩
def zdN{t ty:aP}{x:Prop×ae}{v:aI}(ai:eu S0 w0 s a w x v)(am:(Gu P t x).1) :
  Yields P S0 w0 s a w (Builtin.cap_ #[t] ty #[v]) (Gu P t x).2:=by
 unfold Gu at am⊢;split at am
 ·obtain⟨aa,ab⟩:=am;obtain rfl:=te (ai aa);obtain⟨⟨e,z⟩,cp⟩:=v8.1 ab;obtain⟨i,hu,_⟩:=qP cp;exact⟨_,by simp[Builtin.cap_,run_underlying hu,goInt],bD.int _ _,rfl⟩
 ·exact am.elim
def U0{t:aP}{cn:gA}{e:aP}{b c:Nat}{ents:Array MapEntry}{bs:List Nat}{es:List (aG×aG)}{cL:aG}{lD:aI}{ok:Bool}{r:Option Nat}{z:aG}
  (cp:n8 P t=some (cn,e))(bo:w.heap[b]?=some (.map ents c))(he:s7 w (bO S0 w0.heap.size w s (aL a)) bs es ents.toList)(ak:cz w (bO S0 w0.heap.size w s (aL a)) cL lD)(au:kd cn cL=true)
  (aw:fz cn cL es 0=some r)(aZ:eH P e=some z):Yields P S0 w0 s a w (Instr.lookup t (.map (some b)) lD ok) (vP es z ok r):=by
 obtain⟨ga,hu,GM⟩:=J2 cp;obtain⟨J_,ti,zdO⟩:=zdq (P:=P) (w:=w) (S:=bO S0 w0.heap.size w s (aL a)) aZ;obtain⟨u,cP,iz⟩:=zdr (P:=P) ok hu GM bo he ak au aw ti;have b8:cz w (bO S0 w0.heap.size w s (aL a)) (match r with|some j=>((es[j]?).getD (z,z)).2|none=>z) u:=by
  cases r with
  |none=>simp only at iz;subst iz;exact zdO
  |some j=>obtain⟨x,Oq,GN⟩:=iz;simp only[Oq,oa];exact GN
 refine⟨_,cP,?_,?_⟩
 ·cases ok with
  |false=>cases r<;>exact b8
  |true=>
   cases r with
   |none=>exact⟨#[u,.bool false],rfl,rfl,fun j y ac=>by
     match j,ac with
     |0,ac=>simp at ac;subst ac;exact⟨u,rfl,b8⟩
     |1,ac=>simp at ac;subst ac;exact⟨_,rfl,bD.bool _⟩
     |j+2,ac=>simp at ac⟩
   |some m=>exact⟨#[u,.bool true],rfl,rfl,fun j y ac=>by
     match j,ac with
     |0,ac=>simp at ac;subst ac;exact⟨u,rfl,b8⟩
     |1,ac=>simp at ac;subst ac;exact⟨_,rfl,bD.bool _⟩
     |j+2,ac=>simp at ac⟩
 ·cases ok<;>cases r<;>rfl
def zdP{t:aP}{x k:Prop×ae}{v lD:aI}{ok:Bool}(af:Rel S0 w0 n s a w)(ai:eu S0 w0 s a w x v)(ak:eu S0 w0 s a w k lD)(am:(uy P s t x k ok).1) :
  Yields P S0 w0 s a w (Instr.lookup t v lD ok) (uy P s t x k ok).2:=by
 obtain⟨p,x⟩:=x;obtain⟨q,k⟩:=k;unfold uy at am⊢;split at am
 ·rename_i cn e kz i eI cL cp ax aK;injection ax with rV rW;subst rV;subst rW
  injection aK with pS pT;subst pS;subst pT
  split at am
  ·rename_i c bs es hs;split at am
   ·rename_i r z aw aZ;obtain⟨aa,ab,au⟩:=am;obtain⟨rfl,_⟩:=dp.JT (ai aa) hs;have ac:=af.rep i;rw[hs]at ac;obtain⟨b,ents,aF,bo,_,he⟩:=ac;rw[aF];exact U0 cp bo he (ak ab) au aw aZ
   ·exact am.elim
  ·exact am.elim
 ·rename_i cn e kz gz gT bp vs eI cL cp ax aK;injection ax with rV rW;subst rV;subst rW
  injection aK with pS pT;subst pS;subst pT
  split at am
  ·rename_i r z aw aZ;obtain⟨aa,ab,au⟩:=am;obtain⟨b,c,ents,bs,rfl,_,bo,he⟩:=zdo (ai aa);exact U0 cp bo he (ak ab) au aw aZ
  ·exact am.elim
 ·exact am.elim
def zdQ{ts:Array aP}{ty:aP}{x y:Prop×ae}{u v:aI}(ai:eu S0 w0 s a w x u)(aU:eu S0 w0 s a w y v)(am:(Gv x y).1) :
  Yields P S0 w0 s a w (Builtin.max_ ts ty #[u,v]) (Gv x y).2:=by
 obtain⟨p,x⟩:=x;obtain⟨q,y⟩:=y
 match x,y,am with
 |.x (.one (.int k m)),.x (.one (.int cq iR)),am=>
  obtain rfl:=jv (ai am.1);obtain rfl:=jv (aU am.2);refine⟨.int k (max m iR),?_,bD.int _ _,rfl⟩;have:(if iR > m then iR else m)=max m iR:=by split<;>omega
  simp[Builtin.max_,Builtin.max2];simpa using this
def zdR{ts:Array aP}{ty:aP}{x y:Prop×ae}{u v:aI}(ai:eu S0 w0 s a w x u)(aU:eu S0 w0 s a w y v)(am:(Dr x y).1) :
  Yields P S0 w0 s a w (Builtin.min_ ts ty #[u,v]) (Dr x y).2:=by
 obtain⟨p,x⟩:=x;obtain⟨q,y⟩:=y
 match x,y,am with
 |.x (.one (.int k m)),.x (.one (.int cq iR)),am=>
  obtain rfl:=jv (ai am.1);obtain rfl:=jv (aU am.2);refine⟨.int k (min m iR),?_,bD.int _ _,rfl⟩;have:(if iR<m then iR else m)=min m iR:=by split<;>omega
  simp[Builtin.min_,Builtin.min2];simpa using this
def zdS{op:UnOp}{x:Prop×ae}{v:aI}(ai:eu S0 w0 s a w x v)(am:(Ds op x).1):Yields P S0 w0 s a w (Op.unary op v) (Ds op x).2:=by
 obtain⟨p,x⟩:=x
 match op,x,am with
 |.not,.x (.one (.bool b)),am=>obtain rfl:=pM (ai am);exact⟨_,rfl,bD.bool _,rfl⟩
 |.neg,.x (.one (.int k m)),am=>obtain rfl:=jv (ai am);exact⟨_,rfl,bD.int _ _,rfl⟩
def U1{t:aP}(h:vR P t=true):∃e,P.underlying t=some (.slice e)/\P.underlying e=some (.int .u8):=by
 unfold vR at h;split at h
 ·rename_i e aa;exact⟨e,aa,(J7 h).1⟩
 ·cases h
def zdT(af:Rel S0 w0 n s a w){src dst:aP}{p:Prop}{x:ae}{v:aI}{xs:List (List ag)}(ai:eu S0 w0 s a w (p,x) v)(am:p)(aX:iQ s 1 x=some xs)(aa:vR P src=true)(ab:k1 P dst=true)(au:vS xs) :
  Yields P S0 w0 s a w (convert src dst v) (.x (.one (.str (o3 xs)))):=by
 obtain⟨b,c,us,rfl,eJ,al,ge,hm,ip⟩:=Om af ai am aX;obtain⟨e,hs,he⟩:=U1 aa;obtain⟨o6,ax,aK⟩:=zdC au;have cX:(o3 xs).length<=maxLen:=by simpa[o3]using hm
 have U2:strOfNums o6=(⟨(o3 xs).toArray⟩:ByteArray):=by rw[aK];rfl
 have nv:us=o6.map (Value.int .u8):=by
  have fH:xs.flatten=o6.map fun n=>ag.int .u8 n:=by
   rw[ax];clear ax aK U2 cX al hm ge au aX;induction o6 with
   |nil=>rfl
   |cons n r ba=>simp[ba]
  rw[fH]at al;apply y_;intro j;rcases mH j o6.length with ac|ac
  ·obtain⟨u,hu,ao⟩:=al.2 j (.int .u8 o6[j]) (by simp[ac]);cases ao;rw[hu];simp[ac]
  ·rw[pW (by rw[al.1];simpa using ac),pW (by simpa using ac)]
 have ma:xs.length=o6.length:=by rw[ax];simp
 cases b with
 |none=>
  have a1:=eJ rfl;have:o6=[]:=n5 (by omega);subst this;refine⟨_,run_convert_bytes_nil w src e hs he xs.length c dst (uD ab),?_,rfl⟩;have:(ByteArray.empty:ByteArray)=⟨(o3 xs).toArray⟩:=by rw[aK];rfl
  rw[this];exact bD.str _ cX
 |some b'=>
  have dK:=run_loadCells_list (P:=P) w b' (o6.map (Value.int .u8)) (fun j v ac=>ip b' rfl j v (by rw[nv];exact ac));refine⟨_,?_,bD.str _ cX,rfl⟩;rw[run_convert_bytes_string w src dst e (some b') xs.length c hs he (uD ab)];have au:(loadCells b' xs.length).run P w=.ok (o6.map (Value.int .u8)).toArray w:=by simpa[ma]using dK
  rw[run_bytesToString w b' xs.length c o6 au,foldl_push_bytes];congr 2;rw[<-U2];simp[strOfNums,ByteArray.empty,ByteArray.emptyWithCapacity];rfl
def zdU(af:Rel S0 w0 n s a w){src dst:aP}{x:Prop×ae}{v:aI}(ai:eu S0 w0 s a w x v)(am:(o4 P s src dst x).1):Yields P S0 w0 s a w (convert src dst v) (o4 P s src dst x).2:=by
 obtain⟨p,x⟩:=x;unfold o4 at am⊢;split at am
 ·rename_i kz k m e;injection e with ax aK
  subst ax;subst aK;cases aA:pK P dst with
  |none=>
   rw[aA]at am;obtain⟨aa,ab,au,aN,bE⟩:=am;obtain rfl:=jv (ai aa);obtain⟨ty,uA⟩:=v8.1 ab;have hu:=uD au;refine⟨_,?_,bD.str [UInt8.ofNat m.toNat] (show 1<=maxLen by decide),rfl⟩;have aF:Utf8.encode m=⟨([UInt8.ofNat m.toNat]:aq).toArray⟩:=by
    have cS:Utf8.valid m=true:=by simp[Utf8.valid];omega
    have d8:m.toNat<128:=by omega
    simp[Utf8.encode,cS,d8]
   simp[convert,run_underlying uA,run_underlying hu,Conv.intToString,aF]
  |some cq=>
   rw[aA]at am;obtain⟨aa,ab⟩:=am;obtain rfl:=jv (ai aa);obtain⟨ty,uA⟩:=v8.1 ab;have hu:P.underlying dst=some (.int cq):=by
    unfold pK at aA;split at aA
    ·injection aA with aA;subst aA;assumption
    ·cases aA
   refine⟨_,?_,bD.int _ _,rfl⟩;simp[convert,run_underlying uA,run_underlying hu,Conv.intToInt]
 ·rename_i kz l e;injection e with ax aK
  subst ax;subst aK;obtain⟨aa,ab,au⟩:=am;have ao:=ai aa;obtain⟨rfl,_⟩:=nt ao;exact⟨_,by simp[convert,run_underlying (uD ab),run_underlying (uD au)],ao,rfl⟩
 ·rename_i kz cW aa ab e;injection e with ax aK
  subst ax;subst aK;cases aX:iQ s 1 x with
  |none=>rw[aX]at am;exact am.elim
  |some xs=>rw[aX]at am;exact zdT af ai am.1 aX am.2.1 am.2.2.1 am.2.2.2
end
end
end Go.Ab
