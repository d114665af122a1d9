/- A part of the proof: lemmas and contracts of functions. -/
import Derived.Test.YtaalfcghmjkaeaaGreatDoorAbJ0
import Derived.WalkKit
import Derived.Maps.AppendAt
import Derived.Lib.AppendStr
import Derived.Laws.IdiomStrings
import Derived.Laws.BytesArg
import Derived.WalkSpells
import Derived.WalkLawsBesides
import Derived.MapKept
import Derived.WideKeyRuns
set_option linter.all false
namespace Go
open Go.Lib Go.IntKind
def D'(dl:Nat×Nat)(n:Nat):Prop:=dl=(0,0)\/n<=dl.1
def World.h0(w:World)(base:Nat)(e:TypeId)(size:Nat)(v:Value)(n:Nat)(xs:List Value):Prop:=
 xs.length=n*size /\
 ((v=.slice none 0 0/\n=0) \/
  ∃g cap cur,v=.slice (some ⟨g,0,none⟩) n cap/\base<=g/\(∃dl,w.heap[g]?=some (.cells cur e dl)/\D' dl cur.size)/\n<=cap/\cap<=maxLen/\cur.size=cap*size/\cur.toList.take (n*size)=xs)
section
variable {P:Program}{w:World}{base:Nat}{e:TypeId}{size:Nat}{v:Value}{n:Nat}{xs:List Value}
def World.RD(h:w.ownsRow base e size v n xs):w.h0 base e size v n xs:=by
 refine⟨h.1,?_⟩;rcases h.2 with aT|⟨g,cap,cur,aH,ae,aB,rest⟩
 ·exact .inl aT
 ·exact .inr ⟨g,cap,cur,aH,ae,⟨(0,0),aB,.inl rfl⟩,rest⟩
def World.yH(w:World)(base:Nat)(e:TypeId)(size:Nat):w.h0 base e size (.slice none 0 0) 0 []:=⟨by simp,.inl ⟨rfl,rfl⟩⟩
def World.h0.lt(h:w.h0 base e size v n xs):∀k,v.ownBlock=some k->base<=k/\k<w.heap.size:=by
 intro k am;rcases h.2 with⟨rfl,_⟩|⟨g,cap,cur,rfl,ae,⟨dl,aB,_⟩,_⟩
 ·simp[Value.ownBlock]at am
 ·simp[Value.ownBlock]at am;subst am;exact⟨ae,(gM.1 aB).1⟩
def World.h0.cells(h:w.h0 base e size v n xs){g:Nat}(aB:v.ownBlock=some g):∀j u,xs[j]?=some u->w.cell? ((⟨g,0,none⟩:Addr).add j)=some u:=by
 intro j u hu;rcases h.2 with⟨rfl,_⟩|⟨bQ,cap,cur,rfl,_,⟨dl,ZF,_⟩,_,_,_,ge⟩
 ·simp[Value.ownBlock]at aB
 ·simp[Value.ownBlock]at aB;subst aB;have yI:(⟨bQ,0,none⟩:Addr).add j=⟨bQ,j,none⟩:=by unfold Addr.add;split<;>simp_all
  rw[yI,cell_of_row w bQ j cur e dl ZF];rw[<-ge,jl]at hu;split at hu
  ·simpa using hu
  ·cases hu
def Bh(P:Program)(g o:Nat)(t:TypeId)(dl:Nat×Nat):∀(vs:List Value) (i:Nat) (cur:Array Value) (w:World),w.heap[g]?=some (.cells cur t dl)->D' dl cur.size->o+i+vs.length<=cur.size->(∀v∈vs,v.oneCell'=true) ->
  (storeCells ⟨g,o,none⟩ vs i).run P w=.ok () (w.setRow g (cur.toList.take (o+i)++vs++cur.toList.drop (o+i+vs.length)).toArray)
 |[],i,cur,w,aB,_,_,_=>by simp only[storeCells,wO,rF,ti,uX,HQ];rw[setRow_self w g cur t dl aB];rfl
 |v::rest,i,cur,w,aB,aY,al,aa=>by
  have ai:o+i<cur.size:=by simp at al;omega
  have yI:(⟨g,o,none⟩:Addr).add i=⟨g,o+i,none⟩:=by unfold Addr.add;split<;>simp_all
  have gN:w.cell? ⟨g,o+i,none⟩=some cur[o+i]:=by simp[World.cell?,aB,ai]
  have HR:w.frozen? ⟨g,o+i,none⟩=false:=by
   rcases aY with rfl|aY
   ·simp[World.frozen?,aB]
   ·obtain⟨aK,eN⟩:=dl;simp[World.frozen?,aB];intro h;dsimp only at aY;omega
  have b3:(store ((⟨g,o,none⟩:Addr).add i) v).run P w=.ok () (w.setRow g (cur.setIfInBounds (o+i) v)):=by rw[yI,run_store P w _ v _ (aa v (by simp)),gN];simp[HR,setCell_eq_setRow w g (o+i) cur t dl v aB]
  have aX:=Bh P g o t dl rest (i+1) (cur.setIfInBounds (o+i) v) (w.setRow g (cur.setIfInBounds (o+i) v)) (setRow_heap w g cur _ t _ aB) (by simpa using aY) (by simp at al⊢;omega) (fun x aj=>aa x (by simp[aj]));simp only[storeCells,Sem.run_bind,b3,Result.andThen_ok];rw[aX,setRow_setRow];congr 3;have e:=list_seg_step cur.toList (o+i) v rest (by simp at al⊢;omega);simpa[Array.toList_setIfInBounds,rG]using e
end
section
variable {P:Program}(w:World)
def LV{z:Value}{size:Nat}(e:TypeId)(base n m j8:Nat)(xs news:List Value)(pf:z.cells.size=size)(aj:xs.length=n*size)(al:news.length=m*size)(oo:n+m<=maxLen)(rH:base<=w.heap.size)(row:Option Nat) :
  (w.drew.alloc (.cells (xs.toArray++news.toArray++Builtin.zeroCells z.cells (grownCap w (n+m) j8 e-(n+m))) e)).h0 base e size
   (.slice (some ⟨w.heap.size,0,none⟩) (n+m) (grownCap w (n+m) j8 e)) (n+m) (xs++news) /\
  w.grownBy (w.drew.alloc (.cells (xs.toArray++news.toArray++Builtin.zeroCells z.cells (grownCap w (n+m) j8 e-(n+m))) e)) row:=by
 have hlen:(xs++news).length=(n+m)*size:=by rw[eE,aj,al,j9]
 have k':=grownCap_ge w (n+m) j8 e;have fT:grownCap w (n+m) j8 e<=maxLen:=grownCap_le_maxLen w (n+m) j8 e oo;refine⟨⟨hlen,.inr ⟨w.heap.size,_,_,rfl,rH,⟨_,Go.heap_alloc_new w.drew _,.inl rfl⟩,k',fT,?_,?_⟩⟩,⟨rfl,rfl,rfl,by simp,fun k am _=>Go.heap_alloc_old w.drew _ am⟩⟩
 ·simp only[HS,lS,size_zeroCells,pf,aj,al,<-j9];congr 1;omega
 ·simp only[LW,pg];rw[<-pg,<-hlen];exact Ea
def ZG(base:Nat)(t ty e:TypeId)(i:TypeInfo)(z:Value)(size bytes:Nat)(ba:P.underlying t=some (.slice e))(ai:P.info? e=some i)(aY:i.zero=some z)
  (tj:i.size=size)(rI:i.bytes=bytes)(pf:z.cells.size=size)(b':0<size)
  (v:Value)(n:Nat)(xs:List Value)(bq:w.h0 base e size v n xs)
  (a:Addr)(m c:Nat)(news:List Value)(al:news.length=m*size)(la:∀j u,news[j]?=some u->w.cell? (a.add j)=some u)(aa:∀u∈news,u.oneCell'=true)
  (oo:n+m<=maxLen)(Eb:(n+m)*bytes<=140737488355328)(rH:base<=w.heap.size) :
  ∃cz w',(Builtin.append_ #[t,t] ty #[v,.slice (some a) m c]).run P w=.ok cz w'/\w'.h0 base e size cz (n+m) (xs++news)/\w.grownBy w' v.ownBlock/\(cz.ownBlock=v.ownBlock\/cz.ownBlock=some w.heap.size):=by
 have plain:w.ownsRow base e size v n xs->_:=fun h=>run_append_own_at (P:=P) w base t ty e i z size bytes ba ai aY tj rI pf b' v n xs h a m c news al la aa oo Eb rH;rcases bq.2 with aT|⟨g,cap,cur,rfl,lb,⟨dl,aB,hI⟩,nl,fT,en,ge⟩
 ·obtain⟨cz,w',aa,ab,ar,_,bD⟩:=plain ⟨bq.1,.inl aT⟩;exact⟨cz,w',aa,World.RD ab,ar,bD⟩
 by_cases ZH:dl=(0,0)
 ·subst ZH;obtain⟨cz,w',aa,ab,ar,_,bD⟩:=plain ⟨bq.1,.inr ⟨g,cap,cur,rfl,lb,aB,nl,fT,en,ge⟩⟩;exact⟨cz,w',aa,World.RD ab,ar,bD⟩
 subst tj;subst rI;have hlen:(xs++news).length=(n+m)*i.size:=by rw[eE,bq.1,al,j9]
 by_cases Bi:n+m<=cap
 ·have eF:n*i.size+news.length<=cur.size:=by rw[al,en,<-j9];exact yJ _ Bi
  have ay:=run_firstCells_some (P:=P) w i.size m a m c news al la;have b3:=Bh P g (n*i.size) e dl news 0 cur w aB hI (by simpa using eF) aa;simp only[ti]at b3;refine⟨.slice (some ⟨g,0,none⟩) (n+m) cap,w.setRow g (cur.toList.take (n*i.size)++news++cur.toList.drop (n*i.size+news.length)).toArray,?_,⟨hlen,.inr ⟨g,cap,_,rfl,lb,⟨dl,setRow_heap w g cur _ e _ aB,?_⟩,Bi,fT,?_,?_⟩⟩,⟨rfl,rfl,rfl,by simp,fun k _ am=>setRow_other w g k _ (fun e=>am (by simp[Value.ownBlock,e]))⟩,Or.inl rfl⟩
  ·simp[Builtin.append_,run_underlying ba,sizeOf,typeInfo,ai,Builtin.lenOf,Bi,ay,Addr.add_lit,b3]
  ·have:(cur.toList.take (n*i.size)++news++cur.toList.drop (n*i.size+news.length)).toArray.size=cur.size:=by
    simp only[lS,eE,d',eo,iZ];omega
   rw[this];exact hI
  ·simp only[lS,eE,d',eo,iZ];omega
  ·rw[ge,<-hlen];exact Ea
 ·have holds:∀j u,xs[j]?=some u->w.cell? ((⟨g,0,none⟩:Addr).add j)=some u:=bq.cells (g:=g) rfl;have an:=run_append_grow (P:=P) w t ty e i z ba ai aY ⟨g,0,none⟩ n cap xs bq.1 holds a m c news al la (by omega) (by simp only[maxLen]at oo;omega) (growslice_fits (by omega) Eb);have lT:=LV w e base n m cap xs news pf bq.1 al oo rH (Value.ownBlock (.slice (some ⟨g,0,none⟩) n cap));exact⟨_,_,an,lT.1,lT.2,Or.inr rfl⟩
def RE(base:Nat)(t u ty e:TypeId)(i:TypeInfo)(ba:P.underlying t=some (.slice e))(hu:P.underlying u=some .string)(ai:P.info? e=some i)(aY:i.zero=some (.int .u8 0))
  (tj:i.size=1)(rI:i.bytes=1)
  (v:Value)(n:Nat)(xs:List Value)(bq:w.h0 base e 1 v n xs)(s:ByteArray)
  (oo:n+s.size<=maxLen)(Eb:n+s.size<=140737488355328)(rH:base<=w.heap.size) :
  ∃cz w',(Builtin.append_ #[t,u] ty #[v,.string s]).run P w=.ok cz w'/\w'.h0 base e 1 cz (n+s.size) (xs++strCells s)/\w.grownBy w' v.ownBlock/\(cz.ownBlock=v.ownBlock\/cz.ownBlock=some w.heap.size):=by
 have zog:n+s.size<=9223372036854775807:=by simp only[maxLen]at oo;omega
 have jL:xs.length=n:=by simpa using bq.1
 have hlen:(xs++strCells s).length=(n+s.size)*1:=by rw[eE,jL,strCells_length,uY]
 rcases bq.2 with⟨rfl,rfl⟩|⟨g,cap,cur,rfl,lb,⟨dl,aB,hI⟩,nl,fT,en,ge⟩
 ·have aj:xs=[]:=ld jL;subst aj;by_cases hm:s.size=0
  ·have aT:strCells s=[]:=ld (by rw[strCells_length];exact hm);refine⟨.slice none 0 0,w,?_,by rw[hm,aT];exact World.yH w base e 1,⟨rfl,rfl,rfl,eG _,fun _ _ _=>rfl⟩,.inl rfl⟩;have ay:=run_firstCells_string (P:=P) w 1 s;rw[hm]at ay;simp[Builtin.append_,run_underlying ba,run_underlying hu,sizeOf,typeInfo,ai,tj,Builtin.lenOf,hm,ay]
  ·have an:=run_append_nil_string (P:=P) w t u ty e i (.int .u8 0) ba hu ai aY s (by omega) (by omega) (by rw[rI];omega);have lT:=LV w e base 0 s.size 0 [] (strCells s) (z:=.int .u8 0) (size:=1) rfl rfl (by rw[strCells_length,uY]) oo rH (Value.ownBlock (.slice none 0 0));simp only[f_,nt,Array.empty_append]at lT⊢;have av:(s.data.map fun b=>Value.int .u8 b.toNat)=(strCells s).toArray:=by
    apply qk;simp[strCells]
   rw[av]at an;exact⟨_,_,an,lT.1,lT.2,.inr rfl⟩
 ·by_cases Bi:n+s.size<=cap
  ·have zoh:cur.size=cap:=by simpa using en
   have ay:=run_firstCells_string (P:=P) w 1 s;have aa:∀u∈strCells s,u.oneCell'=true:=by intro u hu;simp only[strCells,hh]at hu;obtain⟨b,_,rfl⟩:=hu;rfl
   have b3:=Bh P g n e dl (strCells s) 0 cur w aB hI (by rw[strCells_length];omega) aa;simp only[ti]at b3;refine⟨.slice (some ⟨g,0,none⟩) (n+s.size) cap,w.setRow g (cur.toList.take n++strCells s++cur.toList.drop (n+(strCells s).length)).toArray,?_,⟨hlen,.inr ⟨g,cap,_,rfl,lb,⟨dl,setRow_heap w g cur _ e _ aB,?_⟩,Bi,fT,?_,?_⟩⟩,⟨rfl,rfl,rfl,by simp,fun k _ am=>setRow_other w g k _ (fun e=>am (by simp[Value.ownBlock,e]))⟩,Or.inl rfl⟩
   ·simp[Builtin.append_,run_underlying ba,run_underlying hu,sizeOf,typeInfo,ai,tj,Builtin.lenOf,Bi,ay,Addr.add_lit,b3]
   ·have:(cur.toList.take n++strCells s++cur.toList.drop (n+(strCells s).length)).toArray.size=cur.size:=by
     simp only[lS,eE,d',eo,iZ,strCells_length];omega
    rw[this];exact hI
   ·simp only[lS,eE,d',eo,iZ,strCells_length];omega
   ·have Ec:cur.toList.take n=xs:=by simpa using ge
    rw[Ec,<-hlen];exact Ea
  ·have holds:∀j u,xs[j]?=some u->w.cell? ((⟨g,0,none⟩:Addr).add j)=some u:=bq.cells (g:=g) rfl;have an:=run_append_grow_string (P:=P) w t u ty e i (.int .u8 0) ba hu ai aY ⟨g,0,none⟩ n cap xs (by rw[tj];simpa using jL) holds s (by omega) (by omega) (by rw[rI];exact growslice_fits (by omega) (by omega));have lT:=LV w e base n s.size cap xs (strCells s) (z:=.int .u8 0) (size:=1) rfl (by simpa using jL) (by rw[strCells_length,uY]) oo rH (Value.ownBlock (.slice (some ⟨g,0,none⟩) n cap));exact⟨_,_,an,lT.1,lT.2,.inr rfl⟩
def ZI(base:Nat)(src dst e:TypeId)(s:ByteArray)(ap:P.underlying src=some .string)(ax:P.underlying dst=some (.slice e))(he:P.underlying e=some (.int .u8))(oo:s.size<=maxLen)(rH:base<=w.heap.size)(row:Option Nat) :
  ∃cz w',(convert src dst (.string s)).run P w=.ok cz w'/\w'.h0 base e 1 cz s.size (strCells s)/\w.grownBy w' row/\cz.ownBlock=some w.heap.size:=by
 have an:=run_bytes_of_string (P:=P) w src dst e s ap ax he;have k':=grownCap_ge w s.size 0 e;have fT:grownCap w s.size 0 e<=maxLen:=grownCap_le_maxLen w s.size 0 e oo;have b':(bytesRow s (grownCap w s.size 0 e)).size=grownCap w s.size 0 e:=by simp only[bytesRow,HS,Array.size_map,Array.size_replicate];have:s.data.size=s.size:=rfl;omega
 refine⟨_,_,an,⟨by rw[strCells_length,uY],.inr ⟨w.heap.size,_,_,rfl,rH,⟨_,Go.heap_alloc_new w.drew _,.inr ?_⟩,k',fT,by rw[b',uY],?_⟩⟩,⟨rfl,rfl,rfl,by simp,fun k am _=>Go.heap_alloc_old w.drew _ am⟩,rfl⟩
 ·exact eG _
 ·simp only[bytesRow,LW,uY,strCells];have av:(s.data.map fun b=>Value.int .u8 b.toNat).toList=s.data.toList.map fun b=>Value.int .u8 b.toNat:=by simp
  rw[av];have al:(s.data.toList.map fun b=>Value.int .u8 b.toNat).length=s.size:=by simp
  rw[<-al];exact Ea
end
end Go
namespace Go.Ab
open Go Go.RowKit Go.IntKind
inductive af where
 |bool (b:Bool)
 |int (k:IntKind) (n:Int)
 |str (l:List UInt8)
 |nil
 |empty (size:Nat)
 |list (size:Nat) (xs:List (List af))
 |atom (v:Value)
 |ht (f:FuncId) (caps:List af)
 |ref (cs:List af)
 |any
 |g8 (fi fj:Bool) (aU vs:List (List af))
inductive az where
 |one (c:af)
 |agg (cs:List af)
inductive ad where
 |dead
 |x (v:az)
 |b2 (vs:List az)
 |box (cs:List af)
 |ptr (s off:Nat)
 |dX (s i off:Nat)
 |elem (cs:List af)
 |own (e size:Nat) (xs:List (List af))
 |alias (s:Nat)
 |mp (c:Nat) (bs:List Nat) (es:List (az×az))
 |view (s aK len:Nat) (whole:Bool)
 |cr (f:FuncId) (caps:List (af⊕(Nat×Nat)))
 |cond (e:Bool) (v:ad)
 |link (s off d:Nat)
 |res (l:List (Nat×Nat))
 |ds (s off:Nat)
 |cf (b:Nat) (cs:List af)
 |cT (v:Value) (e size:Nat) (xs:List (List af))
 |fc (b c:Nat) (bs:List Nat) (es:List (az×az))
abbrev ag:=Nat->ad
def HT(a:Bool)(us:List Value)(v:Value):Prop:=match a with
 |true=>v=.agg us.toArray
 |false=>us=[v]
inductive bn (w:World) (S:Nat->Prop):af->Value->Prop where
 |bool (b:Bool):bn w S (.bool b) (.bool b)
 |int (k:IntKind) (n:Int):bn w S (.int k n) (.int k n)
 |str (l:List UInt8) (h:l.length<=maxLen):bn w S (.str l) (.string ⟨l.toArray⟩)
 |nil:bn w S .nil (.slice none 0 0)
 |empty (a:Addr) (cap size:Nat) (h:cap<=maxLen):bn w S (.empty size) (.slice (some a) 0 cap)
 |kH (a:Option Addr) (cap size:Nat) (h:cap<=maxLen) (aT:a=none->cap=0):bn w S (.list size []) (.slice a 0 cap)
 |list (bT:Addr) (cap size:Nat) (xs:List (List af)) (U:Nat->Value) (ap:S bT.block) (cU:bT.spot=none) (ao:xs.length<=cap) (hm:cap<=maxLen)
   (aj:∀x∈xs,x.length=size)(d7:∀(j:Nat) (c:af),xs.flatten[j]?=some c->w.cell? (bT.add j)=some (U j))
   (an:∀(j:Nat) (c:af),xs.flatten[j]?=some c->bn w S c (U j)):bn w S (.list size xs) (.slice (some bT) xs.length cap)
 |atom (v:Value) (h:v.oneCell'=true):bn w S (.atom v) v
 |ht (f:FuncId) (caps:List af) (U:Nat->Value) (h:∀(j:Nat) (c:af),caps[j]?=some c->bn w S c (U j)):bn w S (.ht f caps) (.func (.func f) #[] ((List.range caps.length).map U).toArray)
 |ref (bT:Addr) (cs:List af) (U:Nat->Value) (ap:S bT.block) (cU:bT.spot=none) (d7:∀(j:Nat) (c:af),cs[j]?=some c->w.cell? (bT.add j)=some (U j))
   (an:∀(j:Nat) (c:af),cs[j]?=some c->bn w S c (U j)):bn w S (.ref cs) (.pointer (some bT))
 |any (v:Value) (h:v.oneCell'=true):bn w S .any v
 |g8 (b c:Nat) (ents:Array MapEntry) (fi fj:Bool) (aU vs:List (List af)) (U V:Nat->Nat->Value) (ap:S b) (a1:w.heap[b]?=some (.map ents c)) (aT:ents.size=aU.length) (hm:vs.length=aU.length)
   (am:∀(j:Nat) (k:List af),aU[j]?=some k->∃e,ents.toList[j]?=some e/\HT fi ((List.range k.length).map (U j)) e.key)
   (aH:∀(j:Nat) (x:List af),vs[j]?=some x->∃e,ents.toList[j]?=some e/\HT fj ((List.range x.length).map (V j)) e.val)
   (oq:∀(j:Nat) (k:List af) (i:Nat) (c:af),aU[j]?=some k->k[i]?=some c->bn w S c (U j i))
   (rJ:∀(j:Nat) (x:List af) (i:Nat) (c:af),vs[j]?=some x->x[i]?=some c->bn w S c (V j i)):bn w S (.g8 fi fj aU vs) (.map (some b))
def cj(w:World)(S:Nat->Prop)(cs:List af)(vs:List Value):Prop:=
 vs.length=cs.length/\∀(j:Nat) (c:af),cs[j]?=some c->∃u,vs[j]?=some u/\bn w S c u
def cg(w:World)(S:Nat->Prop):az->Value->Prop
 |.one c,v=>bn w S c v
 |.agg cs,v=>∃us:Array Value,v=.agg us/\cj w S cs us.toList
def bn.LX{w:World}{S:Nat->Prop}{c:af}{v:Value}(h:bn w S c v):v.oneCell'=true:=by cases h<;>first|rfl|assumption
def bn.mono{w w':World}{S S':Nat->Prop}{c:af}{v:Value}(h:bn w S c v)(bW:∀b,S b->S' b)
  (ae:∀b,S b->w'.heap[b]?=w.heap[b]?):bn w' S' c v:=by
 induction h with
 |bool b=>exact .bool b
 |int k n=>exact .int k n
 |str l h=>exact .str l h
 |nil=>exact .nil
 |empty a cap size h=>exact .empty a cap size h
 |kH a cap size h aT=>exact .kH a cap size h aT
 |list bT cap size xs U ap cU ao hm aj d7 an aX=>
  refine .list bT cap size xs U (bW _ ap) cU ao hm aj (fun j c ac=>?_) aX;have yI:(bT.add j).block=bT.block:=by unfold Addr.add;split<;>rfl
  rw[World.cell?_of_block (w:=w) (w':=w') (by rw[yI];exact ae _ ap)];exact d7 j c ac
 |atom v h=>exact .atom v h
 |any v h=>exact .any v h
 |g8 b c ents fi fj aU vs U V ap a1 aT hm am aH oq rJ ZJ ZK=>exact .g8 b c ents fi fj aU vs U V (bW _ ap) (by rw[ae _ ap];exact a1) aT hm am aH ZJ ZK
 |ht f caps U h aX=>exact .ht f caps U aX
 |ref bT cs U ap cU d7 an aX=>
  refine .ref bT cs U (bW _ ap) cU (fun j c ac=>?_) aX;have yI:(bT.add j).block=bT.block:=by unfold Addr.add;split<;>rfl
  rw[World.cell?_of_block (w:=w) (w':=w') (by rw[yI];exact ae _ ap)];exact d7 j c ac
def cj.mono{w w':World}{S S':Nat->Prop}{cs:List af}{vs:List Value}(h:cj w S cs vs)(bW:∀b,S b->S' b)
  (ae:∀b,S b->w'.heap[b]?=w.heap[b]?):cj w' S' cs vs:=
 ⟨h.1,fun j c ac=>let ⟨u,hu,an⟩:=h.2 j c ac;⟨u,hu,an.mono bW ae⟩⟩
def cg.mono{w w':World}{S S':Nat->Prop}{x:az}{v:Value}(h:cg w S x v)(bW:∀b,S b->S' b)
  (ae:∀b,S b->w'.heap[b]?=w.heap[b]?):cg w' S' x v:=by
 cases x with
 |one c=>exact bn.mono h bW ae
 |agg cs=>obtain⟨us,aH,al⟩:=h;exact⟨us,aH,al.mono bW ae⟩
def ql(w:World)(S:Nat->Prop)(bs:List Nat)(es:List (az×az))(ents:List MapEntry):Prop:=
 ents.length=es.length/\bs.length=es.length/\∀(j:Nat) (x:az×az),es[j]?=some x->∃e,ents[j]?=some e/\bs[j]?=some e.born/\cg w S x.1 e.key/\cg w S x.2 e.val
def ql.mono{w w':World}{S S':Nat->Prop}{bs:List Nat}{es:List (az×az)}{ents:List MapEntry}(h:ql w S bs es ents)(bW:∀b,S b->S' b)
  (ae:∀b,S b->w'.heap[b]?=w.heap[b]?):ql w' S' bs es ents:=
 ⟨h.1,h.2.1,fun j x ac=>let ⟨e,aa,ab,ar,aN⟩:=h.2.2 j x ac;⟨e,aa,ab,ar.mono bW ae,aN.mono bW ae⟩⟩
def a':ad->Value->Option Nat
 |.box _,.pointer (some a)=>some a.block
 |.own _ _ _,v=>v.ownBlock
 |.mp _ _ _,.map (some b)=>some b
 |.cf b _,_=>some b
 |.cT v _ _ _,_=>v.ownBlock
 |.fc b _ _ _,_=>some b
 |_,_=>none
def ad.aM:ad->Bool
 |.box _=>true
 |.own _ _ _=>true
 |.mp _ _ _=>true
 |.cf _ _=>true
 |.cT _ _ _ _=>true
 |.fc _ _ _ _=>true
 |_=>false
def ad.valOf:ad->Value->Value
 |.cT v _ _ _,_=>v
 |.fc b _ _ _,_=>.map (some b)
 |_,u=>u
def ad.fz:ad->Option (List af)
 |.box cs=>some cs
 |.cf _ cs=>some cs
 |_=>none
def ad.mB{a:ad}{cs:List af}(h:a.fz=some cs):a.aM=true:=by cases a<;>first|rfl|cases h
def ad.size:ad->Nat
 |.own _ size _=>size
 |.cT _ _ size _=>size
 |_=>0
def ad.len:ad->Nat
 |.own _ _ xs=>xs.length
 |.cT _ _ _ xs=>xs.length
 |_=>0
def j_(d:Nat):af⊕(Nat×Nat)->Bool
 |.inl _=>false
 |.inr p=>p.1==d
def ad.refs(d:Nat):ad->Bool
 |.ptr s _=>s==d
 |.dX s _ _=>s==d
 |.alias s=>s==d
 |.view s _ _ _=>s==d
 |.cr _ caps=>caps.any (j_ d)
 |.cond _ v=>v.refs d
 |.link s _ t=>s==d ||t==d
 |.ds s _=>s==d
 |_=>false
def jm{a:ad}{v:Value}(h:a.aM=false):a' a v=none:=by cases a<;>first|rfl|(simp[ad.aM]at h)
def ad.h1(d:Nat):ad->Bool
 |.ptr s _=>s==d
 |.dX s _ _=>s==d
 |.alias s=>s==d
 |.view s _ _ _=>s==d
 |.cr _ caps=>caps.any (j_ d)
 |.cond e v=>e&&v.h1 d
 |.link s _ t=>s==d ||t==d
 |.ds s _=>s==d
 |_=>false
def ad.free:ad->Bool
 |.dead=>true
 |.link _ _ _=>true
 |.res _=>true
 |_=>false
def wP{a:ad}(h:a.free=true):a.aM=false:=by cases a<;>first|rfl|cases h
def ad.apart:ad->Bool
 |.dead=>true
 |.link _ _ _=>true
 |.res _=>true
 |.cT _ _ _ _=>true
 |.fc _ _ _ _=>true
 |_=>false
def RF{a:ad}(h:a.apart=true)(aw:a.aM=true):(∃v e z xs,a=.cT v e z xs)\/∃b c bs es,a=.fc b c bs es:=by cases a<;>first|exact .inl ⟨_,_,_,_,rfl⟩|exact .inr ⟨_,_,_,_,rfl⟩|(cases aw;done)|(cases h;done)
def ad.mC:ad->Nat->Nat->Nat->Prop
 |.link i off d,bB,Bj,bt=>i=bB/\off=Bj/\d=bt
 |.cond e v,bB,Bj,bt=>e=true/\v.mC bB Bj bt
 |_,_,_,_=>False
def ad.nu{i off d:Nat}:∀{a:ad},a.mC i off d->a.refs i=true/\a.refs d=true
 |.link _ _ _,⟨rfl,rfl,rfl⟩=>by simp[ad.refs]
 |.cond _ v,h=>by have:=ad.nu (a:=v) h.2;exact this
def ad.ot{d:Nat}:∀{a:ad},a.h1 d=true->a.refs d=true
 |.ptr _ _,h=>h
 |.dX _ _ _,h=>h
 |.alias _,h=>h
 |.view _ _ _ _,h=>h
 |.cr _ _,h=>h
 |.link _ _ _,h=>h
 |.ds _ _,h=>h
 |.cond e v,h=>by simp only[ad.h1,b4]at h;exact ad.ot (a:=v) h.2
def kI{a:ad}{d:Nat}(h:a.refs d=true):a.aM=false:=by cases a<;>simp_all [ad.refs,ad.aM]
def wQ(w:World)(S:Nat->Prop)(s:ag)(tm:Nat->Value)(i off:Nat)(u:Value):Prop:=
 ∃ef b:Nat,u=.pointer (some ⟨ef,0,none⟩)/\S ef/\w.cell? ⟨ef,0,none⟩=some (.pointer (some ⟨b,off,none⟩))/\a' (s i) (tm i)=some b
def wQ.mono{w w':World}{S S':Nat->Prop}{s s':ag}{tm tm':Nat->Value}{i off:Nat}{u:Value}(h:wQ w S s tm i off u)(bW:∀b,S b->S' b)(ae:∀b,S b->w'.heap[b]?=w.heap[b]?)(am:∀b,a' (s i) (tm i)=some b->a' (s' i) (tm' i)=some b):wQ w' S' s' tm' i off u:=by obtain⟨ef,b,rfl,aa,ab,ar⟩:=h;exact⟨ef,b,rfl,bW _ aa,by rw[World.cell?_of_block (w:=w) (w':=w') (ae _ aa)];exact ab,am _ ar⟩
def uZ(w:World)(S:Nat->Prop)(s:ag)(tm:Nat->Value):af⊕(Nat×Nat)->Value->Prop
 |.inl c,u=>bn w S c u
 |.inr p,u=>if p.2<1000000 then ∃b,u=.pointer (some ⟨b,p.2,none⟩)/\a' (s p.1) (tm p.1)=some b else wQ w S s tm p.1 (p.2-1000000) u
def qm(w:World)(S:Nat->Prop)(s:ag)(tm:Nat->Value)(p:Nat×Nat)(u:Value):uZ w S s tm (.inr p) u=if p.2<1000000 then ∃b,u=.pointer (some ⟨b,p.2,none⟩)/\a' (s p.1) (tm p.1)=some b else wQ w S s tm p.1 (p.2-1000000) u:=rfl
def cV(w:World)(S:Nat->Prop)(B:Nat->Prop)(s:ag)(tm:Nat->Value):ad->Value->Prop
 |.dead,_=>True
 |.x bK,v=>cg w S bK v
 |.b2 vs,v=>∃us:Array Value,v=.tuple us/\us.size=vs.length/\∀(j:Nat) (x:az),vs[j]?=some x->∃u,us[j]?=some u/\cg w S x u
 |.box cs,v=>∃(b:Nat) (arr:Array Value) (t:TypeId),v=.pointer (some ⟨b,0,none⟩)/\w.heap[b]?=some (.cells arr t (0,0))/\cj w S cs arr.toList/\B b
 |.ptr i off,v=>∃b,v=.pointer (some ⟨b,off,none⟩)/\a' (s i) (tm i)=some b
 |.dX i k off,v=>∃b,v=.pointer (some ⟨b,k*(s i).size+off,none⟩)/\a' (s i) (tm i)=some b
 |.elem cs,v=>∃bT:Addr,v=.pointer (some bT)/\bT.spot=none/\S bT.block/\∀(j:Nat) (c:af),cs[j]?=some c->∃u,w.cell? (bT.add j)=some u/\bn w S c u
 |.own e size xs,v=>∃us:List Value,w.h0 0 e size v xs.length us/\cj w S xs.flatten us/\(∀x∈xs,x.length=size)/\xs.length<=maxLen/\∀b,v.ownBlock=some b->B b
 |.alias i,v=>v=(s i).valOf (tm i)/\(s i).aM=true
 |.mp c bs es,v=>∃(b:Nat) (ents:Array MapEntry),v=.map (some b)/\w.heap[b]?=some (.map ents c)/\B b/\ql w S bs es ents.toList
 |.view i aK len wh,v=>(s i).aM=true/\aK+len<=(s i).len/\((v=.slice none 0 0/\len=0)\/∃b off cap,v=.slice (some ⟨b,off,none⟩) len cap/\len<=cap/\cap<=maxLen/\a' (s i) (tm i)=some b/\(0<len->off=aK*(s i).size)/\(wh=true->aK=0/\∃l,(s i).valOf (tm i)=.slice (some ⟨b,off,none⟩) l cap))
 |.cr f caps,v=>∃us:Array Value,v=.func (.func f) #[] us/\us.size=caps.length/\∀(j:Nat) (c:af⊕(Nat×Nat)),caps[j]?=some c->∃u,us[j]?=some u/\uZ w S s tm c u
 |.cond e a,v=>a.aM=false/\if e then cV w S B s tm a v else v=undef
 |.link i off d,_=>(s d).aM=true/\∃cs b,(s i).fz=some cs/\cs[off]?=some .any/\a' (s i) (tm i)=some b/\w.cell? ⟨b,off,none⟩=some ((s d).valOf (tm d))
 |.res _,_=>True
 |.ds i off,v=>wQ w S s tm i off v
 |.cf b cs,_=>∃(arr:Array Value) (t:TypeId),w.heap[b]?=some (.cells arr t (0,0))/\cj w S cs arr.toList/\B b
 |.cT v e size xs,_=>∃us:List Value,w.h0 0 e size v xs.length us/\cj w S xs.flatten us/\(∀x∈xs,x.length=size)/\xs.length<=maxLen/\∀b,v.ownBlock=some b->B b
 |.fc b c bs es,_=>∃ents:Array MapEntry,w.heap[b]?=some (.map ents c)/\B b/\ql w S bs es ents.toList
structure Env where
 rd:Nat->Prop
 eA:Nat->Prop
 m:Nat
 val:Nat->Value
abbrev lf(S0:Env)(B:Nat):Nat->Prop:=fun b=>B<=b\/S0.eA b
def bR(S0:Env)(B:Nat)(w:World)(s:ag)(tm:Nat->Value):Nat->Prop:=
 fun b=>(S0.rd b\/lf S0 B b)/\b<w.heap.size/\∀i,a' (s i) (tm i)≠some b
abbrev aJ(a:Act):Nat->Value:=fun i=>a.tmps.getD i undef
class bf where
 holds:World->Prop
 at_:Nat->Prop
 lt:∀{w:World} {b:Nat},holds w->at_ b->b<w.heap.size
 RG:∀{w w':World},holds w->w.heap.size<=w'.heap.size->(∀b,at_ b->w'.heap[b]?=w.heap[b]?)->holds w'
@[reducible]def bf.none:bf:=⟨fun _=>True,fun _=>False,fun _ h=>h.elim,fun _ _ _=>trivial⟩
variable [bf]
structure ph(S0:Env)(w0:World):Prop where
 rd:∀b,S0.rd b->b<w0.heap.size
 eA:∀b,S0.eA b->b<w0.heap.size
 apart:∀b,S0.rd b->¬S0.eA b
 wR:bf.holds w0
 wS:∀b,bf.at_ b->¬S0.eA b
structure Kept(L:Nat->Prop)(w w':World):Prop where
 os:w'.os=w.os
 tape:w'.tape=w.tape
 output:w'.output=w.output
 size:w.heap.size<=w'.heap.size
 block:∀k,k<w.heap.size->¬L k->w'.heap[k]?=w.heap[k]?
def Kept.refl(L:Nat->Prop)(w:World):Kept L w w:=⟨rfl,rfl,rfl,eG _,fun _ _ _=>rfl⟩
def Kept.below{L:Nat->Prop}{w w':World}(h:Kept L w w')(jn:∀b,¬L b):Below w.heap.size w w':=⟨h.os,h.tape,h.output,h.size,fun k am=>h.block k am (jn k)⟩
def Kept.grown{L:Nat->Prop}{a w w':World}{row:Option Nat}(h:Kept L a w)(aB:w.grownBy w' row)(an:∀k,row=some k->a.heap.size<=k\/L k):Kept L a w':=
 ⟨aB.os.trans h.os,aB.tape.trans h.tape,aB.output.trans h.output,iJ h.size aB.size,fun k am aT=>by rw[aB.block k (u0 am h.size) (fun e=>by rcases an k e.symm with aa|aa;omega;exact aT aa)];exact h.block k am aT⟩
def Kept.drew{L:Nat->Prop}{a w:World}(h:Kept L a w)(n:Nat):Kept L a {w with drawn:=n}:=⟨h.os,h.tape,h.output,h.size,h.block⟩
def ph.Bk{S0:Env}{w0 w:World}(h:ph S0 w0)(k:Kept S0.eA w0 w):bf.holds w:=bf.RG h.wR k.size (fun b ae=>k.block b (bf.lt h.wR ae) (h.wS b ae))
structure Rel(S0:Env)(w0:World)(n:Nat)(s:ag)(a:Act)(w:World):Prop where
 defers:a.defers=[]
 size:a.tmps.size=n
 below:Kept S0.eA w0 w
 lt:ph S0 w0
 rep:∀i,cV w (bR S0 w0.heap.size w s (aJ a)) (lf S0 w0.heap.size) s (aJ a) (s i) (aJ a i)
 inj:∀i j b,a' (s i) (aJ a i)=some b->a' (s j) (aJ a j)=some b->i=j
 out:∀i,n<=i->(s i).apart=true
 wf:∀i j,(s i).refs j=true->(s j).aM=true
 lU:∀j,j<S0.m->aJ a j=S0.val j
def put(s:ag)(d:Nat)(v:ad):ag:=
 match (s d).aM with
 |true=>fun i=>if i=d then (match v.refs d with|true=>.dead|false=>v)else if (s i).refs d then .dead else s i
 |false=>fun i=>if i=d then (match v.refs d with|true=>.dead|false=>v)else s i
def jo{s:ag}{d:Nat}{v:ad}(h:v.refs d=false):put s d v d=v:=by unfold put;cases (s d).aM<;>simp[h]
def LY{s:ag}{d:Nat}{v:ad}(h:v.refs d=true):put s d v d=.dead:=by unfold put;cases (s d).aM<;>simp[h]
def ou{s:ag}{d i:Nat}{v:ad}(h:i≠d):put s d v i=s i\/((s d).aM=true/\(s i).refs d=true/\put s d v i=.dead):=by
 unfold put;cases aw:(s d).aM
 ·exact .inl (by simp[h])
 ·by_cases an:(s i).refs d=true
  ·exact .inr ⟨rfl,an,by simp[h,an]⟩
  ·exact .inl (by simp[h,an])
def Ed{s:ag}{d i:Nat}{v:ad}(h:i≠d)(aw:(s d).aM=true)(an:(s i).refs d=true):put s d v i=.dead:=by unfold put;rw[aw];simp[h,an]
def HU{s:ag}{d i:Nat}{v:ad}(h:i≠d)(an:(s i).refs d=false):put s d v i=s i:=by
 rcases ou (v:=v) h with h|⟨_,h,_⟩
 ·exact h
 ·rw[an]at h;cases h
def mD{s:ag}{d i:Nat}{v:ad}(h:i≠d)(an:(s i).aM=true):put s d v i=s i:=by
 rcases ou (v:=v) h with h|⟨_,h,_⟩
 ·exact h
 ·rw[kI h]at an;cases an
def fe{s:ag}{d:Nat}{v:ad}(h:∀i j,(s i).refs j=true->(s j).aM=true)(aH:∀j,v.refs j=true->(s j).aM=true) :
  ∀i j,(put s d v i).refs j=true->(put s d v j).aM=true:=by
 intro i j ct;by_cases ai:i=d
 ·subst ai;cases an:v.refs i with
  |true=>rw[LY an]at ct;cases ct
  |false=>
   rw[jo an]at ct;have fA:j≠i:=by rintro rfl;rw[ct]at an;cases an
   rw[mD fA (aH j ct)];exact aH j ct
 ·rcases ou (s:=s) (v:=v) ai with e|⟨_,_,e⟩
  ·rw[e]at ct;have lc:=h i j ct;by_cases j':j=d
   ·subst j';rw[Ed ai lc ct]at e;rw[<-e]at ct;cases ct
   ·rw[mD j' lc];exact lc
  ·rw[e]at ct;cases ct
def yK(a:Act)(d:Nat)(v:Value)(ax:d<a.tmps.size)(i:Nat):aJ (a.put (some d) v) i=if i=d then v else aJ a i:=by
 simp only[aJ,Act.put,lg];by_cases h:i=d
 ·subst h;simp[ax]
 ·rw[LZ (by omega)];simp[h]
def block_add(a:Addr)(n:Nat):(a.add n).block=a.block:=by unfold Addr.add;split<;>rfl
def cV.mono{w w':World}{S S':Nat->Prop}{B:Nat->Prop}{s s':ag}{tm tm':Nat->Value}{a:ad}{v:Value}
  (h:cV w S B s tm a v)(bW:∀b,S b->S' b)(ae:∀b,S b->w'.heap[b]?=w.heap[b]?)
  (aw:∀b,a' a v=some b->w'.heap[b]?=w.heap[b]?)
  (an:∀i,a.h1 i=true->tm' i=tm i/\((s i).aM=true->(s' i).aM=true/\(s' i).size=(s i).size/\(s' i).len=(s i).len/\(s' i).valOf=(s i).valOf)/\(∀b,a' (s i) (tm i)=some b->a' (s' i) (tm i)=some b))
  (am:∀i off d cs b,a.mC i off d->(s i).fz=some cs->a' (s i) (tm i)=some b->(∃cs',(s' i).fz=some cs'/\cs'[off]?=cs[off]?)/\w'.cell? ⟨b,off,none⟩=w.cell? ⟨b,off,none⟩:=by intro _ _ _ _ _ h;exact h.elim):cV w' S' B s' tm' a v:=by
 induction a with
 |dead=>trivial
 |res l=>trivial
 |link i off d=>obtain⟨aw,cs,b,ap,ao,ae,aH⟩:=h;obtain⟨aa,_,ab⟩:=an i (by simp[ad.h1]);obtain⟨ar,aN,_⟩:=an d (by simp[ad.h1]);obtain⟨⟨cs',aF,aP⟩,a7⟩:=am i off d cs b ⟨rfl,rfl,rfl⟩ ap ae;exact⟨(aN aw).1,cs',b,aF,by rw[aP];exact ao,by rw[aa];exact ab b ae,by rw[a7,ar,(aN aw).2.2.2];exact aH⟩
 |x bK=>exact cg.mono h bW ae
 |b2 vs=>obtain⟨us,aH,al,aj⟩:=h;exact⟨us,aH,al,fun j x ac=>let ⟨u,hu,an⟩:=aj j x ac;⟨u,hu,an.mono bW ae⟩⟩
 |box cs=>obtain⟨b,arr,t,rfl,a1,al,bl⟩:=h;exact⟨b,arr,t,rfl,by rw[aw b rfl];exact a1,al.mono bW ae,bl⟩
 |ptr i off=>obtain⟨b,rfl,am⟩:=h;obtain⟨aa,_,ab⟩:=an i (by simp[ad.h1]);exact⟨b,rfl,by rw[aa];exact ab b am⟩
 |dX i k off=>
  obtain⟨b,rfl,am⟩:=h;obtain⟨aa,ar,ab⟩:=an i (by simp[ad.h1]);have aw:(s i).aM=true:=by
   cases aw:(s i).aM with
   |true=>rfl
   |false=>rw[jm aw]at am;cases am
  exact⟨b,by rw[(ar aw).2.1],by rw[aa];exact ab b am⟩
 |elem cs=>obtain⟨bT,rfl,cU,HV,ao⟩:=h;refine⟨bT,rfl,cU,bW _ HV,fun j c ac=>?_⟩;obtain⟨u,hu,jp⟩:=ao j c ac;exact⟨u,by rw[World.cell?_of_block (w:=w) (w':=w') (by rw[block_add];exact ae _ HV)];exact hu,jp.mono bW ae⟩
 |own e size xs=>
  obtain⟨us,bq,al,aj,hm,bl⟩:=h;refine⟨us,⟨bq.1,?_⟩,al.mono bW ae,aj,hm,bl⟩;rcases bq.2 with aT|⟨g,cap,cur,rfl,lb,a1,rest⟩
  ·exact .inl aT
  ·exact .inr ⟨g,cap,cur,rfl,lb,by rw[aw g rfl];exact a1,rest⟩
 |mp c bs es=>obtain⟨b,ents,rfl,a1,bl,he⟩:=h;exact⟨b,ents,rfl,by rw[aw b rfl];exact a1,bl,he.mono bW ae⟩
 |alias i=>obtain⟨aH,bq⟩:=h;obtain⟨aa,ab,_⟩:=an i (by simp[ad.h1]);exact⟨by rw[aa,(ab bq).2.2.2];exact aH,(ab bq).1⟩
 |view i aK len wh=>
  obtain⟨bq,hle,aH⟩:=h;obtain⟨aa,ab,ar⟩:=an i (by simp[ad.h1]);obtain⟨aF,aP,a7,b1⟩:=ab bq;refine⟨aF,by rw[a7];exact hle,?_⟩;rcases aH with aH|⟨b,off,cap,aH,ao,hm,am,aY,hw⟩
  ·exact .inl aH
  ·exact .inr ⟨b,off,cap,aH,ao,hm,by rw[aa];exact ar b am,by rw[aP];exact aY,by rw[aa,b1];exact hw⟩
 |cr f caps=>
  obtain⟨us,aH,al,aj⟩:=h;refine⟨us,aH,al,fun j c ac=>?_⟩;obtain⟨u,hu,ao⟩:=aj j c ac;refine⟨u,hu,?_⟩;cases c with
  |inl c=>exact bn.mono ao bW ae
  |inr p=>
   obtain⟨aa,_,ar⟩:=an p.1 (by simp only[ad.h1];exact Ee.2 ⟨_,iq ac,by simp[j_]⟩)
   rw[qm]at ao⊢;split at ao
   ·rename_i ai;rw[aC ai];obtain⟨b,ak,am⟩:=ao;exact⟨b,ak,by rw[aa];exact ar b am⟩
   ·rename_i ai;rw[au ai];exact ao.mono bW ae (fun b am=>by rw[aa];exact ar b am)
 |ds i off=>obtain⟨aa,_,ab⟩:=an i (by simp[ad.h1]);exact wQ.mono h bW ae (fun b am=>by rw[aa];exact ab b am)
 |cf b cs=>obtain⟨arr,t,a1,al,bl⟩:=h;exact⟨arr,t,by rw[aw b rfl];exact a1,al.mono bW ae,bl⟩
 |cT u e size xs=>
  obtain⟨us,bq,al,aj,hm,bl⟩:=h;refine⟨us,⟨bq.1,?_⟩,al.mono bW ae,aj,hm,bl⟩;rcases bq.2 with aT|⟨g,cap,cur,rfl,lb,a1,rest⟩
  ·exact .inl aT
  ·exact .inr ⟨g,cap,cur,rfl,lb,by rw[aw g rfl];exact a1,rest⟩
 |fc b c bs es=>obtain⟨ents,a1,bl,he⟩:=h;exact⟨ents,by rw[aw b rfl];exact a1,bl,he.mono bW ae⟩
 |cond e a aX=>
  obtain⟨aT,h⟩:=h;refine⟨aT,?_⟩;cases e with
  |false=>exact h
  |true=>exact aX h (fun b Bl=>by rw[jm aT]at Bl;cases Bl) (fun i ai=>an i (by simp[ad.h1,ai])) (fun i off d cs b al=>am i off d cs b ⟨rfl,al⟩)
def cV.Ef{w:World}{S:Nat->Prop}{B:Nat->Prop}{s:ag}{tm:Nat->Value}{i off d:Nat}:∀{a:ad} {v:Value},cV w S B s tm a v->a.mC i off d ->
  (s d).aM=true/\∃cs b,(s i).fz=some cs/\cs[off]?=some .any/\a' (s i) (tm i)=some b/\w.cell? ⟨b,off,none⟩=some ((s d).valOf (tm d))
 |.link _ _ _,_,h,⟨rfl,rfl,rfl⟩=>h
 |.cond e a,v,h,⟨he,al⟩=>by subst he;exact cV.Ef (a:=a) h.2 al
def cV.wT{w:World}{S:Nat->Prop}{B:Nat->Prop}{s:ag}{tm:Nat->Value}{j e z:Nat}{xs:List (List af)}{v:Value}(h:cV w S B s tm (.alias j) v)(ap:s j=.own e z xs):v=tm j/\(s j).aM=true:=by obtain⟨aa,ab⟩:=h;rw[ap]at aa;exact⟨aa,ab⟩
def cV.HW{w:World}{S:Nat->Prop}{B:Nat->Prop}{s:ag}{tm:Nat->Value}{j c:Nat}{bs:List Nat}{es:List (az×az)}{v:Value}(h:cV w S B s tm (.alias j) v)(ap:s j=.mp c bs es):v=tm j/\(s j).aM=true:=by obtain⟨aa,ab⟩:=h;rw[ap]at aa;exact⟨aa,ab⟩
def cV.leads{w:World}{S:Nat->Prop}{B:Nat->Prop}{s:ag}{tm:Nat->Value}{d:Nat}{a:ad}{v:Value}
  (h:cV w S B s tm a v)(an:a.h1 d=true):(s d).aM=true:=by
 induction a with
 |ptr i off=>
  obtain⟨b,rfl,am⟩:=h;obtain rfl:i=d:=by simpa[ad.h1]using an
  cases ai:(s i).aM with
  |true=>rfl
  |false=>rw[jm ai]at am;cases am
 |dX i k off=>
  obtain⟨b,rfl,am⟩:=h;obtain rfl:i=d:=by simpa[ad.h1]using an
  cases ai:(s i).aM with
  |true=>rfl
  |false=>rw[jm ai]at am;cases am
 |alias i=>
  obtain rfl:i=d:=by simpa[ad.h1]using an
  exact h.2
 |view i aK len wh=>
  obtain rfl:i=d:=by simpa[ad.h1]using an
  exact h.1
 |cr f caps=>
  obtain⟨us,aH,al,aj⟩:=h;simp only[ad.h1]at an;obtain⟨c,ao,ax⟩:=Ee.1 an;cases c with
  |inl c=>cases ax
  |inr p=>
   obtain rfl:p.1=d:=by simpa[j_]using ax
   obtain⟨j,ac⟩:=lh ao;obtain⟨u,hu,am⟩:=aj j _ ac;have:∃b,a' (s p.1) (tm p.1)=some b:=by
    rw[qm]at am;split at am
    ·obtain⟨b,_,am⟩:=am;exact⟨b,am⟩
    ·obtain⟨_,b,_,_,_,am⟩:=am;exact⟨b,am⟩
   obtain⟨b,am⟩:=this;cases ai:(s p.1).aM with
   |true=>rfl
   |false=>rw[jm ai]at am;cases am
 |ds i off=>
  obtain⟨_,b,_,_,_,am⟩:=h;obtain rfl:i=d:=by simpa[ad.h1]using an
  cases ai:(s i).aM with
  |true=>rfl
  |false=>rw[jm ai]at am;cases am
 |cond e a aX=>simp only[ad.h1,b4]at an;obtain⟨rfl,an⟩:=an;exact aX h.2 an
 |link i off t=>
  obtain⟨aw,cs,b,ap,_⟩:=h;simp only[ad.h1,eO,fB]at an;rcases an with rfl|rfl
  ·exact ad.mB ap
  ·exact aw
 |_=>simp[ad.h1]at an
def cV.gi{w:World}{S:Nat->Prop}{B:Nat->Prop}{s:ag}{tm:Nat->Value}{a:ad}{v:Value}{b:Nat}
  (h:cV w S B s tm a v)(ae:a' a v=some b):B b/\b<w.heap.size:=by
 cases a with
 |box cs=>
  obtain⟨bg,arr,t,rfl,a1,al,bl⟩:=h;obtain rfl:bg=b:=by simpa[a']using ae
  exact⟨bl,(gM.1 a1).1⟩
 |own e size xs=>obtain⟨us,bq,_,_,_,bl⟩:=h;exact⟨bl b ae,(bq.lt b ae).2⟩
 |mp c bs es=>
  obtain⟨bg,ents,rfl,a1,bl,he⟩:=h;obtain rfl:bg=b:=by simpa[a']using ae
  exact⟨bl,(gM.1 a1).1⟩
 |cf bg cs=>
  obtain⟨arr,t,a1,al,bl⟩:=h;obtain rfl:bg=b:=by simpa[a']using ae
  exact⟨bl,(gM.1 a1).1⟩
 |cT u e size xs=>obtain⟨us,bq,_,_,_,bl⟩:=h;exact⟨bl b ae,(bq.lt b ae).2⟩
 |fc bg c bs es=>
  obtain⟨ents,a1,bl,he⟩:=h;obtain rfl:bg=b:=by simpa[a']using ae
  exact⟨bl,(gM.1 a1).1⟩
 |_=>simp[a']at ae
def RH{s:ag}{d i:Nat}{v:ad}{u:Value}{b:Nat}(h:i≠d)(ae:a' (put s d v i) u=some b):a' (s i) u=some b:=by
 rcases ou (s:=s) (v:=v) h with bE|⟨_,_,bE⟩
 ·rw[bE]at ae;exact ae
 ·rw[bE]at ae;cases ae
def Rel.put{S0:Env}{w0 w w':World}{n:Nat}{s:ag}{a:Act}{d:Nat}{r:ad}{v:Value}
  (ah:Rel S0 w0 n s a w)(ax:S0.m<=d/\d<n)(aB:w.grownBy w' none)(ka:∀j,r.refs j=true->(s j).aM=true)
  (an:cV w' (bR S0 w0.heap.size w' s (aJ a)) (lf S0 w0.heap.size) s (aJ a) r v)
  (ay:∀b,a' r v=some b->w.heap.size<=b)
  (ZL:∀b,a' r v=some b->cV w' (fun bg=>bR S0 w0.heap.size w' s (aJ a) bg/\bg≠b) (lf S0 w0.heap.size) s (aJ a) r v):Rel S0 w0 n (put s d r) (a.put (some d) v) w':=by
 have nv:d<a.tmps.size:=by rw[ah.size];exact ax.2
 have g9:=yK a d v nv;have nw:∀i,i≠d->aJ (a.put (some d) v) i=aJ a i:=fun i ai=>by rw[g9,au ai]
 have wU:aJ (a.put (some d) v) d=v:=by rw[g9,aC rfl]
 have cb:∀i b,a' (Ab.put s d r i) (aJ (a.put (some d) v) i)=some b->(i=d/\a' r v=some b)\/(i≠d/\a' (s i) (aJ a i)=some b):=by
  intro i b ae;by_cases ai:i=d
  ·subst ai;rw[wU]at ae;cases jp:r.refs i with
   |true=>rw[LY jp]at ae;cases ae
   |false=>rw[jo jp]at ae;exact .inl ⟨rfl,ae⟩
  ·rw[nw i ai]at ae;exact .inr ⟨ai,RH ai ae⟩
 have hold:∀b,bR S0 w0.heap.size w s (aJ a) b->w'.heap[b]?=w.heap[b]?:=fun b ae=>aB.block b ae.2.1 (by simp);have da:∀b,bR S0 w0.heap.size w s (aJ a) b->bR S0 w0.heap.size w' (Ab.put s d r) (aJ (a.put (some d) v)) b:=by
  intro b ⟨aa,ab,ar⟩;refine⟨aa,u0 ab aB.size,fun i ai=>?_⟩;rcases cb i b ai with⟨_,h⟩|⟨_,h⟩
  ·have:=ay b h;omega
  ·exact ar i h
 have pi:∀i,i≠d->((s i).aM=true->(Ab.put s d r i).aM=true/\(Ab.put s d r i).size=(s i).size/\(Ab.put s d r i).len=(s i).len/\(Ab.put s d r i).valOf=(s i).valOf)/\(∀b,a' (s i) (aJ a i)=some b->a' (Ab.put s d r i) (aJ a i)=some b):=by
  intro i ai;refine⟨fun aw=>by rw[mD ai aw];exact⟨aw,rfl,rfl,rfl⟩,fun b ae=>?_⟩;have aw:(s i).aM=true:=by
   cases aw:(s i).aM with
   |true=>rfl
   |false=>rw[jm aw]at ae;cases ae
  rw[mD ai aw];exact ae
 refine⟨?_,?_,?_,ah.lt,?_,?_,?_,?_,fun j ac=>by rw[nw j (by omega)];exact ah.lU j ac⟩
 ·exact ah.defers
 ·simp[Act.put,ah.size]
 ·exact ah.below.grown aB (by simp)
 ·intro i;by_cases ai:i=d
  ·subst ai;rw[wU];cases jp:r.refs i with
   |true=>rw[LY jp];trivial
   |false=>
    rw[jo jp];have hrefs:∀j,r.h1 j=true->aJ (a.put (some i) v) j=aJ a j/\((s j).aM=true->(Ab.put s i r j).aM=true/\(Ab.put s i r j).size=(s j).size/\(Ab.put s i r j).len=(s j).len/\(Ab.put s i r j).valOf=(s j).valOf)/\(∀b,a' (s j) (aJ a j)=some b->a' (Ab.put s i r j) (aJ a j)=some b):=by
     intro j ac;have fA:j≠i:=by rintro rfl;rw[ad.ot ac]at jp;cases jp
     exact⟨nw j fA,pi j fA⟩
    have fk:∀bB off bt cs b,r.mC bB off bt->(s bB).fz=some cs->a' (s bB) (aJ a bB)=some b->(∃cs',(Ab.put s i r bB).fz=some cs'/\cs'[off]?=cs[off]?)/\w'.cell? ⟨b,off,none⟩=w'.cell? ⟨b,off,none⟩:=by
     intro bB off bt cs b al cO _;have fA:bB≠i:=by rintro rfl;rw[(ad.nu al).1]at jp;cases jp
     exact⟨⟨cs,by rw[mD fA (ad.mB cO)];exact cO,rfl⟩,rfl⟩
    cases h2:a' r v with
    |none=>
     refine an.mono (fun b ⟨aa,ab,ar⟩=>⟨aa,ab,fun j ac=>?_⟩) (fun _ _=>rfl) (fun _ _=>rfl) hrefs fk;rcases cb j b ac with⟨_,h⟩|⟨_,h⟩
     ·rw[h2]at h;cases h
     ·exact ar j h
    |some L0=>
     refine(ZL L0 h2).mono (fun b ⟨⟨aa,ab,ar⟩,aN⟩=>⟨aa,ab,fun j ac=>?_⟩) (fun _ _=>rfl) (fun _ _=>rfl) hrefs fk;rcases cb j b ac with⟨_,h⟩|⟨_,h⟩
     ·rw[h2]at h;exact aN (by injection h with h;exact h.symm)
     ·exact ar j h
  ·rw[nw i ai];rcases ou (s:=s) (v:=r) ai with ak|⟨_,_,ak⟩
   ·rw[ak];refine(ah.rep i).mono da hold (fun b ae=>aB.block b ((ah.rep i).gi ae).2 (by simp)) (fun j ac=>?_) (fun bB off bt cs b al cO cm=>?_);rotate_left
    ·have hid:bB≠d:=by
      rintro rfl;have aw:(s bB).aM=true:=ad.mB cO;have am:=Ed (s:=s) (v:=r) ai aw (ad.nu al).1;rw[am]at ak;rw[<-ak]at al;exact al.elim
     exact⟨⟨cs,by rw[mD hid (ad.mB cO)];exact cO,rfl⟩,World.cell?_of_block (aB.block b ((ah.rep bB).gi cm).2 (by simp))⟩
    by_cases j':j=d
    ·subst j';have aw:=(ah.rep i).leads ac;rcases ou (s:=s) (v:=r) ai with hv|⟨_,_,hv⟩
     ·-- it zoi not zoj,zok it leads to RI owner d: zol be
      exfalso;have:Ab.put s j r i=.dead:=by unfold Ab.put;rw[aw];simp[ai,ad.ot ac]
      rw[hv]at this;rw[this]at ac;simp[ad.h1]at ac
     ·rw[ak]at hv;rw[hv]at ac;simp[ad.h1]at ac
    ·exact⟨nw j j',pi j j'⟩
   ·rw[ak];trivial
 ·intro i j b lj Eg;rcases cb i b lj with⟨ai,aa⟩|⟨ai,aa⟩<;>rcases cb j b Eg with⟨ac,ab⟩|⟨ac,ab⟩
  ·rw[ai,ac]
  ·have:=ay b aa;have:=((ah.rep j).gi ab).2;omega
  ·have:=ay b ab;have:=((ah.rep i).gi aa).2;omega
  ·exact ah.inj i j b aa ab
 ·intro i ai;have hid:i≠d:=by omega
  rcases ou (s:=s) (v:=r) hid with ak|⟨_,_,ak⟩
  ·rw[ak];exact ah.out i ai
  ·rw[ak];rfl
 ·exact fe ah.wf ka
end Go.Ab
namespace Go.Ab
open Go Go.RowKit Go.IntKind
variable [bf]
inductive bZ where
 |one
 |agg (n:Nat)
 |bad
def tk(P:Program)(t:TypeId):bZ:=
 match P.underlying t,P.info? t with
 |some (.struct _),some i=>.agg i.size
 |some (.array _ _),some i=>.agg i.size
 |some (.struct _),none=>.bad
 |some (.array _ _),none=>.bad
 |some _,_=>.one
 |none,_=>.bad
def fieldAt(P:Program)(t:TypeId)(f:Nat):Option (Nat×bZ):=
 match P.underlying t with
 |some (.struct dN)=>match dN[f]? with
  |some fd=>match P.info? fd.type with
   |some i=>if i.size=0 then none else some (fd.offset,tk P fd.type)
   |none=>none
  |none=>none
 |_=>none
def fC(P:Program)(t:TypeId):Option (TypeId×Nat):=
 match P.underlying t with
 |some (.slice e)=>match P.info? e with
  |some i=>if i.size=0 then none else some (e,i.size)
  |none=>none
 |_=>none
def hx(P:Program)(t:TypeId):Bool:=
 match P.underlying t with
 |some .string=>true
 |_=>false
def tl:Value->af
 |.bool b=>.bool b
 |.int k n=>.int k n
 |.string s=>.str s.data.toList
 |.slice none 0 0=>.nil
 |v=>.atom v
def tn:Value->Bool
 |.string s=>decide (s.data.toList.length<=maxLen)
 |.agg _=>false
 |.tuple _=>false
 |_=>true
def tp(v:Value):ad:=
 match v with
 |.agg us=>if us.toList.all tn then .x (.agg (us.toList.map tl))else .dead
 |.tuple _=>.dead
 |v=>if tn v then .x (.one (tl v))else .dead
def Eh{w:World}{S:Nat->Prop}{v:Value}(h:tn v=true):bn w S (tl v) v:=by
 unfold tl;split
 ·exact .bool _
 ·exact .int _ _
 ·rename_i s;have al:s.data.toList.length<=maxLen:=wV h;have e:s=⟨s.data.toList.toArray⟩:=by cases s;simp
  have:=bn.str (w:=w) (S:=S) s.data.toList al;rw[<-e]at this;exact this
 ·exact .nil
 ·refine .atom _ ?_;revert h;cases v<;>simp[tn,Value.oneCell']
def look(s:ag):Operand->ad
 |.tmp t=>match s t with
  |.box _=>.ptr t 0
  |.own _ _ _=>.alias t
  |.mp _ _ _=>.alias t
  |.cf _ _=>.dead
  |.cT _ _ _ _=>.dead
  |.fc _ _ _ _=>.dead
  |a=>a
 |.const v=>tp v
 |.global g=>.x (.one (.atom (.pointer (some ⟨g,0,none⟩))))
 |.func f=>.x (.one (.atom (.func (.func f) #[] #[])))
def af.isAny:af->Bool
 |.any=>true
 |_=>false
def ad.told:ad->Bool
 |.box cs=>!cs.any af.isAny
 |.cf _ cs=>!cs.any af.isAny
 |_=>true
def i_(cs:List af)(off m:Nat):Bool:=((cs.drop off).take m).any af.isAny
def RJ{cs:List af}{off m j:Nat}(h:i_ cs off m=false)(ac:cs[j]?=some .any):j<off\/off+m<=j:=by
 rcases kJ j off with aa|aa
 ·exact .inl aa
 ·rcases kJ j (off+m)with ab|ab
  ·exfalso;unfold i_ at h;rw[Bm]at h;refine h .any (iq (i:=j-off) ?_) rfl;rw[jl,aC (by omega),h3,show off+(j-off)=j by omega];exact ac
  ·exact .inr ab
def b0(i off:Nat):Nat:=1000000+1000*i+off
abbrev bF:Nat:=999999
def ad.lk:ad->Nat->Nat->Nat->Bool
 |.link bB o _,i,off,m=>bB==i&&decide (off<=o)&&decide (o<off+m)
 |.cond _ v,i,off,m=>v.lk i off m
 |_,_,_,_=>false
def ad.RL{i off m:Nat}:∀{a:ad},a.lk i off m=true->a.aM=false
 |.link _ _ _,_=>rfl
 |.cond _ _,_=>rfl
def ad.Bn{i off m o d:Nat}:∀{a:ad},a.mC i o d->off<=o->o<off+m->a.lk i off m=true
 |.link _ _ _,⟨rfl,rfl,rfl⟩,aa,ab=>by simp[ad.lk,aa,ab]
 |.cond _ v,⟨_,al⟩,aa,ab=>ad.Bn (a:=v) al aa ab
def unlink(s:ag)(i off m:Nat):ag:=fun j=>match (s j).lk i off m with
 |true=>.dead
 |false=>s j
def jq{s:ag}{i off m j:Nat}(h:(s j).aM=true):unlink s i off m j=s j:=by
 unfold unlink;cases al:(s j).lk i off m with
 |true=>rw[ad.RL al]at h;cases h
 |false=>rfl
def hi(s:ag)(i off m j:Nat):unlink s i off m j=s j\/unlink s i off m j=.dead:=by
 unfold unlink;cases (s j).lk i off m with
 |true=>exact .inr rfl
 |false=>exact .inl rfl
def strip:ad->Prop×ad
 |.cond e a=>(e=true,a)
 |.x (.one (.ref cs))=>(True,.elem cs)
 |a=>(True,a)
def ZM{w:World}{S B:Nat->Prop}{s:ag}{tm:Nat->Value}{cs:List af}{v:Value}(h:bn w S (.ref cs) v):cV w S B s tm (.elem cs) v:=by
 cases h with
 |ref bT _ U ap cU d7 an=>exact⟨bT,rfl,cU,ap,fun j c ac=>⟨U j,d7 j c ac,an j c ac⟩⟩
section
variable {P:Program}{S0:Env}{w0 w:World}{n:Nat}{s:ag}{a:Act}
abbrev ll(S0:Env)(w0:World)(s:ag)(a:Act)(w:World)(r:ad)(v:Value):Prop:=
 cV w (bR S0 w0.heap.size w s (aJ a)) (lf S0 w0.heap.size) s (aJ a) r v
def Rel.look(ah:Rel S0 w0 n s a w)(x:Operand):ll S0 w0 s a w (look s x) (a.eval x):=by
 cases x with
 |tmp t=>
  have h:=ah.rep t;have he:a.eval (.tmp t)=aJ a t:=rfl;rw[he];unfold Ab.look;dsimp only;split
  ·rename_i cs ap;rw[ap]at h;obtain⟨b,arr,ty,aH,_⟩:=h;exact⟨b,aH,by rw[ap,aH];rfl⟩
  ·rename_i e size xs ap;exact⟨by rw[ap];rfl,by rw[ap];rfl⟩
  ·rename_i c bs es ap;exact⟨by rw[ap];rfl,by rw[ap];rfl⟩
  ·trivial
  ·trivial
  ·trivial
  ·exact h
 |const v=>
  show ll S0 w0 s a w (tp v) v;unfold tp;split
  ·rename_i us;split
   ·rename_i fM;refine⟨us,rfl,by simp,fun j c ac=>?_⟩;rw[dO]at ac;cases hu:us.toList[j]? with
    |none=>rw[hu]at ac;cases ac
    |some u=>
     rw[hu]at ac;injection ac with ac
     subst ac;exact⟨u,rfl,Eh (fm.1 fM u (iq hu))⟩
   ·trivial
  ·trivial
  ·rename_i v _ _;split
   ·rename_i h;exact Eh h
   ·trivial
 |global g=>exact bn.atom _ rfl
 |func f=>exact bn.atom _ rfl
def ZN{S:Nat->Prop}{B:Nat->Prop}{tm:Nat->Value}{r:ad}{v:Value}(h:cV w S B s tm r v)(ak:(strip r).1):cV w S B s tm (strip r).2 v:=by
 unfold strip at ak⊢;split at ak
 ·have he:=ak;subst he;exact h.2
 ·exact ZM h
 ·exact h
def RM(x:Operand):(look s x).aM=false:=by
 cases x with
 |tmp t=>
  show (look s (.tmp t)).aM=false;simp only[look];split
  ·rfl
  ·rfl
  ·rfl
  ·rfl
  ·rfl
  ·rfl
  ·rename_i aa ab ar aN bD b9;cases ap:s t<;>first|rfl|(exact absurd ap (aa _))|(exact absurd ap (ab _ _ _))|(exact absurd ap (ar _ _ _))|(exact absurd ap (aN _ _))|(exact absurd ap (bD _ _ _ _))|(exact absurd ap (b9 _ _ _ _))
 |const v=>
  show (tp v).aM=false;unfold tp;split
  ·split<;>rfl
  ·rfl
  ·split<;>rfl
 |_=>rfl
def L1{r:ad}{j:Nat}(h:(strip r).2.refs j=true):r.refs j=true:=by
 unfold strip at h;split at h
 ·exact h
 ·cases h
 ·exact h
def ZO{r:ad}{S:Nat->Prop}{B:Nat->Prop}{tm:Nat->Value}{v:Value}(h:cV w S B s tm r v)(an:r.aM=false):(strip r).2.aM=false:=by
 unfold strip;split
 ·exact h.1
 ·rfl
 ·exact an
def aG(s:ag)(x:Operand):Prop×ad:=strip (look s x)
def Rel.aG(ah:Rel S0 w0 n s a w)(x:Operand)(ak:(aG s x).1):ll S0 w0 s a w (aG s x).2 (a.eval x):=
 ZN (ah.look x) ak
def Rel.RN(ah:Rel S0 w0 n s a w)(x:Operand):(Ab.aG s x).2.aM=false:=
 ZO (ah.look x) (RM x)
def L2{xs:List (List af)}{size:Nat}(aj:∀x∈xs,x.length=size){k j:Nat}{c:af}(h:(xs.getD k [])[j]?=some c):xs.flatten[k*size+j]?=some c:=by
 induction xs generalizing k with
 |nil=>simp at h
 |cons x xs aX=>
  have al:=aj x (by simp);cases k with
  |zero=>simp only[List.getD_cons_zero]at h;simp only[qn,Nat.zero_mul,f_];rw[jr (by have:=(ep.1 h).1;omega)];exact h
  |succ k=>simp only[List.getD_cons_succ]at h;have:=aX (fun x eP=>aj x (by simp[eP])) h;simp only[qn];rw[kb (by rw[al,j9];omega)];rw[<-this];congr 1;rw[al,j9];omega
def mem(s:ag):ad->Option (List af)
 |.ptr i off=>match s i with
  |.box cs=>some (cs.drop off)
  |.cf _ cs=>some (cs.drop off)
  |_=>none
 |.dX i k off=>match s i with
  |.own _ _ xs=>some ((xs.getD k []).drop off)
  |_=>none
 |.elem cs=>some cs
 |_=>none
def Ei(a:Addr)(i j:Nat):(a.add i).add j=a.add (i+j):=by unfold Addr.add;by_cases ai:i=0<;>by_cases ac:j=0<;>simp[ai,ac,rG]
def ln(g o j:Nat):(⟨g,o,none⟩:Addr).add j=⟨g,o+j,none⟩:=by unfold Addr.add;split<;>simp_all
def Rel.mem(ah:Rel S0 w0 n s a w){r:ad}{v:Value}{cs:List af}(an:ll S0 w0 s a w r v)(hm:mem s r=some cs) :
  ∃bT:Addr,v=.pointer (some bT)/\bT.spot=none/\∀(j:Nat) (c:af),cs[j]?=some c->∃u,w.cell? (bT.add j)=some u/\bn w (bR S0 w0.heap.size w s (aJ a)) c u:=by
 cases r with
 |ptr i off=>
  obtain⟨b,rfl,am⟩:=an;refine⟨_,rfl,rfl,fun j c ac=>?_⟩;rw[ln];have ai:=ah.rep i;simp only[Ab.mem]at hm;split at hm
  ·rename_i RK ap;rw[ap]at ai am;obtain⟨bg,arr,t,aH,a1,al,_⟩:=ai;rw[aH]at am;obtain rfl:bg=b:=by simpa[a']using am
   injection hm with hm;subst hm
   rw[h3]at ac;obtain⟨u,hu,bU⟩:=al.2 _ _ ac;exact⟨u,by rw[cell_of_row w bg (off+j) arr t (0,0) a1];simpa using hu,bU⟩
  ·rename_i bg RK ap;rw[ap]at ai am;obtain⟨arr,t,a1,al,_⟩:=ai;obtain rfl:bg=b:=by simpa[a']using am
   injection hm with hm;subst hm
   rw[h3]at ac;obtain⟨u,hu,bU⟩:=al.2 _ _ ac;exact⟨u,by rw[cell_of_row w bg (off+j) arr t (0,0) a1];simpa using hu,bU⟩
  ·cases hm
 |dX i k off=>
  obtain⟨b,rfl,am⟩:=an;refine⟨_,rfl,rfl,fun j c ac=>?_⟩;rw[ln];have ai:=ah.rep i;simp only[Ab.mem]at hm;split at hm
  ·rename_i e size xs ap;rw[ap]at ai am;rw[ap];obtain⟨us,bq,al,aj,_⟩:=ai;injection hm with hm
   subst hm;rw[h3]at ac;obtain⟨u,hu,bU⟩:=al.2 _ _ (L2 aj ac);have ao:=bq.cells (g:=b) am _ _ hu;rw[ln]at ao;refine⟨u,?_,bU⟩;rw[<-ao];simp only[ad.size,f_,rG]
  ·cases hm
 |elem RK=>
  obtain⟨bT,rfl,cU,bW,ao⟩:=an;simp only[Ab.mem]at hm;injection hm with hm;subst hm
  exact⟨bT,rfl,cU,ao⟩
 |_=>simp[Ab.mem]at hm
end
end Go.Ab
namespace Go.Ab
open Go Go.RowKit Go.IntKind
inductive fo where
 |b|i|s
 deriving DecidableEq
def pj(P:Program):Nat->TypeId->Option (List fo)
 |0,_=>none
 |d+1,t=>
  match P.underlying t with
  |some .bool=>some [.b]
  |some (.int _)=>some [.i]
  |some .string=>some [.s]
  |some (.struct dN)=>if P.stoodInHeld t then none else
   dN.toList.foldl (init:=some []) fun acc f=>match acc,pj P d f.type with
    |some l,some aU=>if f.name= "_" \/f.offset≠l.length\/(P.info? f.type).map (·.size)≠some aU.length\/aU.length=0 then none else some (l++aU)
    |_,_=>none
  |_=>none
def hJ:List af->List af->Bool
 |[],[]=>true
 |.bool a::xs,.bool b::aQ=>a==b&&hJ xs aQ
 |.int _ a::xs,.int _ b::aQ=>a==b&&hJ xs aQ
 |.str a::xs,.str b::aQ=>a==b&&hJ xs aQ
 |_,_=>false
def hj:List fo->List af->List af->Prop
 |[],[],[]=>True
 |.b::aU,.bool _::xs,.bool _::aQ=>hj aU xs aQ
 |.i::aU,.int k _::xs,.int bu _::aQ=>k=bu/\hj aU xs aQ
 |.s::aU,.str _::xs,.str _::aQ=>hj aU xs aQ
 |_,_,_=>False
def pk(P:Program)(t:TypeId):Option (List fo):=
 match P.eqGuardType P.depth t,P.underlying t,pj P 100 t with
 |false,some (.struct _),some (k::aU)=>some (k::aU)
 |_,_,_=>none
inductive eQ where
 |s
 |i (k:IntKind)
 |b
 |st (aU:List fo)
def Ej(P:Program)(t:TypeId):Bool:=match P.underlying t with
 |some .string=>true
 |some (.int _)=>true
 |some .bool=>true
 |_=>false
def yL(P:Program)(k:TypeId):Option eQ:=match P.underlying k with
 |some .string=>some .s
 |some (.int k)=>some (.i k)
 |some .bool=>some .b
 |some (.struct dN)=>match pk P k,dN.toList.all fun f=>Ej P f.type with
  |some aU,true=>some (.st aU)
  |_,_=>none
 |_=>none
def mE(P:Program)(t:TypeId):Option (eQ×TypeId):=
 match P.underlying t with
 |some (.map k e)=>match yL P k with
  |some bv=>some (bv,e)
  |none=>none
 |_=>none
def hK:List fo->List af->List af->Bool
 |[],[],[]=>true
 |.b::aU,.bool _::xs,.bool _::aQ=>hK aU xs aQ
 |.i::aU,.int k _::xs,.int bu _::aQ=>k==bu&&hK aU xs aQ
 |.s::aU,.str _::xs,.str _::aQ=>hK aU xs aQ
 |_,_,_=>false
def rK:eQ->az->az->Option Bool
 |.s,.one (.str a),.one (.str b)=>some (a==b)
 |.i _,.one (.int k a),.one (.int bu b)=>if k=bu then some (a==b)else none
 |.b,.one (.bool a),.one (.bool b)=>some (a==b)
 |.st aU,.agg xs,.agg aQ=>if hK aU xs aQ then some (hJ xs aQ)else none
 |_,_,_=>none
def fU:eQ->az->Bool
 |.s,.one (.str _)=>true
 |.i q,.one (.int k _)=>decide (k=q)
 |.b,.one (.bool _)=>true
 |.st aU,.agg xs=>hK aU xs xs
 |_,_=>false
def tq(a:Bool)(cs:List af):az:=match a,cs with
 |false,[c]=>.one c
 |_,cs=>.agg cs
def gj(fi fj:Bool)(aU vs:List (List af)):List (az×az):=(aU.zip vs).map fun x=>(tq fi x.1,tq fj x.2)
def er(bv:eQ)(k:az):List (az×az)->Nat->Option (Option Nat)
 |[],_=>some none
 |e::r,i=>match rK bv k e.1 with
  |some true=>some (some i)
  |some false=>er bv k r (i+1)
  |none=>none
def gZ(c:Nat)(bs:List Nat)(es:List (az×az))(k v:az):Option Nat->Nat×List Nat×List (az×az)
 |some i=>(c,bs,es.set i (k,v))
 |none=>(c+1,bs++[c],es++[(k,v)])
def ea(P:Program)(t:TypeId):Option az:=
 match P.info? t with
 |some i=>match i.zero with
  |some (.agg us)=>if us.toList.all tn then some (.agg (us.toList.map tl))else none
  |some v=>if tn v then some (.one (tl v))else none
  |none=>none
 |none=>none
end Go.Ab
namespace Go.Ab
open Go Go.RowKit Go.IntKind
variable [bf]
def bitsOf(op:BinOp)(k:IntKind)(x y:Int):Int:=
 let a:=BitVec.ofInt k.bits x
 let b:=BitVec.ofInt k.bits y
 match op with
 |.and=>k.wrap (a &&& b).toNat
 |.or=>k.wrap (a |||b).toNat
 |.xor=>k.wrap (a ^^^ b).toNat
 |_=>k.wrap (a &&& ~~~b).toNat
def eB(a b:List UInt8):Bool:=Op.bytesLess a b
def yM(op:BinOp)(x y:af):Prop×af:=
 match x,y with
 |.int k a,.int bu b=>
  match op with
  |.shl=>(0<=b,.int k (k.wrap (a*2^(min b.toNat k.bits))))
  |.shr=>(0<=b,.int k (a.fdiv (2^(min b.toNat k.bits))))
  |.add=>(k=bu,.int k (k.wrap (a+b)))
  |.sub=>(k=bu,.int k (k.wrap (a-b)))
  |.mul=>(k=bu,.int k (k.wrap (a*b)))
  |.quo=>(k=bu/\b≠0,.int k (k.wrap (a.tdiv b)))
  |.rem=>(k=bu/\b≠0,.int k (a.tmod b))
  |.and=>(k=bu,.int k (bitsOf .and k a b))
  |.or=>(k=bu,.int k (bitsOf .or k a b))
  |.xor=>(k=bu,.int k (bitsOf .xor k a b))
  |.andNot=>(k=bu,.int k (bitsOf .andNot k a b))
  |.eql=>(k=bu,.bool (a==b))
  |.neq=>(k=bu,.bool (a != b))
  |.lss=>(k=bu,.bool (decide (a<b)))
  |.leq=>(k=bu,.bool (decide (a<=b)))
  |.gtr=>(k=bu,.bool (decide (b<a)))
  |.geq=>(k=bu,.bool (decide (b<=a)))
 |.str a,.str b=>
  match op with
  |.add=>(a.length+b.length<=maxLen,.str (a++b))
  |.eql=>(True,.bool (a==b))
  |.neq=>(True,.bool (!(a==b)))
  |.lss=>(True,.bool (eB a b))
  |.leq=>(True,.bool (eB a b ||a==b))
  |.gtr=>(True,.bool (!(eB a b ||a==b)))
  |.geq=>(True,.bool (!eB a b))
  |_=>(False,.nil)
 |_,_=>(False,.nil)
def yN:af->Option Bool
 |.nil=>some true
 |.empty _=>some false
 |.list _ (_::_)=>some false
 |_=>none
def h4(P:Program)(t:TypeId):Bool:=
 match P.underlying t with
 |some (.slice _)=>true
 |_=>false
def Ek(P:Program)(op:BinOp)(t:TypeId)(p q:Prop)(b:Option Bool):Prop×ad:=
 match op,b with
 |.eql,some b=>(p/\q/\h4 P t=true,.x (.one (.bool b)))
 |.neq,some b=>(p/\q/\h4 P t=true,.x (.one (.bool (!b))))
 |_,_=>(False,.dead)
def f'(P:Program)(op:BinOp)(t:TypeId)(x y:Prop×ad):Prop×ad:=
 match x,y with
 |(p,.x (.one (.bool a))),(q,.x (.one (.bool b)))=>
  match op with
  |.eql=>(p/\q/\P.underlying t=some .bool,.x (.one (.bool (a==b))))
  |.neq=>(p/\q/\P.underlying t=some .bool,.x (.one (.bool (a != b))))
  |_=>(False,.dead)
 |(p,.x (.one a)),(q,.x (.one .nil))=>Ek P op t p q (yN a)
 |(p,.x (.one a)),(q,.x (.one b))=>(p/\q/\(yM op a b).1,.x (.one (yM op a b).2))
 |(p,.x (.agg xs)),(q,.x (.agg aQ))=>
  match pk P t with
  |some aU=>match op with
   |.eql=>(p/\q/\hj aU xs aQ,.x (.one (.bool (hJ xs aQ))))
   |.neq=>(p/\q/\hj aU xs aQ,.x (.one (.bool (!hJ xs aQ))))
   |_=>(False,.dead)
  |none=>(False,.dead)
 |_,_=>(False,.dead)
def El(e:Bool):az->az->az
 |.one (.bool a),.one (.bool b)=>.one (.bool (bif e then a else b))
 |x,y=>bif e then x else y
def Bo(c a b:Prop×ad):Prop×ad:=
 match c,a,b with
 |(Bp,.x (.one (.bool e))),(pa,.x Bq),(ZP,.x HX)=>(Bp/\(e=true->pa)/\(e=false->ZP),.x (El e Bq HX))
 |_,_,_=>(False,.dead)
def Br(k:bZ)(p:Prop)(cs:List af):Prop×ad:=
 match k with
 |.agg n=>(p/\n<=cs.length,.x (.agg (cs.take n)))
 |.one=>match cs with
  |c::_=>(p,.x (.one c))
  |[]=>(False,.dead)
 |.bad=>(False,.dead)
def tr(k:bZ)(z:Option az)(p:Prop)(cs:List af):Prop×ad:=
 match k,cs with
 |.one,[]=>match z with
  |some x=>(False,.x x)
  |none=>(False,.dead)
 |k,cs=>Br k p cs
def js(k:bZ)(z:Option az)(p:Prop)(m:Option (List af)):Prop×ad:=
 match m with
 |some cs=>tr k z p cs
 |none=>(False,.dead)
def L3:ad->Bool
 |.ptr _ _=>true
 |.dX _ _ _=>true
 |.elem _=>true
 |_=>false
def rL(P:Program)(t:TypeId)(f:Nat)(x:Prop×ad):Prop×ad:=
 match fieldAt P t f,x with
 |some (o,_),(p,.ptr i off)=>(p,.ptr i (off+o))
 |some (o,_),(p,.dX i k off)=>(p,.dX i k (off+o))
 |some (o,_),(p,.elem cs)=>(p,.elem (cs.drop o))
 |_,_=>(False,.dead)
def wW(P:Program)(t:TypeId)(f:Nat)(x:Prop×ad):Prop×ad:=
 match fieldAt P t f,x with
 |some (o,k),(p,.x (.agg cs))=>Br k p (cs.drop o)
 |_,_=>(False,.dead)
def Bs(P:Program)(t:TypeId):Option (Nat×Nat):=
 match P.underlying t with
 |some (.array len e)=>match P.info? e with
  |some i=>some (len,i.size)
  |none=>none
 |_=>none
def yO(P:Program)(t:TypeId)(x i:Prop×ad):Prop×ad:=
 match Bs P t,x,i with
 |some (len,size),(p,.ptr j off),(q,.x (.one (.int _ n)))=>(p/\q/\0<=n/\n<len,.ptr j (off+n.toNat*size))
 |some (len,size),(p,.elem cs),(q,.x (.one (.int _ n)))=>(p/\q/\0<=n/\n<len,.elem (cs.drop (n.toNat*size)))
 |_,_,_=>(False,.dead)
def kc(P:Program)(s:ag)(t:TypeId)(x i:Prop×ad):Prop×ad:=
 match fC P t,x,i with
 |some (_,size),(p,.x (.one (.list z xs))),(q,.x (.one (.int _ n)))=>(p/\q/\z=size/\0<=n/\n<xs.length,.elem (xs.getD n.toNat []))
 |some (_,size),(p,.alias j),(q,.x (.one (.int _ n)))=>match s j with
  |.own _ z xs=>(p/\q/\z=size/\0<=n/\n<xs.length,.dX j n.toNat 0)
  |_=>(False,.dead)
 |some (_,size),(p,.view j aK len _),(q,.x (.one (.int _ n)))=>(p/\q/\(s j).size=size/\0<=n/\n<len,.dX j (aK+n.toNat) 0)
 |_,_,_=>yO P t x i
def Bt(P:Program)(t:TypeId)(x i:Prop×ad):Prop×ad:=
 match x,i with
 |(p,.x (.one (.str l))),(q,.x (.one (.int _ n)))=>(p/\q/\hx P t=true/\0<=n/\n<l.length,.x (.one (.int .u8 (l.getD n.toNat 0).toNat)))
 |_,_=>(False,.dead)
def wX(x:Prop×ad)(i:Nat):Prop×ad:=
 match x with
 |(p,.b2 vs)=>match vs[i]? with
  |some v=>(p,.x v)
  |none=>(False,.dead)
 |_=>(False,.dead)
def lo(P:Program)(s:ag)(t:TypeId)(x:Prop×ad):Prop×ad:=
 match x with
 |(p,.x (.one (.str l)))=>(p/\hx P t=true,.x (.one (.int .i64 l.length)))
 |(p,.x (.one .nil))=>(p/\(fC P t).isSome=true,.x (.one (.int .i64 0)))
 |(p,.x (.one (.empty _)))=>(p/\(fC P t).isSome=true,.x (.one (.int .i64 0)))
 |(p,.x (.one (.list _ xs)))=>(p/\(fC P t).isSome=true,.x (.one (.int .i64 xs.length)))
 |(p,.alias i)=>match s i with
  |.own _ _ xs=>(p/\(fC P t).isSome=true,.x (.one (.int .i64 xs.length)))
  |.mp _ _ es=>(p/\(mE P t).isSome=true,.x (.one (.int .i64 es.length)))
  |_=>(False,.dead)
 |(p,.view _ _ len _)=>(p/\(fC P t).isSome=true,.x (.one (.int .i64 len)))
 |_=>(False,.dead)
def Em(P:Program)(t:TypeId)(x:Prop×ad):Prop×ad:=
 match x with
 |(p,.x (.one .nil))=>(p/\(fC P t).isSome=true,.x (.one (.int .i64 0)))
 |_=>(False,.dead)
def rM(es:List (az×az))(z:az)(ok:Bool):Option Nat->ad
 |some j=>if ok then .b2 [((es[j]?).getD (z,z)).2,.one (.bool true)]else .x ((es[j]?).getD (z,z)).2
 |none=>if ok then .b2 [z,.one (.bool false)]else .x z
def rN(P:Program)(s:ag)(t:TypeId)(x k:Prop×ad)(ok:Bool):Prop×ad:=
 match mE P t,x,k with
 |some (bv,e),(p,.alias i),(q,.x bX)=>match s i with
  |.mp _ _ es=>match er bv bX es 0,ea P e with
   |some r,some z=>(p/\q/\fU bv bX=true,rM es z ok r)
   |_,_=>(False,.dead)
  |_=>(False,.dead)
 |some (bv,e),(p,.x (.one (.g8 fi fj aU vs))),(q,.x bX)=>match er bv bX (gj fi fj aU vs) 0,ea P e with
  |some r,some z=>(p/\q/\fU bv bX=true,rM (gj fi fj aU vs) z ok r)
  |_,_=>(False,.dead)
 |_,_,_=>(False,.dead)
def Bu(x y:Prop×ad):Prop×ad:=
 match x,y with
 |(p,.x (.one (.int k a))),(q,.x (.one (.int _ b)))=>(p/\q,.x (.one (.int k (max a b))))
 |_,_=>(False,.dead)
def yP(x y:Prop×ad):Prop×ad:=
 match x,y with
 |(p,.x (.one (.int k a))),(q,.x (.one (.int _ b)))=>(p/\q,.x (.one (.int k (min a b))))
 |_,_=>(False,.dead)
def cN(s:ag)(o:Option Operand)(other:Int):Prop×Option Int:=
 match o with
 |none=>(True,some other)
 |some x=>match aG s x with
  |(p,.x (.one (.int _ n)))=>(p,some n)
  |_=>(False,none)
def cutAt{α:Type}(l:List α)(aK ai:Int):List α:=(l.take ai.toNat).drop aK.toNat
def ir(P:Program)(s:ag)(t:TypeId)(x:Prop×ad)(aK ai mx:Option Operand):Prop×ad:=
 match x with
 |(p,.x (.one (.str l)))=>match mx,cN s aK 0,cN s ai l.length with
  |none,(q,some a),(r,some b)=>(p/\q/\r/\hx P t=true/\0<=a/\a<=b/\b<=l.length,.x (.one (.str (cutAt l a b))))
  |_,_,_=>(False,.dead)
 |(p,.x (.one (.list z xs)))=>match fC P t,cN s aK 0,cN s ai xs.length,cN s mx xs.length with
  |some (_,size),(q,some a),(r,some b),(u,some c)=>(p/\q/\r/\u/\z=size/\0<=a/\a<=b/\b<=c/\c<=xs.length/\(ai=none->mx=none),.x (.one (.list z (cutAt xs a b))))
  |_,_,_,_=>(False,.dead)
 |(p,.x (.one .nil))=>match fC P t,cN s aK 0,cN s ai 0,mx with
  |some _,(q,some a),(r,some b),none=>(p/\q/\r/\a=0/\b=0,.x (.one .nil))
  |_,_,_,_=>(False,.dead)
 |(p,.alias i)=>match s i with
  |.own _ z xs=>match fC P t,cN s aK 0,cN s ai xs.length,cN s mx xs.length with
   |some (_,size),(q,some a),(r,some b),(u,some c)=>(p/\q/\r/\u/\z=size/\0<=a/\a<=b/\b<=c/\c<=xs.length/\(ai=none->mx=none),.view i a.toNat (b.toNat-a.toNat) (aK.isNone&&mx.isNone))
   |_,_,_,_=>(False,.dead)
  |_=>(False,.dead)
 |(p,.view i lo0 len wh)=>match fC P t,cN s aK 0,cN s ai len,cN s mx len with
  |some (_,size),(q,some a),(r,some b),(u,some c)=>(p/\q/\r/\u/\(s i).size=size/\0<=a/\a<=b/\b<=c/\c<=len/\(ai=none->mx=none),.view i (lo0+a.toNat) (b.toNat-a.toNat) (wh&&(aK.isNone&&mx.isNone)))
  |_,_,_,_=>(False,.dead)
 |_=>(False,.dead)
def Bv(op:UnOp)(x:Prop×ad):Prop×ad:=
 match op,x with
 |.not,(p,.x (.one (.bool b)))=>(p,.x (.one (.bool (!b))))
 |.neg,(p,.x (.one (.int k n)))=>(p,.x (.one (.int k (k.wrap (0-n)))))
 |_,_=>(False,.dead)
def ov(P:Program)(t:TypeId):Option IntKind:=
 match P.underlying t with
 |some (.int k)=>some k
 |_=>none
def hy(s:ag)(size:Nat):ad->Option (List (List af))
 |.x (.one .nil)=>some []
 |.x (.one (.empty z))=>if z=size then some []else none
 |.x (.one (.list z aQ))=>if z=size then some aQ else none
 |.alias j=>match s j with
  |.own _ z aQ=>if z=size then some aQ else none
  |_=>none
 |.view j aK len _=>match s j with
  |.own _ z aQ=>if z=size then some ((aQ.drop aK).take len)else none
  |_=>none
 |_=>none
def pn(P:Program)(e:TypeId):Bool:=match P.underlying e,P.info? e with
 |some (.int .u8),some i=>(match i.zero with
  |some (.int .u8 0)=>true
  |_=>false)&&(i.size==1&&i.bytes==1)
 |_,_=>false
abbrev g_(b:UInt8):List af:=[.int .u8 b.toNat]
def bL(l:List UInt8):List (List af):=l.map g_
def wY(P:Program)(t:TypeId):Bool:=match P.underlying t with
 |some (.slice e)=>pn P e
 |_=>false
def okB(xs:List (List af)):Prop:=∀x∈xs,∃n,x=[.int .u8 n]
def En:List af->UInt8
 |.int _ n::_=>UInt8.ofNat n.toNat
 |_=>0
def ox(xs:List (List af)):List UInt8:=xs.map En
def mF(P:Program)(s:ag)(src dst:TypeId)(x:Prop×ad):Prop×ad:=
 match x with
 |(p,.x (.one (.int _ n)))=>match ov P dst with
  |some k=>(p/\(P.underlying src).isSome=true,.x (.one (.int k (k.wrap n))))
  |none=>(p/\(P.underlying src).isSome=true/\hx P dst=true/\0<=n/\n<128,.x (.one (.str [UInt8.ofNat n.toNat])))
 |(p,.x (.one (.str l)))=>(p/\hx P src=true/\hx P dst=true,.x (.one (.str l)))
 |(p,v)=>match hy s 1 v with
  |some xs=>(p/\wY P src=true/\hx P dst=true/\okB xs,.x (.one (.str (ox xs))))
  |none=>(False,.dead)
def rO(P:Program)(s:ag)(c:Callee)(args:List Operand)(ts:List TypeId):Prop×ad:=
 match c with
 |.builtin .len=>match args,ts with
  |[x],[t]=>lo P s t (aG s x)
  |_,_=>(False,.dead)
 |.builtin .cap=>match args,ts with
  |[x],[t]=>Em P t (aG s x)
  |_,_=>(False,.dead)
 |.builtin .max=>match args with
  |[x,y]=>Bu (aG s x) (aG s y)
  |_=>(False,.dead)
 |.builtin .min=>match args with
  |[x,y]=>yP (aG s x) (aG s y)
  |_=>(False,.dead)
 |_=>(False,.dead)
def qo:List (Prop×ad)->Prop×Option (List af)
 |[]=>(True,some [])
 |(p,.x (.one c))::r=>match qo r with
  |(q,some cs)=>(p/\q,some (c::cs))
  |_=>(False,none)
 |_=>(False,none)
def jM:List (Prop×ad)->Prop×Option (List (af⊕(Nat×Nat)))
 |[]=>(True,some [])
 |(p,.x (.one c))::r=>match jM r with
  |(q,some cs)=>(p/\q,some (.inl c::cs))
  |_=>(False,none)
 |(p,.ptr i off)::r=>match jM r with
  |(q,some cs)=>(p/\off<1000000/\q,some (.inr (i,off)::cs))
  |_=>(False,none)
 |(p,.ds i off)::r=>match jM r with
  |(q,some cs)=>(p/\q,some (.inr (i,off+1000000)::cs))
  |_=>(False,none)
 |_=>(False,none)
def u1(s:ag)(fn:Fn)(first captured:List Operand):Prop×ad:=
 match fn,first with
 |.func f,[]=>match qo (captured.map (aG s))with
  |(p,some cs)=>(p,.x (.one (.ht f cs)))
  |_=>match jM (captured.map (aG s))with
   |(p,some cs)=>(p,.cr f cs)
   |_=>(False,.dead)
 |_,_=>(False,.dead)
def Eo:Operand->Bool
 |.const .nilIface=>true
 |_=>false
def Bw(P:Program)(t:TypeId):Bool:=
 match P.underlying t with
 |some (.interface _)=>true
 |_=>false
def yQ(P:Program)(op:BinOp)(t:TypeId)(x:Prop×ad):Prop×ad:=
 match x,op with
 |(p,.x (.one (.atom .nilIface))),.eql=>(p/\Bw P t=true,.x (.one (.bool true)))
 |(p,.x (.one (.atom .nilIface))),.neq=>(p/\Bw P t=true,.x (.one (.bool false)))
 |(p,.x (.one (.atom (.iface _ _)))),.eql=>(p/\Bw P t=true,.x (.one (.bool false)))
 |(p,.x (.one (.atom (.iface _ _)))),.neq=>(p/\Bw P t=true,.x (.one (.bool true)))
 |_,_=>(False,.dead)
def ZQ(P:Program)(op:BinOp)(t:TypeId)(x:Prop×ad):(yQ P op t x).2=.dead\/∃b,(yQ P op t x).2=.x (.one (.bool b)):=by unfold yQ;split<;>first|exact Or.inl rfl|exact Or.inr ⟨_,rfl⟩
def qp(P:Program)(s:ag)(op:BinOp)(t:TypeId)(x y:Operand):Prop×ad:=bif Eo y then yQ P op t (aG s x)else f' P op t (aG s x) (aG s y)
def iu(s:ag)(r:ad)(v:Prop×ad):Prop×ad:=
 match v with
 |(p,.x (.one .any))=>match r with
  |.ptr i off=>match s (b0 i off)with
   |.link bB o d=>match bB==i&&o==off with
    |true=>(p,.alias d)
    |false=>(p,.x (.one .any))
   |_=>(p,.x (.one .any))
  |_=>(p,.x (.one .any))
 |v=>v
def Ep(s:ag)(r:ad)(v:Prop×ad):iu s r v=v\/∃p i off d,v=(p,.x (.one .any))/\r=.ptr i off/\s (b0 i off)=.link i off d/\iu s r v=(p,.alias d):=by
 unfold iu;split
 ·rename_i p;split
  ·rename_i i off;split
   ·rename_i bB o d ap;split
    ·rename_i h;simp only[b4,fB]at h;obtain⟨rfl,rfl⟩:=h;exact .inr ⟨p,_,_,d,rfl,rfl,ap,rfl⟩
    ·exact .inl rfl
   ·exact .inl rfl
  ·exact .inl rfl
 ·exact .inl rfl
def RO(s:ag)(cs:List af)(v:Prop×ad):iu s (.elem cs) v=v:=by
 rcases Ep s (.elem cs) v with e|⟨_,_,_,_,_,e,_⟩
 ·exact e
 ·cases e
def nx(P:Program)(s:ag)(t:TypeId)(x:Prop×ad):Prop×ad:=
 match x with
 |(p,.ds i off)=>match tk P t with
  |.one=>(p,.ptr i off)
  |_=>(False,.dead)
 |x=>iu s x.2 (js (tk P t) (ea P t) x.1 (mem s x.2))
def dP(P:Program)(s:ag):Op->Prop×ad
 |.move x=>aG s x
 |.assign x=>(True,look s x)
 |.pick c a b=>Bo (aG s c) (aG s a) (aG s b)
 |.load t x=>nx P s t (aG s x)
 |.nilCheck x=>match L3 (aG s x).2 with
  |true=>aG s x
  |false=>(False,.dead)
 |.binOp op t x y _=>qp P s op t x y
 |.unOp op _ x=>Bv op (aG s x)
 |.convert src dst x=>mF P s src dst (aG s x)
 |.slice t x aK ai mx=>ir P s t (aG s x) aK ai mx
 |.fieldAddr t x f=>rL P t f (aG s x)
 |.field t x f=>wW P t f (aG s x)
 |.indexAddr t x i=>kc P s t (aG s x) (aG s i)
 |.index t x i=>Bt P t (aG s x) (aG s i)
 |.extract x i=>wX (aG s x) i
 |.makeFunc fn first captured=>u1 s fn first.toList captured.toList
 |.lookup t x k ok=>rN P s t (aG s x) (aG s k) ok
 |.call c=>rO P s c.callee c.args.toList c.argTypes.toList
 |_=>(False,.dead)
end Go.Ab
namespace Go.Ab
open Go Go.RowKit Go.IntKind
variable [bf]
section
variable {P:Program}{S0:Env}{w0 w:World}{n:Nat}{s:ag}{a:Act}
def ny{w:World}{S:Nat->Prop}{b:Bool}{v:Value}(h:bn w S (.bool b) v):v=.bool b:=by cases h;rfl
def h5{w:World}{S:Nat->Prop}{k:IntKind}{m:Int}{v:Value}(h:bn w S (.int k m) v):v=.int k m:=by cases h;rfl
def lp{w:World}{S:Nat->Prop}{l:List UInt8}{v:Value}(h:bn w S (.str l) v):v=.string ⟨l.toArray⟩/\l.length<=maxLen:=by
 cases h with
 |str _ h=>exact⟨rfl,h⟩
def qq{w:World}{S:Nat->Prop}{v:Value}(h:bn w S .nil v):v=.slice none 0 0:=by cases h;rfl
def ZR(l:List UInt8):(⟨l.toArray⟩:ByteArray).toList=l:=ByteArray.toList_mk l
def HY(l:List UInt8):(⟨l.toArray⟩:ByteArray).size=l.length:=by simp[ByteArray.size]
def ZS(op:BinOp)(t:TypeId){x y:af}{u v:Value}{S:Nat->Prop}(aj:bn w S x u)(aS:bn w S y v)(ak:(yM op x y).1) :
  ∃r,(binOp op t u v).run P w=.ok r w/\bn w S (yM op x y).2 r:=by
 cases x<;>cases y<;>try (exact ak.elim)
 case int.int k m bu hz=>
  obtain rfl:=h5 aj;obtain rfl:=h5 aS;cases op<;>simp only[yM]at ak⊢<;>simp only[binOp]
  case shl=>exact⟨_,by simp only[Op.shift];rw[au (by omega)];rfl,.int _ _⟩
  case shr=>exact⟨_,by simp only[Op.shift];rw[au (by omega)];rfl,.int _ _⟩
  case quo=>obtain⟨rfl,ak⟩:=ak;exact⟨_,by simp[Op.intDiv,ak],.int _ _⟩
  case rem=>obtain⟨rfl,ak⟩:=ak;exact⟨_,by simp[Op.intDiv,ak],.int _ _⟩
  all_goals subst ak
  all_goals simp only[ne_eq,Bx,h6]
  case add=>exact⟨_,rfl,.int _ _⟩
  case sub=>exact⟨_,rfl,.int _ _⟩
  case mul=>exact⟨_,rfl,.int _ _⟩
  case and=>exact⟨_,rfl,.int _ _⟩
  case or=>exact⟨_,rfl,.int _ _⟩
  case xor=>exact⟨_,rfl,.int _ _⟩
  case andNot=>exact⟨_,rfl,.int _ _⟩
  all_goals exact⟨_,rfl,.bool _⟩
 case str.str l kd=>
  obtain⟨rfl,al⟩:=lp aj;obtain⟨rfl,du⟩:=lp aS;cases op<;>simp only[yM]at ak⊢<;>(try exact ak.elim)<;>simp only[binOp,Op.stringOp,ZR,HY]
  case add=>
   refine⟨.string ⟨(l++kd).toArray⟩,?_,.str _ (by simpa using ak)⟩;rw[au (by simp only[maxLen]at ak;simp[IntKind.max,IntKind.signed,IntKind.bits];omega)];show Result.ok (Value.string (⟨l.toArray⟩++⟨kd.toArray⟩)) w=_
   congr 2
  all_goals exact⟨_,rfl,.bool _⟩
def ZT(op:BinOp)(t:TypeId)(gz e4:Operand){x y:af}{u v:Value}{S:Nat->Prop}(aj:bn w S x u)(aS:bn w S y v)(ak:(yM op x y).1) :
  (eqGuard op t gz e4 u v).run P w=.ok () w:=by
 cases x<;>cases y<;>try (exact ak.elim)
 case int.int=>obtain rfl:=h5 aj;rw[eqGuard_at_int];rfl
 case str.str=>obtain⟨rfl,_⟩:=lp aj;rw[eqGuard_at_string];rfl
def L4{t:TypeId}{d:TypeDesc}(h:P.underlying t=some d)(w:World):(isAgg t).run P w=.ok (match d with|.struct _=>true|.array _ _=>true|_=>false) w:=by simp only[isAgg,Sem.run_bind,run_underlying h,Result.andThen_ok];cases d<;>rfl
def run_sizeOf{t:TypeId}{i:TypeInfo}(h:P.info? t=some i)(w:World):(sizeOf t).run P w=.ok i.size w:=by simp[sizeOf,typeInfo,h]
def info_of_underlying{t:TypeId}{d:TypeDesc}(h:P.underlying t=some d):∃i,P.info? t=some i:=by
 cases ai:P.info? t with
 |some i=>exact⟨i,rfl⟩
 |none=>simp[Program.underlying,ai]at h
def valOf(P:Program)(t:TypeId)(us:List Value):Value:=
 match P.underlying t with
 |some (.struct _)=>.agg us.toArray
 |some (.array _ _)=>.agg us.toArray
 |_=>us.headD undef
def L5{t:TypeId}{d:TypeDesc}{i:TypeInfo}(h:P.underlying t=some d)(ai:P.info? t=some i)(us:Array Value)(off:Nat)(al:off+i.size<=us.size)(ap:0<i.size)(w:World) :
  (part t us off).run P w=.ok (valOf P t ((us.toList.drop off).take i.size)) w:=by
 have bO:us[off]?=some us[off]:=qs (by omega);have L6:us.toList.drop off=us[off]::us.toList.drop (off+1):=by rw[g' (by simp;omega)];simp
 have By:us.extract off (off+i.size)=((us.toList.drop off).take i.size).toArray:=by apply qk;simp only[L7,L8];simp
 have ZU:((us.toList.drop off).take i.size).head?.getD undef=us[off]:=by
  rw[L6];obtain⟨m,hm⟩:∃m,i.size=m+1:=⟨i.size-1,by omega⟩
  rw[hm];rfl
 simp only[part,Sem.run_bind,L4 h,Result.andThen_ok,valOf,h];cases d with
 |struct dN=>simp[run_sizeOf ai,By]
 |array k e=>simp[run_sizeOf ai,By]
 |_=>simp[bO,ZU]
def Bz:∀{aU:List fo} {xs aQ:List af},hj aU xs aQ->xs.length=aU.length/\aQ.length=aU.length:=by
 intro aU;induction aU with
 |nil=>intro xs aQ h;cases xs<;>cases aQ<;>simp_all [hj]
 |cons k aU aX=>
  intro xs aQ h;cases k<;>cases xs with
  |nil=>simp[hj]at h
  |cons x xs=>
   cases aQ with
   |nil=>cases x<;>simp[hj]at h
   |cons y aQ=>
    cases x<;>cases y<;>simp only[hj]at h<;>first
     |exact h.elim
     |(have:=aX h;simp[this.1,this.2])
     |(have:=aX h.2;simp[this.1,this.2])
def RP:∀{aF aP:List fo} {xs aQ:List af},hj (aF++aP) xs aQ ->
  hj aF (xs.take aF.length) (aQ.take aF.length)/\hj aP (xs.drop aF.length) (aQ.drop aF.length) /\
  hJ xs aQ=(hJ (xs.take aF.length) (aQ.take aF.length)&&hJ (xs.drop aF.length) (aQ.drop aF.length)):=by
 intro aF;induction aF with
 |nil=>intro aP xs aQ h;exact⟨trivial,h,by simp[hJ]⟩
 |cons k aF aX=>
  intro aP xs aQ h;cases k<;>cases xs with
  |nil=>simp[hj]at h
  |cons x xs=>
   cases aQ with
   |nil=>cases x<;>simp[hj]at h
   |cons y aQ=>
    cases x<;>cases y<;>simp only[gO,hj]at h<;>first
     |exact h.elim
     |(obtain⟨aa,ab,ar⟩:=aX h;exact⟨aa,ab,by simp only[eg,BA,BB,hJ,ar,Bool.and_assoc]⟩)
     |(obtain⟨aW,h⟩:=h;obtain⟨aa,ab,ar⟩:=aX h;exact⟨⟨aW,aa⟩,ab,by simp only[eg,BA,BB,hJ,ar,Bool.and_assoc]⟩)
def cj.sub{S:Nat->Prop}{xs:List af}{us:List Value}(h:cj w S xs us)(o m:Nat):cj w S ((xs.drop o).take m) ((us.drop o).take m):=by
 refine⟨by simp[h.1],fun j c ac=>?_⟩;rw[jl]at ac;split at ac
 ·rename_i aq;rw[h3]at ac;obtain⟨u,hu,an⟩:=h.2 _ _ ac;exact⟨u,by rw[jl,aC aq,h3];exact hu,an⟩
 ·cases ac
def cj.drop{S:Nat->Prop}{xs:List af}{us:List Value}(h:cj w S xs us)(o:Nat):cj w S (xs.drop o) (us.drop o):=by refine⟨by simp[h.1],fun j c ac=>?_⟩;rw[h3]at ac;obtain⟨u,hu,an⟩:=h.2 _ _ ac;exact⟨u,by rw[h3];exact hu,an⟩
def cj.head{S:Nat->Prop}{x:af}{xs:List af}{us:List Value}(h:cj w S (x::xs) us):∃u r,us=u::r/\bn w S x u:=by
 obtain⟨u,hu,an⟩:=h.2 0 x rfl;cases us with
 |nil=>simp at hu
 |cons mG r=>simp at hu;subst hu;exact⟨_,_,rfl,an⟩
def ZV{xs aQ:List af}(h:hj [.b] xs aQ):∃p q,xs=[.bool p]/\aQ=[.bool q]:=by
 obtain⟨aa,ab⟩:=Bz h
 match xs,aQ,aa,ab with
 |[x],[y],_,_=>cases x<;>cases y<;>simp_all [hj]
def ZW{xs aQ:List af}(h:hj [.i] xs aQ):∃k p q,xs=[.int k p]/\aQ=[.int k q]:=by
 obtain⟨aa,ab⟩:=Bz h
 match xs,aQ,aa,ab with
 |[x],[y],_,_=>cases x<;>cases y<;>simp_all [hj]
def ZX{xs aQ:List af}(h:hj [.s] xs aQ):∃p q,xs=[.str p]/\aQ=[.str q]:=by
 obtain⟨aa,ab⟩:=Bz h
 match xs,aQ,aa,ab with
 |[x],[y],_,_=>cases x<;>cases y<;>simp_all [hj]
def po(P:Program)(d:Nat)(acc:Option (List fo))(f:Field):Option (List fo):=
 match acc,pj P d f.type with
 |some l,some aU=>if f.name= "_" \/f.offset≠l.length\/(P.info? f.type).map (·.size)≠some aU.length\/aU.length=0 then none else some (l++aU)
 |_,_=>none
def BC(d:Nat):∀(dN:List Field),dN.foldl (po P d) none=none
 |[]=>rfl
 |_::dN=>BC d dN
def RQ{d:Nat}{t:TypeId}{aU:List fo}(h:pj P d t=some aU):∃ty,P.underlying t=some ty:=by
 cases d with
 |zero=>simp[pj]at h
 |succ d=>
  simp only[pj]at h;cases hu:P.underlying t with
  |some ty=>exact⟨ty,rfl⟩
  |none=>rw[hu]at h;cases h
def RR{S:Nat->Prop}:∀(d D:Nat) (t:TypeId) (aU:List fo) (xs aQ:List af) (us vs:List Value),d<=D->pj P d t=some aU->cj w S xs us->cj w S aQ vs->hj aU xs aQ->0<aU.length ->
  (Op.equalIn D t (valOf P t us) (valOf P t vs)).run P w=.ok (hJ xs aQ) w:=by
 intro d;induction d with
 |zero=>intro D t aU xs aQ us vs _ h;simp[pj]at h
 |succ d aX=>
  intro D t aU xs aQ us vs hA am aj aS ay ke;obtain⟨D,rfl⟩:∃ZY,D=ZY+1:=⟨D-1,by omega⟩
  simp only[pj]at am;cases hu:P.underlying t with
  |none=>rw[hu]at am;cases am
  |some ty=>
   rw[hu]at am;cases ty with
   |bool=>
    simp only[bS]at am;subst am;obtain⟨p,q,rfl,rfl⟩:=ZV ay
    ·obtain⟨u,r,rfl,aa⟩:=aj.head;obtain⟨v,ca,rfl,ab⟩:=aS.head;rw[ny aa,ny ab];simp[valOf,hu,hJ,run_equalIn_bool' w D t p q hu]
   |int k=>
    simp only[bS]at am;subst am;obtain⟨aF,p,q,rfl,rfl⟩:=ZW ay
    ·obtain⟨u,r,rfl,aa⟩:=aj.head;obtain⟨v,ca,rfl,ab⟩:=aS.head;rw[h5 aa,h5 ab];simp[valOf,hu,hJ,run_equalIn_int w D t aF k p q hu]
   |string=>
    simp only[bS]at am;subst am;obtain⟨p,q,rfl,rfl⟩:=ZX ay
    ·obtain⟨u,r,rfl,aa⟩:=aj.head;obtain⟨v,ca,rfl,ab⟩:=aS.head;rw[(lp aa).1,(lp ab).1];simp[valOf,hu,hJ,run_equalIn_string w D t _ _ hu]
   |struct dN=>
    simp only at am;split at am
    ·cases am
    ·rename_i b3;have tt:P.fieldsOf t=dN:=by simp[Program.fieldsOf,hu]
     have cx:=run_equalIn_struct (P:=P) w D t us.toArray vs.toArray (by rw[tt];exact hu) (by simpa using b3);rw[tt]at cx;have fV:∀l:List Value,valOf P t l=.agg l.toArray:=fun l=>by simp[valOf,hu]
     rw[fV,fV,cx];have key:∀(l:List Field) (acc:List fo),l.foldl (po P d) (some acc)=some aU->acc.length<=aU.length ->
       (∃r,aU=acc++r)/\(Op.eqFields D us.toArray vs.toArray l).run P w=.ok (hJ (xs.drop acc.length) (aQ.drop acc.length)) w:=by
      intro l;induction l with
      |nil=>intro acc h _;simp only[List.foldl_nil,bS]at h;subst h;obtain⟨aa,ab⟩:=Bz ay;refine⟨⟨[],by simp⟩,?_⟩;rw[kf (by omega),kf (by omega)];rfl
      |cons f l ZZ=>
       intro acc h wZ;simp only[Er]at h;cases kK:pj P d f.type with
       |none=>simp[po,kK,BC]at h
       |some lq=>
        simp only[po,kK]at h;split at h
        ·rw[BC]at h;cases h
        ·rename_i u2;have aT:f.name≠ "_" :=fun e=>u2 (.inl e);have aw:f.offset=acc.length:=yR fun e=>u2 (.inr (.inl e));have b':(P.info? f.type).map (·.size)=some lq.length:=yR fun e=>u2 (.inr (.inr (.inl e)));have RS:0<lq.length:=Nat.pos_of_ne_zero fun e=>u2 (.inr (.inr (.inr e)));obtain⟨i,ai,Es⟩:∃i,P.info? f.type=some i/\i.size=lq.length:=by
          cases ai:P.info? f.type with
          |none=>rw[ai]at b';cases b'
          |some i=>rw[ai]at b';exact⟨i,rfl,by simpa using b'⟩
         have hlen:(acc++lq).length<=aU.length:=by
          have:∀(l:List Field) (a b:List fo),l.foldl (po P d) (some a)=some b->a.length<=b.length:=by
           intro l;induction l with
           |nil=>intro a b h;simp at h;subst h;exact eG _
           |cons g l L9=>
            intro a b h;simp only[Er]at h;cases aB:po P d (some a) g with
            |none=>rw[aB,BC]at h;cases h
            |some aZ=>
             rw[aB]at h;have:=L9 _ _ h;simp only[po]at aB;split at aB
             ·split at aB
              ·cases aB
              ·rename_i av aI _;injection av with av
               injection aB with aB;subst av;subst aB
               simp at this;omega
             ·cases aB
          exact this _ _ _ h
         obtain⟨⟨r,an⟩,Z0⟩:=ZZ _ h hlen;refine⟨⟨lq++r,by rw[an,pg]⟩,?_⟩;have ga:aU=acc++(lq++r):=by rw[an,pg]
         rw[ga]at ay;obtain⟨_,Et,_⟩:=RP ay;obtain⟨Z1,_,he⟩:=RP Et;obtain⟨pq,gk⟩:=Bz ay;have gl:us.length=xs.length:=aj.1;have qt:vs.length=aQ.length:=aS.1;obtain⟨ty,oy⟩:=RQ kK
         ·have hk:=L5 (P:=P) oy ai us.toArray f.offset (by simp[Es,aw,gl,pq]<;>omega) (by omega) w;have fN:=L5 (P:=P) oy ai vs.toArray f.offset (by simp[Es,aw,qt,gk]<;>omega) (by omega) w;have heq:=aX D f.type lq ((xs.drop f.offset).take i.size) ((aQ.drop f.offset).take i.size) ((us.drop f.offset).take i.size) ((vs.drop f.offset).take i.size) (by omega) kK
           (aj.sub _ _) (aS.sub _ _) (by rw[aw,Es];exact Z1) RS
          simp only[Op.eqFields,aT,ne_eq,HZ,hB,Sem.run_bind,hk,fN,Result.andThen_ok,heq];rw[he,aw,Es];cases ae:hJ ((xs.drop acc.length).take lq.length) ((aQ.drop acc.length).take lq.length)with
          |false=>simp
          |true=>simp only[Bool.not_true,kg,h6,kL];rw[Z0];simp
     obtain⟨_,rP⟩:=key dN.toList [] am (cd _);simpa using rP
   |_=>cases am
end
end Go.Ab
namespace Go.Ab
open Go Go.RowKit Go.MapKept Go.IntKind
variable [bf]
section
variable {P:Program}{w:World}{S:Nat->Prop}
structure rQ(P:Program)(eC:TypeId)(bv:eQ):Prop where
 check:∀{w:World} {S:Nat->Prop} {k:az} {v:Value} (em:Bool),fU bv k=true->cg w S k v->(Instr.checkKey em 10000 eC v).run P w=.ok () w
 find:∀{w:World} {S:Nat->Prop} {k:az} {v:Value} {es:List (az×az)} {ents:List MapEntry} {r:Option Nat},fU bv k=true->cg w S k v->ents.length=es.length ->
  (∀(j:Nat) (x:az×az),es[j]?=some x->∃e,ents[j]?=some e/\cg w S x.1 e.key)->er bv k es 0=some r ->
  match r with
  |none=>(Instr.findKey eC v ents).run P w=.ok none w
  |some j=>∃e,ents[j]?=some e/\e.key=v/\(Instr.findKey eC v ents).run P w=.ok (some (j,e.val)) w
 stays:∀{w:World} {S:Nat->Prop} {k:az} {v:Value},fU bv k=true->cg w S k v->(Instr.keyThatStays v v).run P w=.ok v w
def eQ.fits:eQ->TypeDesc->Prop
 |.s,d=>d=.string
 |.i k,d=>d=.int k
 |.b,d=>d=.bool
 |.st _,_=>False
def RT{bv:eQ}{d:TypeDesc}{k:az}{v:Value}(ax:bv.fits d)(am:fU bv k=true)(an:cg w S k v):IsKey d v:=by
 cases bv<;>(try (exact ax.elim))<;>cases k<;>(try (rename_i c;cases c))<;>simp[fU]at am
 ·obtain rfl:=ax;obtain⟨rfl,_⟩:=lp an;trivial
 ·obtain rfl:=ax;obtain rfl:=h5 an;exact am
 ·obtain rfl:=ax;obtain rfl:=ny an;trivial
def RU{bv:eQ}{d:TypeDesc}{k bu:az}{v cz:Value}{r:Bool}(ax:bv.fits d)(aa:cg w S k v)(ab:cg w S bu cz)(h:rK bv k bu=some r) :
  Instr.sameNow d v cz=some r/\(r=true->v=cz):=by
 unfold rK at h;split at h
 ·rename_i a b;obtain rfl:=ax;obtain⟨rfl,_⟩:=lp aa;obtain⟨rfl,_⟩:=lp ab;injection h with h
  subst h;have:((⟨a.toArray⟩:ByteArray)==⟨b.toArray⟩)=(a==b):=by
   show (a.toArray==b.toArray)=(a==b)
   simp
  refine⟨by simp only[Instr.sameNow,this],fun e=>by rw[fB.1 e]⟩
 ·obtain rfl:=ax;obtain rfl:=h5 aa;obtain rfl:=h5 ab;split at h
  ·rename_i am;subst am;injection h with h
   subst h;exact⟨by simp[Instr.sameNow],fun e=>by rw[fB.1 e]⟩
  ·cases h
 ·obtain rfl:=ax;obtain rfl:=ny aa;obtain rfl:=ny ab;injection h with h;subst h
  exact⟨rfl,fun e=>by rw[fB.1 e]⟩
 ·exact ax.elim
 ·cases h
def RV{bv:eQ}{d:TypeDesc}{k:az}{v:Value}(ax:bv.fits d)(am:cg w S k v):∀(es:List (az×az)) (ents:List MapEntry) (i:Nat) (r:Option Nat),
  (ents.length=es.length)->(∀(j:Nat) (x:az×az),es[j]?=some x->∃e,ents[j]?=some e/\cg w S x.1 e.key)->er bv k es i=some r ->
  match r with
  |none=>Instr.findNow d v ents i=some none
  |some j=>∃e,i<=j/\ents[j-i]?=some e/\e.key=v/\Instr.findNow d v ents i=some (some (j,e.val))
 |[],ents,i,r,al,_,h=>by have:ents=[]:=ld al;subst this;simp[er]at h;subst h;rfl
 |x::es,ents,i,r,al,aj,h=>by
  cases ents with
  |nil=>simp at al
  |cons ch ents=>
   obtain⟨e,he,an⟩:=aj 0 x rfl;simp at he;subst he;simp only[er]at h;split at h
   ·rename_i heq;injection h with h
    subst h;obtain⟨aa,ab⟩:=RU ax am an heq;exact⟨ch,eG _,by simp,(ab rfl).symm,by simp[Instr.findNow,aa]⟩
   ·rename_i heq;obtain⟨aa,_⟩:=RU ax am an heq;have aX:=RV ax am es ents (i+1) r (by simpa using al) (fun j y ac=>by simpa using aj (j+1) y (by simpa using ac)) h;cases r with
    |none=>simp only[Instr.findNow,aa];exact aX
    |some j=>obtain⟨e,hle,bO,kM,ay⟩:=aX;refine⟨e,by omega,?_,kM,by simp only[Instr.findNow,aa];exact ay⟩;rw[show j-i=(j-(i+1))+1 by omega];simpa using bO
   ·cases h
def rQ.basic{eC:TypeId}{d:TypeDesc}{bv:eQ}(hu:P.underlying eC=some d)(ax:bv.fits d):rQ P eC bv where
 check:=fun em aE an=>Go.MapKept.run_checkKey hu (RT ax aE an) em 9999
 stays:=fun aE an=>Go.MapKept.run_keyThatStays (RT ax aE an)
 find:=fun {w S k v es ents r} aE an al aj ay=>by
  have aT:=RV ax an es ents 0 r al aj ay;cases r with
  |none=>exact Go.MapKept.run_findKey hu aT
  |some j=>obtain⟨e,_,bO,kM,hL⟩:=aT;exact⟨e,by simpa using bO,kM,Go.MapKept.run_findKey hu hL⟩
def Eu:∀{aU:List fo} {xs aQ:List af},hK aU xs aQ=true->hj aU xs aQ
 |[],xs,aQ,h=>by cases xs<;>cases aQ<;>simp_all [hK,hj]
 |k::aU,[],aQ,h=>by cases k<;>simp[hK]at h
 |k::aU,x::xs,[],h=>by cases k<;>cases x<;>simp[hK]at h
 |k::aU,x::xs,y::aQ,h=>by
  cases k<;>cases x<;>cases y<;>simp[hK]at h<;>simp only[hj]
  ·exact Eu h
  ·exact⟨h.1,Eu h.2⟩
  ·exact Eu h
def cj.rest{x:af}{u:Value}{xs:List af}{us:List Value}(h:cj w S (x::xs) (u::us)):cj w S xs us:=
 ⟨by have:=h.1;simpa using this,fun j c ac=>by simpa using h.2 (j+1) c (by simpa using ac)⟩
def H0:∀{aU:List fo} {xs aQ:List af} {us vs:List Value},hK aU xs aQ=true->hJ xs aQ=true->cj w S xs us->cj w S aQ vs->us=vs
 |[],xs,aQ,us,vs,h,_,aa,ab=>by cases xs<;>cases aQ<;>simp[hK]at h;have av:us=[]:=ld aa.1;have aI:vs=[]:=ld ab.1;rw[av,aI]
 |k::aU,[],aQ,us,vs,h,_,_,_=>by cases k<;>simp[hK]at h
 |k::aU,x::xs,[],us,vs,h,_,_,_=>by cases k<;>cases x<;>simp[hK]at h
 |k::aU,x::xs,y::aQ,us,vs,h,he,aa,ab=>by
  obtain⟨u,us,rfl,gm⟩:=aa.head;obtain⟨v,vs,rfl,iK⟩:=ab.head;have t1:cj w S xs us:=aa.rest;have t2:cj w S aQ vs:=ab.rest;cases k<;>cases x<;>cases y<;>simp[hK]at h<;>simp only[hJ,b4,fB]at he
  ·rw[ny gm,ny iK,he.1,H0 h he.2 t1 t2]
  ·rw[h5 gm,h5 iK,he.1,h.1,H0 h.2 he.2 t1 t2]
  ·rw[(lp gm).1,(lp iK).1,he.1,H0 h he.2 t1 t2]
def Z2{t:TypeId}(h:Ej P t=true)(em:Bool)(n:Nat)(v:Value):(Instr.checkKey em (n+1) t v).run P w=.ok () w:=by
 unfold Ej at h;split at h
 ·rename_i hu;simp[Instr.checkKey,run_underlying hu]
 ·rename_i hu;simp[Instr.checkKey,run_underlying hu]
 ·rename_i hu;simp[Instr.checkKey,run_underlying hu]
 ·cases h
def Z3{d:Nat}:∀(l:List Field) (a b:List fo),l.foldl (po P d) (some a)=some b->a.length<=b.length:=by
 intro l;induction l with
 |nil=>intro a b h;simp at h;subst h;exact eG _
 |cons g l L9=>
  intro a b h;simp only[Er]at h;cases aB:po P d (some a) g with
  |none=>rw[aB,BC]at h;cases h
  |some aZ=>
   rw[aB]at h;have:=L9 _ _ h;simp only[po]at aB;split at aB
   ·split at aB
    ·cases aB
    ·rename_i av aI _;injection av with av
     injection aB with aB;subst av;subst aB
     simp at this;omega
   ·cases aB
def RW(em:Bool)(n d:Nat)(us:Array Value){aU:List fo}(al:us.size=aU.length):∀(l:List Field) (acc:List fo),l.foldl (po P d) (some acc)=some aU->(∀f∈l,Ej P f.type=true) ->
  ((forIn l PUnit.unit (fun (f:Field) (_:PUnit)=>(do
    if f.name≠ "_" then do
     let x <-part f.type us f.offset
     Instr.checkKey em (n+1) f.type x
     pure (ForInStep.yield PUnit.unit)
    else pure (ForInStep.yield PUnit.unit):Sem (ForInStep PUnit)))):Sem PUnit).run P w=.ok PUnit.unit w
 |[],_,_,_=>by simp
 |f::l,acc,h,ae=>by
  simp only[Er]at h;cases kK:po P d (some acc) f with
  |none=>rw[kK,BC]at h;cases h
  |some rR=>
   rw[kK]at h;have aX:=RW em n d us al l rR h (fun g aB=>ae g (by simp[aB]));have hlen:=Z3 l _ _ h;simp only[po]at kK;cases L_:pj P d f.type with
   |none=>simp[L_]at kK
   |some lq=>
    simp only[L_]at kK;split at kK
    ·cases kK
    ·rename_i u2;injection kK with kK
     subst kK;have aT:f.name≠ "_" :=fun e=>u2 (.inl e);have aw:f.offset=acc.length:=yR fun e=>u2 (.inr (.inl e));have b':(P.info? f.type).map (·.size)=some lq.length:=yR fun e=>u2 (.inr (.inr (.inl e)));have RS:0<lq.length:=Nat.pos_of_ne_zero fun e=>u2 (.inr (.inr (.inr e)));obtain⟨i,ai,Es⟩:∃i,P.info? f.type=some i/\i.size=lq.length:=by
      cases ai:P.info? f.type with
      |none=>rw[ai]at b';cases b'
      |some i=>rw[ai]at b';exact⟨i,rfl,by simpa using b'⟩
     obtain⟨ty,oy⟩:=RQ L_;rw[eE]at hlen;have hk:=L5 (P:=P) oy ai us f.offset (by omega) (by omega) w;simp only[List.forIn_cons,Sem.run_bind,aT,ne_eq,HZ,hB,hk,Result.andThen_ok,Z2 (ae f (by simp)),Sem.run_pure];exact aX
def Z4{k:TypeId}{aU:List fo}(h:yL P k=some (.st aU)):∃dN,P.underlying k=some (.struct dN)/\pk P k=some aU/\(∀f∈dN.toList,Ej P f.type=true):=by
 unfold yL at h;split at h
 ·cases h
 ·cases h
 ·cases h
 ·rename_i dN hu;split at h
  ·rename_i tu ga ae;injection h with h
   injection h with h;subst h
   exact⟨dN,hu,ga,fun f ay=>fm.1 ae f ay⟩
  ·cases h
 ·cases h
def rQ.struct{eC:TypeId}{aU:List fo}(h:yL P eC=some (.st aU)):rQ P eC (.st aU):=by
 obtain⟨dN,hu,ga,ae⟩:=Z4 h;unfold pk at ga;split at ga;rotate_left
 ·cases ga
 rename_i zom ps tu aB RX rS;injection ga with ga
 subst ga;have Ev:pj P (99+1) eC=some (ps::tu):=rS;rw[pj,hu]at Ev;dsimp only at Ev;split at Ev
 ·cases Ev
 have fV:∀l:Array Value,valOf P eC l.toList=.agg l:=fun l=>by simp[valOf,hu]
 have By:∀{w:World} {S:Nat->Prop} {k:az} {v:Value},fU (.st (ps::tu)) k=true->cg w S k v->∃xs us,k=.agg xs/\v=.agg us/\cj w S xs us.toList/\hK (ps::tu) xs xs=true:=by
  intro w S k v aE an;cases k with
  |one c=>simp[fU]at aE
  |agg xs=>obtain⟨us,rfl,al⟩:=an;exact⟨xs,us,rfl,rfl,al,aE⟩
 refine⟨fun {w S k v} em aE an=>?_,fun {w S k v es ents r} aE an al aj ay=>?_,fun {w S k v} aE an=>?_⟩
 ·obtain⟨xs,us,rfl,rfl,al,eF⟩:=By aE an;have hlen:=(Bz (Eu eF)).1;have lr:us.size=(ps::tu).length:=by have:=al.1;rw[iZ]at this;omega
  rw[show (10000:Nat)=9998+1+1 from rfl,Instr.checkKey];simp only[Sem.run_bind,run_underlying hu,Result.andThen_ok];rw[<-Array.forIn_toList];have:=RW (P:=P) (w:=w) em 9998 99 us lr dN.toList [] Ev ae;rw[this];simp
 ·obtain⟨xs,us,rfl,rfl,H1,eF⟩:=By aE an;have key:∀(es:List (az×az)) (ents:List MapEntry) (i:Nat),ents.length=es.length->(∀(j:Nat) (x:az×az),es[j]?=some x->∃e,ents[j]?=some e/\cg w S x.1 e.key)->er (.st (ps::tu)) (.agg xs) es i=some r ->
  match r with
  |none=>(Instr.findAsking eC (.agg us) ents i).run P w=.ok none w
  |some j=>∃e,i<=j/\ents[j-i]?=some e/\e.key=.agg us/\(Instr.findAsking eC (.agg us) ents i).run P w=.ok (some (j,e.val)) w:=by
   intro es;induction es with
   |nil=>intro ents i al _ h;have:ents=[]:=ld al;subst this;simp only[er,bS]at h;subst h;simp[Instr.findAsking]
   |cons x es aX=>
    intro ents i al aj h;cases ents with
    |nil=>simp at al
    |cons ch ents=>
     obtain⟨e,he,an⟩:=aj 0 x rfl;simp only[Ew,bS]at he;subst he;obtain⟨cA,db⟩:=x;simp only[er]at h;cases cA with
     |one c=>simp[rK]at h
     |agg aQ=>
      obtain⟨vs,aH,L'⟩:=an;simp only[rK]at h;by_cases H2:hK (ps::tu) xs aQ=true
      ·rw[aC H2]at h;have heq:(Op.equal eC (.agg us) ch.key).run P w=.ok (hJ xs aQ) w:=by
        have:=RR (P:=P) (w:=w) 100 10000 eC (ps::tu) xs aQ us.toList vs.toList (by omega) rS H1 L' (Eu H2) (by simp);rw[fV,fV]at this;rw[aH];exact this
       cases ao:hJ xs aQ with
       |true=>rw[ao]at h heq;simp only[bS]at h;subst h;refine⟨ch,eG _,by simp,?_,by simp[Instr.findAsking,heq]⟩;have:=H0 H2 ao H1 L';rw[aH];congr 1;exact qk this.symm
       |false=>
        rw[ao]at h heq;simp only at h;have aX:=aX ents (i+1) (by simpa using al) (fun j y ac=>by simpa using aj (j+1) y (by simpa using ac)) h;cases r with
        |none=>simpa[Instr.findAsking,heq]using aX
        |some j=>obtain⟨e,hle,bO,kM,ay⟩:=aX;refine⟨e,by omega,?_,kM,by simpa[Instr.findAsking,heq]using ay⟩;rw[show j-i=(j-(i+1))+1 by omega];simpa using bO
      ·rw[au H2]at h;cases h
  have am:=key es ents 0 al aj ay;have RY:(match P.underlying eC with|some (.array _ _)|some (.struct _)=>true|_=>false)=true:=by rw[hu]
  cases r with
  |none=>rw[run_findKey_eq w RY];exact am
  |some j=>obtain⟨e,_,bO,kM,hL⟩:=am;exact⟨e,by simpa using bO,kM,by rw[run_findKey_eq w RY];exact hL⟩
 ·obtain⟨xs,us,rfl,rfl,H1,eF⟩:=By aE an;have lV:∀(u:Value),u∈us.toList->Instr.sameBits 9999 u u=true:=by
   have key:∀(aU:List fo) (xs:List af) (us:List Value),hK aU xs xs=true->cj w S xs us->∀u∈us,Instr.sameBits 9999 u u=true:=by
    intro aU;induction aU with
    |nil=>
     intro xs us h al u hu;cases xs with
     |nil=>have av:us=[]:=ld al.1;subst av;cases hu
     |cons x xs=>simp[hK]at h
    |cons k aU aX=>
     intro xs us h al u hu;cases xs with
     |nil=>cases k<;>simp[hK]at h
     |cons x xs=>
      obtain⟨v,vs,rfl,gm⟩:=al.head;rcases eT.1 hu with rfl|hu
      ·cases k<;>cases x<;>simp[hK]at h
       ·rw[ny gm];simp[Instr.sameBits]
       ·rw[h5 gm];simp[Instr.sameBits]
       ·rw[(lp gm).1];simp[Instr.sameBits,Go.MapKept.bytes_beq]
      ·cases k<;>cases x<;>simp[hK]at h<;>exact aX xs vs (by first|exact h|exact h.2) al.rest u hu
   exact key _ _ _ eF H1
  have ap:Instr.sameBits 10000 (.agg us) (.agg us)=true:=by show Instr.sameBits (9999+1) (.agg us) (.agg us)=true;simp only[Instr.sameBits,lW,kL,fm];intro p ak;obtain⟨i,ai,e⟩:=Ma ak;rw[List.getElem_zip]at e;rw[<-e];exact lV _ (jN _)
  simp[Instr.keyThatStays,ap]
def RZ{a:Bool}{cs:List af}{U:Nat->Value}{v:Value}(h:HT a ((List.range cs.length).map U) v)(an:∀(i:Nat) (c:af),cs[i]?=some c->bn w S c (U i)):cg w S (tq a cs) v:=by
 cases a with
 |true=>have h:v=.agg ((List.range cs.length).map U).toArray:=h;subst h;refine⟨_,rfl,by simp,fun j c ac=>?_⟩;have aq:=(ep.1 ac).1;exact⟨U j,by simp[aq],an j c ac⟩
 |false=>
  have h:(List.range cs.length).map U=[v]:=h;have al:=mH List.length h;simp only[w1,List.length_range,rT]at al;obtain⟨c,rfl⟩:=Ex.1 al;have aH:U 0=v:=by simpa using h
  rw[<-aH];exact an 0 c rfl
def Z5{fi fj:Bool}{aU vs:List (List af)}{v:Value}(h:bn w S (.g8 fi fj aU vs) v):∃(b c:Nat) (ents:Array MapEntry) (bs:List Nat),v=.map (some b)/\S b/\w.heap[b]?=some (.map ents c)/\ql w S bs (gj fi fj aU vs) ents.toList:=by
 cases h with
 |g8 b c ents _ _ _ _ U V ap a1 aT hm am aH oq rJ=>
  refine⟨b,c,ents,ents.toList.map (·.born),rfl,ap,a1,?_,?_,fun j x ac=>?_⟩
  ·simp[gj,aT,hm]
  ·simp[gj,aT,hm]
  ·unfold gj at ac;rw[dO]at ac;cases aY:(aU.zip vs)[j]? with
   |none=>rw[aY]at ac;cases ac
   |some y=>
    rw[aY]at ac;injection ac with ac
    subst ac;rw[List.getElem?_zip_eq_some]at aY;obtain⟨e,aa,ab⟩:=am j y.1 aY.1;obtain⟨bV,ar,aN⟩:=aH j y.2 aY.2;rw[aa]at ar;injection ar with ar
    subst ar;exact⟨e,aa,by rw[dO,aa];rfl,RZ ab (fun i c ao=>oq j y.1 i c aY.1 ao),RZ aN (fun i c ao=>rJ j y.2 i c aY.2 ao)⟩
def H3{P:Program}{t:TypeId}{bv:eQ}{e:TypeId}(h:mE P t=some (bv,e)):∃k,P.underlying t=some (.map k e)/\rQ P k bv:=by
 unfold mE at h;split at h
 ·rename_i k bV hu;split at h
  ·rename_i Z6 am;simp only[bS,cc]at h;obtain⟨rfl,rfl⟩:=h;refine⟨k,hu,?_⟩;cases Z6 with
   |st aU=>exact rQ.struct am
   |s=>unfold yL at am;split at am<;>first|(cases am;done)|(rename_i q;exact rQ.basic q rfl)|(split at am<;>cases am)
   |i q=>unfold yL at am;split at am<;>first|(rename_i br;injection am with am;injection am with am;subst am;exact rQ.basic br rfl)|(cases am;done)|(split at am<;>cases am)
   |b=>unfold yL at am;split at am<;>first|(cases am;done)|(rename_i q;exact rQ.basic q rfl)|(split at am<;>cases am)
  ·cases h
 ·cases h
def Z7{t:TypeId}{x:az}(h:ea P t=some x):∃z,(zeroValue t).run P w=.ok z w/\cg w S x z:=by
 unfold ea at h;split at h
 ·rename_i i ai;split at h
  ·rename_i us aY;split at h
   ·rename_i fM;injection h with h
    subst h;refine⟨.agg us,by simp[zeroValue,typeInfo,ai,aY],us,rfl,by simp,fun j c ac=>?_⟩;rw[dO]at ac;cases hu:us.toList[j]? with
    |none=>rw[hu]at ac;cases ac
    |some u=>
     rw[hu]at ac;injection ac with ac
     subst ac;exact⟨u,rfl,Eh (fm.1 fM u (iq hu))⟩
   ·cases h
  ·rename_i v _ aY;split at h
   ·rename_i ap;injection h with h
    subst h;exact⟨v,by simp[zeroValue,typeInfo,ai,aY],Eh ap⟩
   ·cases h
  ·cases h
 ·cases h
def R0{t eC BD:TypeId}{bv:eQ}{b c:Nat}{ents:Array MapEntry}{bs:List Nat}{es:List (az×az)}{k x:az}{jO bK:Value}{r:Option Nat}
  (ba:P.underlying t=some (.map eC BD))(hu:rQ P eC bv)(ae:w.heap[b]?=some (.map ents c))(he:ql w S bs es ents.toList)
  (am:cg w S k jO)(aE:fU bv k=true)(aj:cg w S x bK)(ay:er bv k es 0=some r) :
  ∃tv c',(Instr.mapUpdate t (.map (some b)) jO bK).run P w=.ok () {w with heap:=w.heap.setIfInBounds b (.map tv c')} /\
   c'=(gZ c bs es k x r).1/\ql w S (gZ c bs es k x r).2.1 (gZ c bs es k x r).2.2 tv.toList:=by
 have Ey:=hu.check (em:=ents.isEmpty) aE am;have Mb:=hu.check (em:=false) aE am;have aT:=hu.find (es:=es) (ents:=ents.toList) (r:=r) aE am he.1 (fun j y ac=>by obtain⟨e,aa,_,ab,_⟩:=he.2.2 j y ac;exact⟨e,aa,ab⟩) ay;cases r with
 |none=>
  refine⟨ents.push {key:=jO,val:=bK,born:=c},c+1,?_,rfl,?_⟩
  ·simp[Instr.mapUpdate,run_underlying ba,Go.MapKept.run_getObj_map ae,Mb,aT,Go.MapKept.run_setObj_map _ ae,Result.andThen]
  ·simp only[gZ,Array.toList_push];refine⟨by simp[he.1],by simp[he.2.1],fun j y ac=>?_⟩;by_cases aq:j<es.length
   ·rw[jr aq]at ac;rw[jr (by rw[he.1];exact aq),jr (by rw[he.2.1];exact aq)];exact he.2.2 j y ac
   ·rw[kb (by omega)]at ac;have yS:j-es.length=0:=by
     cases h:j-es.length with
     |zero=>rfl
     |succ m=>rw[h]at ac;simp at ac
    rw[yS]at ac;simp at ac;subst ac;refine⟨{key:=jO,val:=bK,born:=c},?_,?_,am,aj⟩
    ·rw[kb (by rw[he.1];omega),he.1,yS];rfl
    ·rw[kb (by rw[he.2.1];omega),he.2.1,yS];rfl
 |some i=>
  obtain⟨e,bO,kM,hL⟩:=aT;have H4:ents[i]?=some e:=by simpa using bO
  refine⟨ents.modify i fun e=>{e with key:=jO,val:=bK},c,?_,rfl,?_⟩
  ·have b3:(Instr.keyThatStays e.key jO).run P w=.ok jO w:=by rw[kM];exact hu.stays aE am
   simp[Instr.mapUpdate,run_underlying ba,Go.MapKept.run_getObj_map ae,Mb,hL,H4,b3,Go.MapKept.run_setObj_map _ ae,Result.andThen]
  ·simp only[gZ];refine⟨by simp[he.1],by simp[he.2.1],fun j y ac=>?_⟩;rw[w2]at ac;split at ac
   ·rename_i ct;subst ct;split at ac
    ·injection ac with ac;subst ac
     have aq:i<es.length:=by assumption
     obtain⟨bV,aa,ab,_⟩:=he.2.2 i es[i] (cn aq);rw[bO]at aa;injection aa with aa;subst aa
     refine⟨{e with key:=jO,val:=bK},?_,ab,am,aj⟩;simp[H4]
    ·cases ac
   ·rename_i ct;obtain⟨bV,aa,ab⟩:=he.2.2 j y ac;refine⟨bV,?_,ab⟩;have:(ents.modify i fun e=>{e with key:=jO,val:=bK})[j]?=ents[j]?:=by
     rw[H5,au ct]
    rw[Ez]at aa⊢;rw[this];exact aa
def Z8{t eC BD:TypeId}{bv:eQ}{b c:Nat}{ents:Array MapEntry}{bs:List Nat}{es:List (az×az)}{k:az}{jO z:Value}{r:Option Nat}(ok:Bool)
  (ba:P.underlying t=some (.map eC BD))(hu:rQ P eC bv)(ae:w.heap[b]?=some (.map ents c))(he:ql w S bs es ents.toList)
  (am:cg w S k jO)(aE:fU bv k=true)(ay:er bv k es 0=some r)(aY:(zeroValue BD).run P w=.ok z w) :
  ∃v,(Instr.lookup t (.map (some b)) jO ok).run P w=.ok (if ok then .tuple #[v,.bool r.isSome]else v) w /\
   match r with
   |none=>v=z
   |some i=>∃x,es[i]?=some x/\cg w S x.2 v:=by
 have Ey:=hu.check (em:=ents.isEmpty) aE am;have Mb:=hu.check (em:=false) aE am;have aT:=hu.find (es:=es) (ents:=ents.toList) (r:=r) aE am he.1 (fun j y ac=>by obtain⟨e,aa,_,ab,_⟩:=he.2.2 j y ac;exact⟨e,aa,ab⟩) ay;cases r with
 |none=>refine⟨z,?_,rfl⟩;cases ok<;>simp[Instr.lookup,run_underlying ba,Go.MapKept.run_getObj_map ae,Ey,aT,aY,Result.andThen]
 |some i=>
  obtain⟨e,bO,kM,hL⟩:=aT;have aq:i<es.length:=by have:=(ep.1 bO).1;have:=he.1;omega
  obtain⟨bV,aa,_,_,ab⟩:=he.2.2 i es[i] (cn aq);rw[bO]at aa;injection aa with aa;subst aa
  refine⟨e.val,?_,es[i],cn aq,ab⟩;cases ok<;>simp[Instr.lookup,run_underlying ba,Go.MapKept.run_getObj_map ae,Ey,hL,Result.andThen]
end
end Go.Ab
namespace Go.Ab
open Go Go.RowKit Go.IntKind
variable [bf]
section
variable {P:Program}{S0:Env}{w0 w:World}{n:Nat}{s:ag}{a:Act}
abbrev dM(S0:Env)(w0:World)(s:ag)(a:Act)(w:World)(r:Prop×ad)(v:Value):Prop:=r.1->ll S0 w0 s a w r.2 v
abbrev Yields(P:Program)(S0:Env)(w0:World)(s:ag)(a:Act)(w:World)(m:Sem Value)(r:ad):Prop:=
 ∃v,m.run P w=.ok v w/\ll S0 w0 s a w r v/\r.aM=false
def R1{t:TypeId}(h:h4 P t=true):∃e,P.underlying t=some (.slice e):=by
 unfold h4 at h;split at h
 ·exact⟨_,by assumption⟩
 ·cases h
inductive EA:Value->Bool->Prop where
 |yes:EA (.slice none 0 0) true
 |no (a:Addr) (l c:Nat):EA (.slice (some a) l c) false
def R2{S:Nat->Prop}{c:af}{v:Value}{b:Bool}(h:bn w S c v)(ae:yN c=some b):∃bg,EA v bg/\bg=b:=by
 unfold yN at ae;split at ae
 ·cases h;injection ae with ae;exact⟨_,.yes,ae⟩
 ·cases h;injection ae with ae;exact⟨_,.no _ _ _,ae⟩
 ·cases h;injection ae with ae;exact⟨_,.no _ _ _,ae⟩
 ·cases ae
def R3(d:Nat){t e:TypeId}{v:Value}{b:Bool}(h:EA v b)(he:P.underlying t=some (.slice e)):(Op.equalIn (d+1) t v (.slice none 0 0)).run P w=.ok b w:=by cases h<;>simp[Op.equalIn,run_underlying he]
def R4(op:BinOp)(t:TypeId)(gz e4:Operand){u v:Value}{b:Bool}(hu:EA u b):(eqGuard op t gz e4 u v).run P w=.ok () w:=by cases hu<;>simp[eqGuard]
def Z9{y:Operand}(h:Eo y=true):y=.const .nilIface:=by
 unfold Eo at h;split at h
 ·rfl
 ·cases h
def H6{t:TypeId}(h:Bw P t=true):∃e,P.underlying t=some (.interface e):=by
 unfold Bw at h;split at h
 ·exact⟨_,by assumption⟩
 ·cases h
def H7{w:World}{S:Nat->Prop}{u v:Value}(h:bn w S (.atom u) v):v=u:=by cases h;rfl
def R5(d:Nat){t:TypeId} {ms} (he:P.underlying t=some (.interface ms)):(Op.equalIn (d+1) t .nilIface .nilIface).run P w=.ok true w:=by simp[Op.equalIn,run_underlying he]
def R6(d:Nat){t:TypeId} {ms} (y:TypeId) (v:Value) (he:P.underlying t=some (.interface ms)):(Op.equalIn (d+1) t (.iface y v) .nilIface).run P w=.ok false w:=by simp[Op.equalIn,run_underlying he]
def R7(op:BinOp)(t:TypeId)(gz:Operand):(eqGuard op t gz (.const .nilIface) .nilIface .nilIface).run P w=.ok () w:=by unfold eqGuard;cases op<;>simp
def R8(op:BinOp)(t:TypeId)(gz e4:Operand)(y:TypeId)(v:Value):(eqGuard op t gz e4 (.iface y v) .nilIface).run P w=.ok () w:=by unfold eqGuard;cases op<;>simp
def Z_(op:BinOp)(t:TypeId)(gz:Operand){x:Prop×ad}{u:Value}(aj:dM S0 w0 s a w x u)(ak:(yQ P op t x).1) :
  Yields P S0 w0 s a w (do eqGuard op t gz (.const .nilIface) u .nilIface;binOp op t u .nilIface) (yQ P op t x).2:=by
 unfold yQ at ak⊢;split at ak
 ·obtain⟨hk,fN⟩:=ak;obtain⟨e,he⟩:=H6 fN;obtain rfl:=H7 (aj hk);refine⟨_,?_,bn.bool _,rfl⟩;have br:=R5 (P:=P) (w:=w) 9999 he;simp only[Sem.run_bind,R7 (P:=P) .eql t gz,Result.andThen_ok];simp only[binOp,Op.equal,Op.maxDepth,Sem.run_bind,br,Result.andThen_ok];rfl
 ·obtain⟨hk,fN⟩:=ak;obtain⟨e,he⟩:=H6 fN;obtain rfl:=H7 (aj hk);refine⟨_,?_,bn.bool _,rfl⟩;have br:=R5 (P:=P) (w:=w) 9999 he;simp only[Sem.run_bind,R7 (P:=P) .neq t gz,Result.andThen_ok];simp only[binOp,Op.equal,Op.maxDepth,Sem.run_bind,br,Result.andThen_ok];rfl
 ·rename_i y v;obtain⟨hk,fN⟩:=ak;obtain⟨e,he⟩:=H6 fN;obtain rfl:=H7 (aj hk);refine⟨_,?_,bn.bool _,rfl⟩;have br:=R6 (P:=P) (w:=w) 9999 y v he;simp only[Sem.run_bind,R8 (P:=P) .eql t gz _ y v,Result.andThen_ok];simp only[binOp,Op.equal,Op.maxDepth,Sem.run_bind,br,Result.andThen_ok];rfl
 ·rename_i y v;obtain⟨hk,fN⟩:=ak;obtain⟨e,he⟩:=H6 fN;obtain rfl:=H7 (aj hk);refine⟨_,?_,bn.bool _,rfl⟩;have br:=R6 (P:=P) (w:=w) 9999 y v he;simp only[Sem.run_bind,R8 (P:=P) .neq t gz _ y v,Result.andThen_ok];simp only[binOp,Op.equal,Op.maxDepth,Sem.run_bind,br,Result.andThen_ok];rfl
 ·exact ak.elim
def Z'(op:BinOp)(t:TypeId)(gz e4:Operand){x y:Prop×ad}{u v:Value}(aj:dM S0 w0 s a w x u)(aS:dM S0 w0 s a w y v)(ak:(f' P op t x y).1) :
  Yields P S0 w0 s a w (do eqGuard op t gz e4 u v;binOp op t u v) (f' P op t x y).2:=by
 obtain⟨p,x⟩:=x;obtain⟨q,y⟩:=y;unfold f' at ak⊢;split at ak
 ·rename_i ef dv av aI;injection av with pt pu;subst pt;subst pu
  injection aI with nz nA;subst nz;subst nA
  cases op<;>first|exact ak.elim|skip
  all_goals
   simp only at ak⊢;obtain⟨hk,fN,hu⟩:=ak;obtain rfl:=ny (aj hk);obtain rfl:=ny (aS fN);refine⟨_,?_,bn.bool _,rfl⟩;rw[eqGuard_at_bool];simp[binOp,Op.equal,Op.maxDepth,run_equalIn_bool' w 9999 t _ _ hu,bne]
 ·rename_i bA av aI;injection av with pt pu;subst pt;subst pu
  injection aI with nz nA;subst nz;subst nA
  unfold Ek at ak⊢;split at ak
  ·rename_i b ae;obtain⟨hk,fN,ba⟩:=ak;obtain⟨e,he⟩:=R1 ba;obtain⟨r,an,cm⟩:=R2 (aj hk) ae;subst cm;obtain rfl:=qq (aS fN);refine⟨_,?_,bn.bool _,rfl⟩;simp only[Sem.run_bind,R4 (P:=P) .eql t gz e4 an,Result.andThen_ok];have br:=R3 (P:=P) (w:=w) 9999 an he;cases an<;>simp only[binOp,Op.equal,Op.maxDepth,Sem.run_bind,br,Result.andThen_ok]<;>rfl
  ·rename_i b ae;obtain⟨hk,fN,ba⟩:=ak;obtain⟨e,he⟩:=R1 ba;obtain⟨r,an,cm⟩:=R2 (aj hk) ae;subst cm;obtain rfl:=qq (aS fN);refine⟨_,?_,bn.bool _,rfl⟩;simp only[Sem.run_bind,R4 (P:=P) .neq t gz e4 an,Result.andThen_ok];have br:=R3 (P:=P) (w:=w) 9999 an he;cases an<;>simp only[binOp,Op.equal,Op.maxDepth,Sem.run_bind,br,Result.andThen_ok]<;>rfl
  ·exact ak.elim
 ·rename_i bA c2 bC R9 av aI;injection av with pt pu;subst pt;subst pu
  injection aI with nz nA;subst nz;subst nA
  simp only at ak⊢;obtain⟨hk,fN,Mc⟩:=ak;obtain⟨r,an,bU⟩:=ZS (P:=P) op t (aj hk) (aS fN) Mc;refine⟨r,?_,bU,rfl⟩;simp only[Sem.run_bind,ZT (P:=P) op t gz e4 (aj hk) (aS fN) Mc,Result.andThen_ok,an]
 ·rename_i xs aQ av aI;injection av with pt pu;subst pt;subst pu
  injection aI with nz nA;subst nz;subst nA
  cases ga:pk P t with
  |none=>rw[ga]at ak;exact ak.elim
  |some aU=>
   rw[ga]at ak;unfold pk at ga;split at ga
   ·rename_i dN k tu aB RX rS;injection ga with ga
    subst ga;cases op<;>first|exact ak.elim|skip
    all_goals
     simp only at ak⊢;obtain⟨hk,fN,ay⟩:=ak;obtain⟨us,rfl,lr⟩:=aj hk;obtain⟨vs,rfl,fp⟩:=aS fN;refine⟨_,?_,bn.bool _,rfl⟩;simp only[Sem.run_bind,run_eqGuard_agg (P:=P) w _ t gz e4 us vs aB,Result.andThen_ok,run_eql_struct,run_neq_struct];have fV:∀l:Array Value,valOf P t l.toList=.agg l:=fun l=>by simp[valOf,RX]
     have heq:=RR (P:=P) (w:=w) 100 10000 t (k::tu) _ _ us.toList vs.toList (by omega) rS lr fp ay (by simp);rw[fV,fV]at heq;rw[heq];rfl
   ·cases ga
 ·exact ak.elim
def zaa{c x y:Prop×ad}{Md bK Me:Value}(ao:dM S0 w0 s a w c Md)(aj:dM S0 w0 s a w x bK)(aS:dM S0 w0 s a w y Me)(ak:(Bo c x y).1) :
  Yields P S0 w0 s a w (do pure (if <-asBool Md then bK else Me)) (Bo c x y).2:=by
 obtain⟨Bp,c⟩:=c;obtain⟨zab,x⟩:=x;obtain⟨zon,y⟩:=y
 match c,x,y,ak with
 |.x (.one (.bool e)),.x Bq,.x HX,ak=>
  obtain⟨aa,ab,ar⟩:=ak;obtain rfl:=ny (ao aa);refine⟨if e then bK else Me,by simp[asBool],?_,rfl⟩;have zac:∀(S:Nat->Prop) (v:Value),cg w S (bif e then Bq else HX) v->cg w S (El e Bq HX) v:=by
   intro S v h;unfold El;split
   ·cases e<;>exact h
   ·exact h
  refine zac _ _ ?_;cases e with
  |true=>exact aj (ab rfl)
  |false=>exact aS (ar rfl)
def Mf{t:TypeId}{m:Nat}(h:tk P t=.agg m):∃i,P.info? t=some i/\i.size=m/\(isAgg t).run P w=.ok true w:=by
 unfold tk at h;split at h<;>first|cases h|skip
 all_goals rename_i hu ai;exact⟨_,ai,rfl,by rw[L4 hu]⟩
def H8{t:TypeId}(h:tk P t=.one):(isAgg t).run P w=.ok false w:=by
 unfold tk at h;split at h<;>first|cases h|skip
 rename_i ty hu w3 Mg zad zae;rw[L4 hu];cases ty with
 |struct dN=>
  exfalso;cases ai:P.info? t with
  |some i=>exact w3 _ _ ai rfl
  |none=>exact zad _ ai rfl
 |array k e=>
  exfalso;cases ai:P.info? t with
  |some i=>exact Mg _ _ _ ai rfl
  |none=>exact zae _ _ ai rfl
 |_=>rfl
def R_{t:TypeId}{p:Prop}{m:Option (List af)}{v:Value}
  (hm:p->∀cs,m=some cs->∃bT:Addr,v=.pointer (some bT)/\bT.spot=none/\∀(j:Nat) (c:af),cs[j]?=some c->∃u,w.cell? (bT.add j)=some u/\bn w (bR S0 w0.heap.size w s (aJ a)) c u)
  {z:Option az}(ak:(js (tk P t) z p m).1):Yields P S0 w0 s a w (Instr.loadAt t v) (js (tk P t) z p m).2:=by
 cases m with
 |none=>exact ak.elim
 |some cs=>
  simp only[js]at ak⊢;cases am:tk P t with
  |bad=>rw[am]at ak;exact ak.elim
  |one=>
   rw[am]at ak;cases cs with
   |nil=>cases z<;>exact ak.elim
   |cons c cs=>
    obtain⟨bT,rfl,cU,ao⟩:=hm ak _ rfl;obtain⟨u,hu,an⟩:=ao 0 c rfl;refine⟨u,?_,an,rfl⟩;have eZ:w.cell? bT=some u:=by simpa[Addr.add]using hu
    simp[Instr.loadAt,Instr.sureAddr,loadVar,H8 (w:=w) am,eZ]
  |agg m=>
   rw[am]at ak;obtain⟨ak,al⟩:=ak;obtain⟨bT,rfl,cU,ao⟩:=hm ak _ rfl;obtain⟨i,ai,b',eU⟩:=Mf (w:=w) am;have hex:∀j,∃u,∀c,(cs.take m)[j]?=some c->w.cell? (bT.add j)=some u/\bn w (bR S0 w0.heap.size w s (aJ a)) c u:=by
    intro j;cases ac:(cs.take m)[j]? with
    |none=>exact⟨undef,fun c h=>by cases h⟩
    |some c=>
     rw[jl]at ac;split at ac
     ·obtain⟨u,aa,ab⟩:=ao j c ac;exact⟨u,fun c' h=>by injection h with h;subst h;exact⟨aa,ab⟩⟩
     ·cases ac
   obtain⟨U,d7⟩:=Classical.axiomOfChoice hex;have hlen:(cs.take m).length=m:=by rw[d'];omega
   have zaf:∀j,j<m->w.cell? (bT.add j)=some (U j):=fun j ac=>(d7 j _ (cn (by omega:j<(cs.take m).length))).1;refine⟨.agg ((List.range m).map U).toArray,?_,⟨_,rfl,by simp;omega,fun j c ac=>?_⟩,rfl⟩
   ·have:=run_loadCells (P:=P) (w:=w) bT m U zaf;simp only[Instr.loadAt,Instr.sureAddr,loadVar,Sem.run_bind,Sem.run_pure,Result.andThen_ok,eU,hB,run_sizeOf ai,b',this]
   ·have w4:j<m:=by have:=(ep.1 ac).1;omega
    exact⟨U j,by simp[w4],(d7 j c ac).2⟩
end
end Go.Ab
namespace Go.Ab
open Go Go.RowKit Go.IntKind
variable [bf]
def w5{xs:List (List af)}{size:Nat}(aj:∀x∈xs,x.length=size):xs.flatten.length=xs.length*size:=by
 induction xs with
 |nil=>simp
 |cons x xs aX=>simp only[qn,eE,eg];rw[aX (fun y aS=>aj y (by simp[aS])),aj x (by simp),j9];omega
def EB{xs:List (List af)}{size:Nat}(aj:∀x∈xs,x.length=size)(k:Nat):(xs.drop k).flatten=xs.flatten.drop (k*size):=by
 induction xs generalizing k with
 |nil=>simp
 |cons x xs aX=>
  cases k with
  |zero=>simp
  |succ k=>have al:=aj x (by simp);simp only[BB,qn];have av:x.drop ((k+1)*size)=[]:=kf (by rw[al,j9];omega);rw[aX (fun x eP=>aj x (by simp[eP])),List.drop_append,av,nt,al];congr 1;rw[j9];omega
def BE{xs:List (List af)}{size:Nat}(aj:∀x∈xs,x.length=size)(k:Nat):(xs.take k).flatten=xs.flatten.take (k*size):=by
 induction xs generalizing k with
 |nil=>simp
 |cons x xs aX=>
  cases k with
  |zero=>simp
  |succ k=>have al:=aj x (by simp);simp only[BA,qn];have av:x.take ((k+1)*size)=x:=iv (by rw[al,j9];omega);rw[aX (fun x eP=>aj x (by simp[eP])),List.take_append,av,al];congr 2;rw[j9];omega
section
variable {P:Program}{S0:Env}{w0 w:World}{n:Nat}{s:ag}{a:Act}
def H9{e:TypeId}(h:pn P e=true):P.underlying e=some (.int .u8)/\∃i,P.info? e=some i/\i.zero=some (.int .u8 0)/\i.size=1/\i.bytes=1:=by
 unfold pn at h;split at h
 ·rename_i i aa ab;simp only[b4,fB]at h;refine⟨aa,i,ab,?_,h.2⟩;obtain⟨ar,_⟩:=h;split at ar
  ·assumption
  ·cases ar
 ·cases h
def zag(l:List UInt8):(bL l).flatten=l.map fun b=>af.int .u8 b.toNat:=by
 unfold bL;induction l with
 |nil=>rfl
 |cons b r aX=>simp[aX]
def Mh(S:Nat->Prop)(l:List UInt8):cj w S (bL l).flatten (Go.Lib.strCells ⟨l.toArray⟩):=by
 rw[zag];refine⟨by simp[Go.Lib.strCells],fun j c ac=>?_⟩;rw[dO]at ac;cases ae:l[j]? with
 |none=>rw[ae]at ac;cases ac
 |some b=>
  rw[ae]at ac;injection ac with ac
  subst ac;exact⟨.int .u8 b.toNat,by simp[Go.Lib.strCells,ae],bn.int _ _⟩
def Mi(l:List UInt8):∀x∈bL l,x.length=1:=by intro x aj;simp only[bL,hh]at aj;obtain⟨b,_,rfl⟩:=aj;rfl
@[simp]def EC(l:List UInt8):(bL l).length=l.length:=by simp[bL]
def Mj(ah:Rel S0 w0 n s a w){size:Nat}{y:Prop×ad}{v:Value}{aQ:List (List af)}(aS:dM S0 w0 s a w y v)(ak:y.1)(h:hy s size y.2=some aQ) :
  ∃(b:Option Addr) (c:Nat) (us:List Value),v=.slice b aQ.length c/\(b=none->aQ.length=0)/\cj w (bR S0 w0.heap.size w s (aJ a)) aQ.flatten us/\(∀y∈aQ,y.length=size)/\aQ.length<=maxLen /\
   ∀bT,b=some bT->∀j u,us[j]?=some u->w.cell? (bT.add j)=some u:=by
 obtain⟨q,y⟩:=y;have an:=aS ak;dsimp only at h an;unfold hy at h;split at h
 ·injection h with h;subst h
  obtain rfl:=qq an;exact⟨none,0,[],rfl,fun _=>rfl,⟨rfl,fun j c ac=>by simp at ac⟩,fun y aS=>(by cases aS),by simp,fun bT h=>by cases h⟩
 ·split at h
  ·injection h with h;subst h
   cases an with
   |empty b c _ ao=>exact⟨some b,c,[],rfl,fun _=>rfl,⟨rfl,fun j c ac=>by simp at ac⟩,fun y aS=>(by cases aS),by simp,fun bT _ j u ac=>by simp at ac⟩
  ·cases h
 ·split at h
  ·rename_i z nB aY;subst aY;injection h with h
   subst h;cases an with
   |kH b c _ ao aT=>exact⟨b,c,[],rfl,fun _=>rfl,⟨rfl,fun j c ac=>by simp at ac⟩,fun y aS=>(by cases aS),by simp,fun bT _ j u ac=>by simp at ac⟩
   |list bT cap _ _ U ap cU ao hm aj d7 bU=>
    have al:((List.range nB.flatten.length).map U).length=nB.flatten.length:=by simp
    refine⟨some bT,cap,(List.range nB.flatten.length).map U,rfl,fun h=>(by cases h),⟨al,fun j c ac=>?_⟩,aj,by omega,fun zoo h j u ac=>?_⟩
    ·have aq:=(ep.1 ac).1;exact⟨U j,by rw[dO,BF aq];rfl,bU j c ac⟩
    ·injection h with h;subst h
     have aq:=(ep.1 ac).1;rw[al]at aq;have hu:u=U j:=by rw[dO,BF aq]at ac;injection ac with ac;exact ac.symm
     rw[hu];exact d7 j _ (cn aq)
  ·cases h
 ·rename_i i;split at h
  ·rename_i e z nB ap;split at h
   ·rename_i aY;subst aY;injection h with h
    subst h;obtain⟨rfl,_⟩:=cV.wT an ap;have ai:=ah.rep i;rw[ap]at ai;obtain⟨us,bq,al,aj,hm,cL⟩:=ai;rcases bq.2 with⟨aH,aW⟩|⟨g,cap,cur,aH,_⟩
    ·refine⟨none,0,us,by rw[aH,aW],fun _=>aW,al,aj,hm,fun bT h=>by cases h⟩
    ·refine⟨_,cap,us,aH,fun h=>(by cases h),al,aj,hm,fun bT h j u ac=>?_⟩;injection h with h
     subst h;exact bq.cells (g:=g) (by rw[aH];rfl) j u ac
   ·cases h
  ·cases h
 ·rename_i i aK len wh;split at h
  ·rename_i e z nB ap;split at h
   ·rename_i aY;subst aY;injection h with h
    subst h;have ai:=ah.rep i;rw[ap]at ai;obtain⟨us,bq,al,aj,hm,cL⟩:=ai;obtain⟨_,hle,aH⟩:=an;rw[ap]at hle;have ED:aK+len<=nB.length:=hle;have yT:((nB.drop aK).take len).length=len:=by rw[d',eo];omega
    have R':∀y∈(nB.drop aK).take len,y.length=z:=fun y aS=>aj y (tw (rU aS));have bO:((nB.drop aK).take len).flatten=(nB.flatten.drop (aK*z)).take (len*z):=by rw[BE (fun x eP=>aj x (tw eP)),EB aj]
    have eh:nB.flatten.length=nB.length*z:=w5 aj;have lr:us.length=nB.length*z:=bq.1;have dA:cj w (bR S0 w0.heap.size w s (aJ a)) ((nB.drop aK).take len).flatten ((us.drop (aK*z)).take (len*z)):=by
     rw[bO];refine⟨by simp only[d',eo,eh,lr],fun j c ac=>?_⟩;rw[jl,h3]at ac;split at ac
     ·rename_i aq;obtain⟨u,hu,w6⟩:=al.2 _ c ac;exact⟨u,by rw[jl,aC aq,h3];exact hu,w6⟩
     ·cases ac
    rcases aH with⟨rfl,aW⟩|⟨b,off,cap,rfl,ao,H_,am,aY,_⟩
    ·exact⟨none,0,_,by rw[yT,aW],fun _=>by rw[yT,aW],dA,R',by omega,fun bT h=>by cases h⟩
    ·refine⟨some ⟨b,off,none⟩,cap,_,by rw[yT],fun h=>(by cases h),dA,R',by omega,fun bT h j u ac=>?_⟩;injection h with h
     subst h;rw[jl,h3]at ac;split at ac
     ·rename_i aq;have aW:0<len:=by
       rcases Nat.eq_zero_or_pos len with aW|aW
       ·rw[aW]at aq;simp at aq
       ·exact aW
      have jP:=aY aW;rw[ap]at am jP;have:=bq.cells (g:=b) am _ u ac;rw[ln,f_]at this;rw[ln,jP];exact this
     ·cases ac
   ·cases h
  ·cases h
 ·cases h
def zah{xs:List (List af)}(h:okB xs):∃mI:List Int,xs=(mI.map fun n=>[af.int .u8 n])/\ox xs=mI.map fun n=>UInt8.ofNat n.toNat:=by
 induction xs with
 |nil=>exact⟨[],rfl,rfl⟩
 |cons x r aX=>obtain⟨n,rfl⟩:=h x (by simp);obtain⟨mI,av,aI⟩:=aX (fun y aS=>h y (by simp[aS]));exact⟨n::mI,by rw[av];rfl,by show En _::ox r=_;rw[aI];rfl⟩
end
end Go.Ab
namespace Go.Ab
open Go Go.RowKit Go.IntKind
variable [bf]
section
variable {P:Program}{S0:Env}{w0 w:World}{n:Nat}{s:ag}{a:Act}
def Sa{t:TypeId}{f o:Nat}{k:bZ}(h:fieldAt P t f=some (o,k)) :
  ∃dN fd i,P.underlying t=some (.struct dN)/\dN[f]?=some fd/\P.info? fd.type=some i/\0<i.size/\fd.offset=o/\tk P fd.type=k:=by
 unfold fieldAt at h;split at h
 ·rename_i dN hu;split at h
  ·rename_i fd mJ;split at h
   ·rename_i i ai;split at h
    ·cases h
    ·rename_i aY;injection h with h
     injection h with aa ab;exact⟨dN,fd,i,hu,mJ,ai,by omega,aa,ab⟩
   ·cases h
  ·cases h
 ·cases h
def Mk{t:TypeId}{f o:Nat}{k:bZ}(h:fieldAt P t f=some (o,k))(bT:Addr) :
  (Instr.fieldAt t (.pointer (some bT)) f).run P w=.ok (.pointer (some (bT.add o))) w:=by
 obtain⟨dN,fd,i,hu,mJ,ai,ke,aw,_⟩:=Sa h;have bC:i.size≠0:=by omega
 simp[Instr.fieldAt,Instr.sureAddr,run_underlying hu,mJ,fieldPlace,run_sizeOf ai,bC,aw]
def zai{t:TypeId}{f:Nat}{x:Prop×ad}{v:Value}(aj:dM S0 w0 s a w x v)(ak:(rL P t f x).1) :
  Yields P S0 w0 s a w (Instr.fieldAt t v f) (rL P t f x).2:=by
 obtain⟨p,x⟩:=x;cases ay:fieldAt P t f with
 |none=>simp only[rL,ay]at ak
 |some ok=>
  obtain⟨o,k⟩:=ok;cases x with
  |ptr i off=>simp only[rL,ay]at ak⊢;obtain⟨b,rfl,ae⟩:=aj ak;exact⟨_,Mk ay _,⟨b,by rw[ln],ae⟩,rfl⟩
  |dX i bu off=>simp only[rL,ay]at ak⊢;obtain⟨b,rfl,ae⟩:=aj ak;exact⟨_,Mk ay _,⟨b,by rw[ln,rG],ae⟩,rfl⟩
  |elem cs=>
   simp only[rL,ay]at ak⊢;obtain⟨bT,rfl,cU,bW,ao⟩:=aj ak;refine⟨_,Mk ay _,⟨_,rfl,?_,by rw[block_add];exact bW,fun j c ac=>?_⟩,rfl⟩
   ·unfold Addr.add;split<;>simp[cU]
   ·rw[Ei];rw[h3]at ac;exact ao _ _ ac
  |_=>simp only[rL,ay]at ak
def zaj{t:TypeId}{f:Nat}{x:Prop×ad}{v:Value}(aj:dM S0 w0 s a w x v)(ak:(wW P t f x).1) :
  Yields P S0 w0 s a w (Instr.field t v f) (wW P t f x).2:=by
 obtain⟨p,x⟩:=x;cases ay:fieldAt P t f with
 |none=>cases x<;>simp only[wW,ay]at ak
 |some ok=>
  obtain⟨o,k⟩:=ok;cases x with
  |x bK=>cases bK with
   |one c=>simp only[wW,ay]at ak
   |agg cs=>
    simp only[wW,ay]at ak⊢;obtain⟨dN,fd,i,hu,mJ,ai,ke,aw,am⟩:=Sa ay;subst aw;subst am;cases rS:tk P fd.type with
    |bad=>rw[rS]at ak;exact ak.elim
    |one=>
     rw[rS]at ak;simp only[Br]at ak⊢;cases ax:cs.drop fd.offset with
     |nil=>rw[ax]at ak;exact ak.elim
     |cons c r=>
      rw[ax]at ak;obtain⟨us,rfl,al⟩:=aj ak;obtain⟨u,eZ,an⟩:=(al.drop fd.offset).2 0 c (by rw[ax];rfl);rw[h3]at eZ;refine⟨u,?_,an,rfl⟩;have:us[fd.offset]?=some u:=by simpa using eZ
      simp[Instr.field,run_underlying hu,mJ,asAgg,part,H8 (w:=w) rS,this]
    |agg m=>
     rw[rS]at ak;obtain⟨ak,du⟩:=ak;obtain⟨us,rfl,al⟩:=aj ak;obtain⟨bB,eN,b',eU⟩:=Mf (w:=w) rS;refine⟨.agg (us.extract fd.offset (fd.offset+m)),?_,⟨_,rfl,?_⟩,rfl⟩
     ·simp[Instr.field,run_underlying hu,mJ,asAgg,part,eU,run_sizeOf eN,b']
     ·have:=al.sub fd.offset m;simp only[L7,L8];simpa using this
  |_=>simp only[wW,ay]at ak
def oz{t e:TypeId}{size:Nat}(h:fC P t=some (e,size)) :
  ∃i,P.underlying t=some (.slice e)/\P.info? e=some i/\i.size=size/\0<size:=by
 unfold fC at h;split at h
 ·rename_i bV hu;split at h
  ·rename_i i ai;split at h
   ·cases h
   ·injection h with h;injection h with aa ab
    subst aa;exact⟨i,hu,ai,ab,by omega⟩
  ·cases h
 ·cases h
def rV{t:TypeId}(h:hx P t=true):P.underlying t=some .string:=by
 unfold hx at h;split at h
 ·assumption
 ·cases h
def Ml{t e:TypeId}{size:Nat}(h:fC P t=some (e,size))(bT:Addr)(len cap:Nat)(k:IntKind)(m:Int)(aW:0<=m)(aa:m<len) :
  (Instr.indexAt t (.slice (some bT) len cap) (.int k m)).run P w=.ok (.pointer (some (bT.add (m.toNat*size)))) w:=by
 obtain⟨i,hu,ai,ap,_⟩:=oz h;simp[Instr.indexAt,asIntOf,run_underlying hu,aW,aa,run_sizeOf ai,ap]
def zak{xs:List (List af)}{size k:Nat}(aj:∀x∈xs,x.length=size)(am:k<xs.length):(xs.getD k []).length=size:=by rw[jQ,cn am];exact aj _ (jN am)
def zal{t:TypeId}{len size:Nat}(h:Bs P t=some (len,size)):∃e i,P.underlying t=some (.array len e)/\P.info? e=some i/\i.size=size:=by
 unfold Bs at h;split at h
 ·rename_i mK e hu;split at h
  ·rename_i i ai;injection h with h
   injection h with aa ab;subst aa
   exact⟨e,i,hu,ai,ab⟩
  ·cases h
 ·cases h
def Sb{t:TypeId}{len size:Nat}(h:Bs P t=some (len,size))(bT:Addr)(k:IntKind)(m:Int)(aW:0<=m)(aa:m<len) :
  (Instr.indexAt t (.pointer (some bT)) (.int k m)).run P w=.ok (.pointer (some (bT.add (m.toNat*size)))) w:=by
 obtain⟨e,i,hu,ai,ap⟩:=zal h;simp[Instr.indexAt,asIntOf,Instr.sureAddr,run_underlying hu,aW,aa,run_sizeOf ai,ap]
def zam{t:TypeId}{x i:Prop×ad}{v w7:Value}(aj:dM S0 w0 s a w x v)(ai:dM S0 w0 s a w i w7)(ak:(yO P t x i).1) :
  Yields P S0 w0 s a w (Instr.indexAt t v w7) (yO P t x i).2:=by
 obtain⟨p,x⟩:=x;obtain⟨q,i⟩:=i;unfold yO at ak⊢;split at ak
 ·rename_i len size i6 j off dQ k n b_ av aI;injection av with av b5;subst av;subst b5
  injection aI with aI eH;subst aI;subst eH
  obtain⟨aa,ab,aN,bD⟩:=ak;obtain rfl:=h5 (ai ab);obtain⟨b,rfl,ae⟩:=aj aa;refine⟨_,Sb b_ _ k n aN bD,⟨b,?_,ae⟩,rfl⟩;rw[ln]
 ·rename_i len size i6 cs dQ k n b_ av aI;injection av with av b5;subst av;subst b5
  injection aI with aI eH;subst aI;subst eH
  obtain⟨aa,ab,aN,bD⟩:=ak;obtain rfl:=h5 (ai ab);obtain⟨bT,rfl,cU,ap,ao⟩:=aj aa;refine⟨_,Sb b_ _ k n aN bD,⟨_,rfl,?_,by rw[block_add];exact ap,fun j c ac=>?_⟩,rfl⟩
  ·unfold Addr.add;split<;>simp[cU]
  ·rw[h3]at ac;rw[Ei];exact ao _ c ac
 ·exact ak.elim
def zan{t:TypeId}{x i:Prop×ad}(ak:(kc P s t x i).1) :
  (kc P s t x i=yO P t x i)\/∃e size k m,fC P t=some (e,size)/\i.2=.x (.one (.int k m))/\((∃z xs,x.2=.x (.one (.list z xs)))\/(∃j,x.2=.alias j)\/∃j aK len wh,x.2=.view j aK len wh):=by
 unfold kc at ak;split at ak
 ·rename_i b_;exact .inr ⟨_,_,_,_,b_,rfl,.inl ⟨_,_,rfl⟩⟩
 ·rename_i b_;exact .inr ⟨_,_,_,_,b_,rfl,.inr (.inl ⟨_,rfl⟩)⟩
 ·rename_i b_;exact .inr ⟨_,_,_,_,b_,rfl,.inr (.inr ⟨_,_,_,_,rfl⟩)⟩
 ·rename_i aa ab ar;refine .inl ?_;unfold kc;split
  ·exact absurd rfl (aa _ _ _ _ _ _ _ _ (by assumption) rfl)
  ·exact absurd rfl (ab _ _ _ _ _ _ _ (by assumption) rfl)
  ·exact absurd rfl (ar _ _ _ _ _ _ _ _ _ _ (by assumption) rfl)
  ·rfl
def zao{t:TypeId}{x i:Prop×ad}{v w7:Value}(ah:Rel S0 w0 n s a w)(aj:dM S0 w0 s a w x v)(ai:dM S0 w0 s a w i w7)(ak:(kc P s t x i).1) :
  Yields P S0 w0 s a w (Instr.indexAt t v w7) (kc P s t x i).2:=by
 rcases zan ak with he|⟨e,size,k,m,b_,H',Sc⟩
 ·rw[he]at ak⊢;exact zam aj ai ak
 obtain⟨p,x⟩:=x;obtain⟨q,i⟩:=i;dsimp only at H' Sc;subst H';rcases Sc with⟨z,xs,rfl⟩|⟨j,rfl⟩|⟨j,aK,len,wh,rfl⟩
 ·simp only[kc,b_]at ak⊢;obtain⟨aa,ab,rfl,aN,bD⟩:=ak;obtain rfl:=h5 (ai ab);have an:=aj aa;cases an with
  |kH=>simp at bD;omega
  |list bT cap size xs U ap cU ao hm jL d7 bU=>
   refine⟨_,Ml b_ bT _ cap k m aN bD,⟨_,rfl,?_,by rw[block_add];exact ap,fun j c ac=>?_⟩,rfl⟩
   ·unfold Addr.add;split<;>simp[cU]
   ·rw[Ei];have:=L2 jL ac;exact⟨_,d7 _ _ this,bU _ _ this⟩
 ·simp only[kc,b_]at ak⊢;cases mL:s j with
  |own bV z xs=>
   rw[mL]at ak;simp only at ak⊢;obtain⟨aa,ab,rfl,aN,bD⟩:=ak;obtain rfl:=h5 (ai ab);obtain⟨rfl,_⟩:=cV.wT (aj aa) mL;have ac:=ah.rep j;rw[mL]at ac;obtain⟨us,bq,al,jL,_⟩:=ac;rcases bq.2 with⟨_,aW⟩|⟨g,cap,cur,aH,_⟩
   ·omega
   ·rw[aH];refine⟨_,Ml b_ _ _ cap k m aN bD,⟨g,?_,?_⟩,rfl⟩
    ·rw[ln,mL];simp[ad.size]
    ·rw[mL];show Value.ownBlock _=_;rw[aH];rfl
  |_=>rw[mL]at ak;exact ak.elim
 ·simp only[kc,b_]at ak⊢;obtain⟨aa,ab,ar,aN,bD⟩:=ak;obtain rfl:=h5 (ai ab);obtain⟨_,hle,aH⟩:=aj aa;rcases aH with⟨_,aW⟩|⟨b,off,cap,rfl,ao,hm,am,aY,_⟩
  ·omega
  ·obtain rfl:=aY (by omega);refine⟨_,Ml b_ _ _ cap k m aN bD,⟨b,?_,am⟩,rfl⟩;rw[ln,ar,j9];simp
def zap{t:TypeId}{x i:Prop×ad}{v w7:Value}(aj:dM S0 w0 s a w x v)(ai:dM S0 w0 s a w i w7)(ak:(Bt P t x i).1) :
  Yields P S0 w0 s a w (Instr.index t v w7) (Bt P t x i).2:=by
 obtain⟨p,x⟩:=x;obtain⟨q,i⟩:=i
 match x,i,ak with
 |.x (.one (.str l)),.x (.one (.int k m)),ak=>
  obtain⟨aa,ab,ar,aN,bD⟩:=ak;obtain rfl:=h5 (ai ab);obtain⟨rfl,_⟩:=lp (aj aa);have hu:=rV ar;have aq:m.toNat<l.length:=by omega
  refine⟨_,?_,bn.int _ _,rfl⟩;have bO:(⟨l.toArray⟩:ByteArray)[m.toNat]?=some (l.getD m.toNat 0):=by
   rw[ByteArray.getElem?_lt' _ _ (by rw[HY];exact aq)];congr 1;show l.toArray[m.toNat]=_
   simp[List.getD,aq]
  simp[Instr.index,asIntOf,run_underlying hu,aN,bO]
def zaq{x:Prop×ad}{i:Nat}{v:Value}(aj:dM S0 w0 s a w x v)(ak:(wX x i).1) :
  Yields P S0 w0 s a w (Instr.extract v i) (wX x i).2:=by
 obtain⟨p,x⟩:=x
 match x,ak with
 |.b2 vs,ak=>
  simp only[wX]at ak⊢;cases aH:vs[i]? with
  |none=>rw[aH]at ak;exact ak.elim
  |some bK=>rw[aH]at ak;obtain⟨us,rfl,_,h⟩:=aj ak;obtain⟨u,hu,an⟩:=h i bK aH;exact⟨u,by simp[Instr.extract,hu],an,rfl⟩
def zar{t ty:TypeId}{x:Prop×ad}{v:Value}(ah:Rel S0 w0 n s a w)(aj:dM S0 w0 s a w x v)(ak:(lo P s t x).1) :
  Yields P S0 w0 s a w (Builtin.len_ #[t] ty #[v]) (lo P s t x).2:=by
 obtain⟨p,x⟩:=x
 match x,ak with
 |.x (.one (.str l)),ak=>obtain⟨aa,ab⟩:=ak;obtain⟨rfl,_⟩:=lp (aj aa);exact⟨_,by simp[Builtin.len_,run_underlying (rV ab),goInt,HY],bn.int _ _,rfl⟩
 |.x (.one .nil),ak=>obtain⟨aa,ab⟩:=ak;obtain rfl:=qq (aj aa);obtain⟨⟨e,z⟩,b_⟩:=tx.1 ab;obtain⟨i,hu,_⟩:=oz b_;exact⟨_,by simp[Builtin.len_,run_underlying hu,goInt],bn.int _ _,rfl⟩
 |.x (.one (.empty z)),ak=>obtain⟨aa,ab⟩:=ak;have an:=aj aa;obtain⟨⟨e,z⟩,b_⟩:=tx.1 ab;obtain⟨i,hu,_⟩:=oz b_;cases an;exact⟨_,by simp[Builtin.len_,run_underlying hu,goInt],bn.int _ _,rfl⟩
 |.x (.one (.list z xs)),ak=>
  obtain⟨aa,ab⟩:=ak;obtain⟨⟨e,h7⟩,b_⟩:=tx.1 ab;obtain⟨i,hu,_⟩:=oz b_;have an:=aj aa;have:∃b c,v=.slice b xs.length c:=by
   cases an with
   |kH b c _ _ _=>exact⟨b,c,rfl⟩
   |list bT cap=>exact⟨_,cap,rfl⟩
  obtain⟨b,c,rfl⟩:=this;exact⟨_,by simp[Builtin.len_,run_underlying hu,goInt],bn.int _ _,rfl⟩
 |.alias j,ak=>
  simp only[lo]at ak⊢;cases mL:s j with
  |own bV z xs=>
   rw[mL]at ak;obtain⟨aa,ab⟩:=ak;obtain⟨⟨e,h7⟩,b_⟩:=tx.1 ab;obtain⟨i,hu,_⟩:=oz b_;obtain⟨rfl,_⟩:=cV.wT (aj aa) mL;have ac:=ah.rep j;rw[mL]at ac;obtain⟨us,bq,_⟩:=ac;have:∃b c,aJ a j=.slice b xs.length c:=by
    rcases bq.2 with⟨h,aW⟩|⟨g,cap,cur,aH,_⟩
    ·exact⟨none,0,by rw[h,aW]⟩
    ·exact⟨_,cap,aH⟩
   obtain⟨b,c,aH⟩:=this;rw[aH];exact⟨_,by simp[Builtin.len_,run_underlying hu,goInt],bn.int _ _,rfl⟩
  |mp c bs es=>
   rw[mL]at ak;obtain⟨aa,ab⟩:=ak;obtain⟨⟨bv,e⟩,b_⟩:=tx.1 ab;obtain⟨eC,hu,_⟩:=H3 b_;obtain⟨rfl,_⟩:=cV.HW (aj aa) mL;have ac:=ah.rep j;rw[mL]at ac;obtain⟨b,ents,aH,a1,_,he⟩:=ac;rw[aH];have al:ents.size=es.length:=by have:=he.1;simpa using this
   exact⟨_,by simp[Builtin.len_,run_underlying hu,goInt,Go.MapKept.run_getObj_map a1,Result.andThen,al],bn.int _ _,rfl⟩
  |_=>rw[mL]at ak;exact ak.elim
 |.view i aK len wh,ak=>
  obtain⟨aa,ab⟩:=ak;obtain⟨⟨e,h7⟩,b_⟩:=tx.1 ab;obtain⟨j,hu,_⟩:=oz b_;obtain⟨_,hle,aH⟩:=aj aa;have:∃b c,v=.slice b len c:=by
   rcases aH with⟨h,aW⟩|⟨b,off,cap,rfl,_⟩
   ·exact⟨none,0,by rw[h,aW]⟩
   ·exact⟨_,cap,rfl⟩
  obtain⟨b,c,aH⟩:=this;rw[aH];exact⟨_,by simp[Builtin.len_,run_underlying hu,goInt],bn.int _ _,rfl⟩
def zas{t ty:TypeId}{x:Prop×ad}{v:Value}(aj:dM S0 w0 s a w x v)(ak:(Em P t x).1) :
  Yields P S0 w0 s a w (Builtin.cap_ #[t] ty #[v]) (Em P t x).2:=by
 unfold Em at ak⊢;split at ak
 ·obtain⟨aa,ab⟩:=ak;obtain rfl:=qq (aj aa);obtain⟨⟨e,z⟩,b_⟩:=tx.1 ab;obtain⟨i,hu,_⟩:=oz b_;exact⟨_,by simp[Builtin.cap_,run_underlying hu,goInt],bn.int _ _,rfl⟩
 ·exact ak.elim
def Sd{t:TypeId}{bv:eQ}{e:TypeId}{b c:Nat}{ents:Array MapEntry}{bs:List Nat}{es:List (az×az)}{bX:az}{jO:Value}{ok:Bool}{r:Option Nat}{z:az}
  (b_:mE P t=some (bv,e))(a1:w.heap[b]?=some (.map ents c))(he:ql w (bR S0 w0.heap.size w s (aJ a)) bs es ents.toList)(am:cg w (bR S0 w0.heap.size w s (aJ a)) bX jO)(ar:fU bv bX=true)
  (ay:er bv bX es 0=some r)(aY:ea P e=some z):Yields P S0 w0 s a w (Instr.lookup t (.map (some b)) jO ok) (rM es z ok r):=by
 obtain⟨eC,hu,EE⟩:=H3 b_;obtain⟨Ia,qu,zat⟩:=Z7 (P:=P) (w:=w) (S:=bR S0 w0.heap.size w s (aJ a)) aY;obtain⟨u,cx,eZ⟩:=Z8 (P:=P) ok hu EE a1 he am ar ay qu;have bU:cg w (bR S0 w0.heap.size w s (aJ a)) (match r with|some j=>((es[j]?).getD (z,z)).2|none=>z) u:=by
  cases r with
  |none=>simp only at eZ;subst eZ;exact zat
  |some j=>obtain⟨x,zau,Mm⟩:=eZ;simp only[zau,rW];exact Mm
 refine⟨_,cx,?_,?_⟩
 ·cases ok with
  |false=>cases r<;>exact bU
  |true=>
   cases r with
   |none=>exact⟨#[u,.bool false],rfl,rfl,fun j y ac=>by
     match j,ac with
     |0,ac=>simp at ac;subst ac;exact⟨u,rfl,bU⟩
     |1,ac=>simp at ac;subst ac;exact⟨_,rfl,bn.bool _⟩
     |j+2,ac=>simp at ac⟩
   |some m=>exact⟨#[u,.bool true],rfl,rfl,fun j y ac=>by
     match j,ac with
     |0,ac=>simp at ac;subst ac;exact⟨u,rfl,bU⟩
     |1,ac=>simp at ac;subst ac;exact⟨_,rfl,bn.bool _⟩
     |j+2,ac=>simp at ac⟩
 ·cases ok<;>cases r<;>rfl
def zav{t:TypeId}{x k:Prop×ad}{v jO:Value}{ok:Bool}(ah:Rel S0 w0 n s a w)(aj:dM S0 w0 s a w x v)(am:dM S0 w0 s a w k jO)(ak:(rN P s t x k ok).1) :
  Yields P S0 w0 s a w (Instr.lookup t v jO ok) (rN P s t x k ok).2:=by
 obtain⟨p,x⟩:=x;obtain⟨q,k⟩:=k;unfold rN at ak⊢;split at ak
 ·rename_i bv e i6 i dQ bX b_ av aI;injection av with pt pu;subst pt;subst pu
  injection aI with nz nA;subst nz;subst nA
  split at ak
  ·rename_i c bs es ap;split at ak
   ·rename_i r z ay aY;obtain⟨aa,ab,ar⟩:=ak;obtain⟨rfl,_⟩:=cV.HW (aj aa) ap;have ac:=ah.rep i;rw[ap]at ac;obtain⟨b,ents,aH,a1,_,he⟩:=ac;rw[aH];exact Sd b_ a1 he (am ab) ar ay aY
   ·exact ak.elim
  ·exact ak.elim
 ·rename_i bv e i6 fi fj aU vs dQ bX b_ av aI;injection av with pt pu;subst pt;subst pu
  injection aI with nz nA;subst nz;subst nA
  split at ak
  ·rename_i r z ay aY;obtain⟨aa,ab,ar⟩:=ak;obtain⟨b,c,ents,bs,rfl,_,a1,he⟩:=Z5 (aj aa);exact Sd b_ a1 he (am ab) ar ay aY
  ·exact ak.elim
 ·exact ak.elim
def zaw{ts:Array TypeId}{ty:TypeId}{x y:Prop×ad}{u v:Value}(aj:dM S0 w0 s a w x u)(aS:dM S0 w0 s a w y v)(ak:(Bu x y).1) :
  Yields P S0 w0 s a w (Builtin.max_ ts ty #[u,v]) (Bu x y).2:=by
 obtain⟨p,x⟩:=x;obtain⟨q,y⟩:=y
 match x,y,ak with
 |.x (.one (.int k m)),.x (.one (.int bu hz)),ak=>
  obtain rfl:=h5 (aj ak.1);obtain rfl:=h5 (aS ak.2);refine⟨.int k (max m hz),?_,bn.int _ _,rfl⟩;have:(if hz > m then hz else m)=max m hz:=by split<;>omega
  simp[Builtin.max_,Builtin.max2];simpa using this
def zax{ts:Array TypeId}{ty:TypeId}{x y:Prop×ad}{u v:Value}(aj:dM S0 w0 s a w x u)(aS:dM S0 w0 s a w y v)(ak:(yP x y).1) :
  Yields P S0 w0 s a w (Builtin.min_ ts ty #[u,v]) (yP x y).2:=by
 obtain⟨p,x⟩:=x;obtain⟨q,y⟩:=y
 match x,y,ak with
 |.x (.one (.int k m)),.x (.one (.int bu hz)),ak=>
  obtain rfl:=h5 (aj ak.1);obtain rfl:=h5 (aS ak.2);refine⟨.int k (min m hz),?_,bn.int _ _,rfl⟩;have:(if hz<m then hz else m)=min m hz:=by split<;>omega
  simp[Builtin.min_,Builtin.min2];simpa using this
def zay{op:UnOp}{x:Prop×ad}{v:Value}(aj:dM S0 w0 s a w x v)(ak:(Bv op x).1):Yields P S0 w0 s a w (Op.unary op v) (Bv op x).2:=by
 obtain⟨p,x⟩:=x
 match op,x,ak with
 |.not,.x (.one (.bool b)),ak=>obtain rfl:=ny (aj ak);exact⟨_,rfl,bn.bool _,rfl⟩
 |.neg,.x (.one (.int k m)),ak=>obtain rfl:=h5 (aj ak);exact⟨_,rfl,bn.int _ _,rfl⟩
def zaz{t:TypeId}(h:wY P t=true):∃e,P.underlying t=some (.slice e)/\P.underlying e=some (.int .u8):=by
 unfold wY at h;split at h
 ·rename_i e aa;exact⟨e,aa,(H9 h).1⟩
 ·cases h
def zaA(ah:Rel S0 w0 n s a w){src dst:TypeId}{p:Prop}{x:ad}{v:Value}{xs:List (List af)}(aj:dM S0 w0 s a w (p,x) v)(ak:p)(aT:hy s 1 x=some xs)(aa:wY P src=true)(ab:hx P dst=true)(ar:okB xs) :
  Yields P S0 w0 s a w (convert src dst v) (.x (.one (.str (ox xs)))):=by
 obtain⟨b,c,us,rfl,hM,al,fD,hm,gN⟩:=Mj ah aj ak aT;obtain⟨e,ap,he⟩:=zaz aa;obtain⟨mI,av,aI⟩:=zah ar;have hlen:(ox xs).length<=maxLen:=by simpa[ox]using hm
 have rX:strOfNums mI=(⟨(ox xs).toArray⟩:ByteArray):=by rw[aI];rfl
 have lr:us=mI.map (Value.int .u8):=by
  have eh:xs.flatten=mI.map fun n=>af.int .u8 n:=by
   rw[av];clear av aI rX hlen al hm fD ar aT;induction mI with
   |nil=>rfl
   |cons n r aX=>simp[aX]
  rw[eh]at al;apply tz;intro j;rcases kJ j mI.length with ac|ac
  ·obtain⟨u,hu,an⟩:=al.2 j (.int .u8 mI[j]) (by simp[ac]);cases an;rw[hu];simp[ac]
  ·rw[lX (by rw[al.1];simpa using ac),lX (by simpa using ac)]
 have kh:xs.length=mI.length:=by rw[av];simp
 cases b with
 |none=>
  have aW:=hM rfl;have:mI=[]:=ld (by omega);subst this;refine⟨_,run_convert_bytes_nil w src e ap he xs.length c dst (rV ab),?_,rfl⟩;have:(ByteArray.empty:ByteArray)=⟨(ox xs).toArray⟩:=by rw[aI];rfl
  rw[this];exact bn.str _ hlen
 |some bT=>
  have du:=run_loadCells_list (P:=P) w bT (mI.map (Value.int .u8)) (fun j v ac=>gN bT rfl j v (by rw[lr];exact ac));refine⟨_,?_,bn.str _ hlen,rfl⟩;rw[run_convert_bytes_string w src dst e (some bT) xs.length c ap he (rV ab)];have ar:(loadCells bT xs.length).run P w=.ok (mI.map (Value.int .u8)).toArray w:=by simpa[kh]using du
  rw[run_bytesToString w bT xs.length c mI ar,foldl_push_bytes];congr 2;rw[<-rX];simp[strOfNums,ByteArray.empty,ByteArray.emptyWithCapacity];rfl
def zaB(ah:Rel S0 w0 n s a w){src dst:TypeId}{x:Prop×ad}{v:Value}(aj:dM S0 w0 s a w x v)(ak:(mF P s src dst x).1):Yields P S0 w0 s a w (convert src dst v) (mF P s src dst x).2:=by
 obtain⟨p,x⟩:=x;unfold mF at ak⊢;split at ak
 ·rename_i i6 k m e;injection e with av aI
  subst av;subst aI;cases ax:ov P dst with
  |none=>
   rw[ax]at ak;obtain⟨aa,ab,ar,aN,bD⟩:=ak;obtain rfl:=h5 (aj aa);obtain⟨ty,oy⟩:=tx.1 ab;have hu:=rV ar;refine⟨_,?_,bn.str [UInt8.ofNat m.toNat] (show 1<=maxLen by decide),rfl⟩;have aH:Utf8.encode m=⟨([UInt8.ofNat m.toNat]:List UInt8).toArray⟩:=by
    have b9:Utf8.valid m=true:=by simp[Utf8.valid];omega
    have dw:m.toNat<128:=by omega
    simp[Utf8.encode,b9,dw]
   simp[convert,run_underlying oy,run_underlying hu,Conv.intToString,aH]
  |some bu=>
   rw[ax]at ak;obtain⟨aa,ab⟩:=ak;obtain rfl:=h5 (aj aa);obtain⟨ty,oy⟩:=tx.1 ab;have hu:P.underlying dst=some (.int bu):=by
    unfold ov at ax;split at ax
    ·injection ax with ax;subst ax;assumption
    ·cases ax
   refine⟨_,?_,bn.int _ _,rfl⟩;simp[convert,run_underlying oy,run_underlying hu,Conv.intToInt]
 ·rename_i i6 l e;injection e with av aI
  subst av;subst aI;obtain⟨aa,ab,ar⟩:=ak;have an:=aj aa;obtain⟨rfl,_⟩:=lp an;exact⟨_,by simp[convert,run_underlying (rV ab),run_underlying (rV ar)],an,rfl⟩
 ·rename_i i6 cz aa ab e;injection e with av aI
  subst av;subst aI;cases aT:hy s 1 x with
  |none=>rw[aT]at ak;exact ak.elim
  |some xs=>rw[aT]at ak;exact zaA ah aj ak.1 aT ak.2.1 ak.2.2.1 ak.2.2.2
end
end Go.Ab
