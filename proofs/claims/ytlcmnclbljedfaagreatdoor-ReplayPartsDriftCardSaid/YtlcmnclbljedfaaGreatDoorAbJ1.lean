/- A part of the proof: lemmas and contracts of functions. -/
import Derived.WalkKit
import Derived.Maps.AppendAt
import Derived.Lib.AppendStr
import Derived.Laws.IdiomStrings
import Derived.Laws.BytesArg
import Derived.WalkSpells
import Derived.WalkLawsBesides
import Derived.MapKept
import Derived.WideKeyRuns
set_option linter.all false
namespace Go
open Go.Lib
def zli(fz:Nat×Nat)(n:Nat):Prop:=fz=(0,0)∨n≤fz.1
def World.zdS(w:World)(base:Nat)(e:TypeId)(size:Nat)(v:Value)(n:Nat)(xs:List Value):Prop:=
 xs.length=n*size ∧
 ((v=.slice none 0 0∧n=0) ∨
  ∃g cap cur,v=.slice (some ⟨g,0,none⟩) n cap∧base≤g∧(∃fz,w.heap[g]?=some (.cells cur e fz)∧zli fz cur.size)∧n≤cap∧cap≤maxLen∧cur.size=cap*size∧cur.toList.take (n*size)=xs)
section
variable {P:Program}{w:World}{base:Nat}{e:TypeId}{size:Nat}{v:Value}{n:Nat}{xs:List Value}
theorem World.zsC(h:w.ownsRow base e size v n xs):w.zdS base e size v n xs:=by
 refine⟨h.1,?_⟩
 rcases h.2 with hn | ⟨g,cap,cur,hv,hb,hg,rest⟩
 ·exact .inl hn
 ·exact .inr ⟨g,cap,cur,hv,hb,⟨(0,0),hg,.inl rfl⟩,rest⟩
theorem World.zfk(w:World)(base:Nat)(e:TypeId)(size:Nat):w.zdS base e size (.slice none 0 0) 0 []:=⟨by simp,.inl ⟨rfl,rfl⟩⟩
theorem World.zdS.lt(h:w.zdS base e size v n xs):∀k,v.ownBlock=some k→base≤k∧k<w.heap.size:=by
 intro k hk
 rcases h.2 with⟨rfl,_⟩ | ⟨g,cap,cur,rfl,hb,⟨fz,hg,_⟩,_⟩
 ·simp[Value.ownBlock] at hk
 ·simp[Value.ownBlock] at hk
  subst hk
  exact⟨hb,(Array.getElem?_eq_some_iff.1 hg).1⟩
theorem World.zdS.cells(h:w.zdS base e size v n xs){g:Nat}(hg:v.ownBlock=some g):∀j u,xs[j]?=some u→w.cell? ((⟨g,0,none⟩:Addr).add j)=some u:=by
 intro j u hu
 rcases h.2 with⟨rfl,_⟩ | ⟨g',cap,cur,rfl,_,⟨fz,hgg,_⟩,_,_,_,htake⟩
 ·simp[Value.ownBlock] at hg
 ·simp[Value.ownBlock] at hg
  subst hg
  have hadd:(⟨g',0,none⟩:Addr).add j=⟨g',j,none⟩:=by unfold Addr.add;split<;>simp_all
  rw[hadd,cell_of_row w g' j cur e fz hgg]
  rw[←htake,List.getElem?_take] at hu
  split at hu
  ·simpa using hu
  ·cases hu
theorem zbG(P:Program)(g o:Nat)(t:TypeId)(fz:Nat×Nat):∀(vs:List Value) (i:Nat) (cur:Array Value) (w:World),w.heap[g]?=some (.cells cur t fz)→zli fz cur.size→o+i+vs.length≤cur.size→(∀v∈vs,v.oneCell'=true) →
  (storeCells ⟨g,o,none⟩ vs i).run P w=.ok () (w.setRow g (cur.toList.take (o+i)++vs++cur.toList.drop (o+i+vs.length)).toArray)
 |[],i,cur,w,hg,_,_,_=>by
  simp only[storeCells,List.append_nil,List.length_nil,Nat.add_zero,List.take_append_drop,Array.toArray_toList]
  rw[setRow_self w g cur t fz hg]
  rfl
 |v::rest,i,cur,w,hg,hz,hl,h1=>by
  have hi:o+i<cur.size:=by simp at hl;omega
  have hadd:(⟨g,o,none⟩:Addr).add i=⟨g,o+i,none⟩:=by unfold Addr.add;split<;>simp_all
  have hcell:w.cell? ⟨g,o+i,none⟩=some cur[o+i]:=by simp[World.cell?,hg,hi]
  have hfro:w.frozen? ⟨g,o+i,none⟩=false:=by
   rcases hz with rfl | hz
   ·simp[World.frozen?,hg]
   ·obtain⟨lo,hi'⟩:=fz
    simp[World.frozen?,hg]
    intro h;dsimp only at hz;omega
  have hst:(store ((⟨g,o,none⟩:Addr).add i) v).run P w=.ok () (w.setRow g (cur.setIfInBounds (o+i) v)):=by
   rw[hadd,run_store P w _ v _ (h1 v (by simp)),hcell]
   simp[hfro,setCell_eq_setRow w g (o+i) cur t fz v hg]
  have ih:=zbG P g o t fz rest (i+1) (cur.setIfInBounds (o+i) v) (w.setRow g (cur.setIfInBounds (o+i) v)) (setRow_heap w g cur _ t _ hg) (by simpa using hz) (by simp at hl ⊢;omega) (fun x hx=>h1 x (by simp[hx]))
  simp only[storeCells,Sem.run_bind,hst,Result.andThen_ok]
  rw[ih,setRow_setRow]
  congr 3
  have e:=list_seg_step cur.toList (o+i) v rest (by simp at hl ⊢;omega)
  simpa[Array.toList_setIfInBounds,Nat.add_assoc] using e
end
section
variable {P:Program}(w:World)
theorem zr3{z:Value}{size:Nat}(e:TypeId)(base n m old:Nat)(xs news:List Value)(hzs:z.cells.size=size)(hx:xs.length=n*size)(hl:news.length=m*size)(h63:n+m≤maxLen)(hbase:base≤w.heap.size)(row:Option Nat) :
  (w.drew.alloc (.cells (xs.toArray++news.toArray++Builtin.zeroCells z.cells (grownCap w (n+m) old e-(n+m))) e)).zdS base e size
   (.slice (some ⟨w.heap.size,0,none⟩) (n+m) (grownCap w (n+m) old e)) (n+m) (xs++news) ∧
  w.grownBy (w.drew.alloc (.cells (xs.toArray++news.toArray++Builtin.zeroCells z.cells (grownCap w (n+m) old e-(n+m))) e)) row:=by
 have hlen:(xs++news).length=(n+m)*size:=by rw[List.length_append,hx,hl,Nat.add_mul]
 have hge:=grownCap_ge w (n+m) old e
 have hcm:grownCap w (n+m) old e≤maxLen:=grownCap_le_maxLen w (n+m) old e h63
 refine⟨⟨hlen,.inr ⟨w.heap.size,_,_,rfl,hbase,⟨_,Go.heap_alloc_new w.drew _,.inl rfl⟩,hge,hcm,?_,?_⟩⟩,⟨rfl,rfl,rfl,by simp,fun k hk _=>Go.heap_alloc_old w.drew _ hk⟩⟩
 ·simp only[Array.size_append,List.size_toArray,size_zeroCells,hzs,hx,hl,←Nat.add_mul]
  congr 1
  omega
 ·simp only[Array.toList_append,List.append_assoc]
  rw[←List.append_assoc,←hlen]
  exact List.take_left
theorem zkt(base:Nat)(t ty e:TypeId)(i:TypeInfo)(z:Value)(size bytes:Nat)(ht:P.underlying t=some (.slice e))(hi:P.info? e=some i)(hz:i.zero=some z)
  (hsize:i.size=size)(hby:i.bytes=bytes)(hzs:z.cells.size=size)(hsz:0<size)
  (v:Value)(n:Nat)(xs:List Value)(hown:w.zdS base e size v n xs)
  (a:Addr)(m c:Nat)(news:List Value)(hl:news.length=m*size)(hnews:∀j u,news[j]?=some u→w.cell? (a.add j)=some u)(h1:∀u∈news,u.oneCell'=true)
  (h63:n+m≤maxLen)(hbytes:(n+m)*bytes≤140737488355328)(hbase:base≤w.heap.size) :
  ∃v' w',(Builtin.append_ #[t,t] ty #[v,.slice (some a) m c]).run P w=.ok v' w'∧w'.zdS base e size v' (n+m) (xs++news)∧w.grownBy w' v.ownBlock∧(v'.ownBlock=v.ownBlock∨v'.ownBlock=some w.heap.size):=by
 have plain:w.ownsRow base e size v n xs→_:=fun h=>run_append_own_at (P:=P) w base t ty e i z size bytes ht hi hz hsize hby hzs hsz v n xs h a m c news hl hnews h1 h63 hbytes hbase
 rcases hown.2 with hn | ⟨g,cap,cur,rfl,hbg,⟨fz,hg,hfz⟩,hnc,hcm,hcs,htake⟩
 ·obtain⟨v',w',h1,h2,h3,_,h5⟩:=plain ⟨hown.1,.inl hn⟩
  exact⟨v',w',h1,World.zsC h2,h3,h5⟩
 by_cases hfz0:fz=(0,0)
 ·subst hfz0
  obtain⟨v',w',h1,h2,h3,_,h5⟩:=plain ⟨hown.1,.inr ⟨g,cap,cur,rfl,hbg,hg,hnc,hcm,hcs,htake⟩⟩
  exact⟨v',w',h1,World.zsC h2,h3,h5⟩
 subst hsize
 subst hby
 have hlen:(xs++news).length=(n+m)*i.size:=by rw[List.length_append,hown.1,hl,Nat.add_mul]
 by_cases hroom:n+m≤cap
 ·have hfit:n*i.size+news.length≤cur.size:=by rw[hl,hcs,←Nat.add_mul];exact Nat.mul_le_mul_right _ hroom
  have hf:=run_firstCells_some (P:=P) w i.size m a m c news hl hnews
  have hst:=zbG P g (n*i.size) e fz news 0 cur w hg hfz (by simpa using hfit) h1
  simp only[Nat.add_zero] at hst
  refine⟨.slice (some ⟨g,0,none⟩) (n+m) cap,w.setRow g (cur.toList.take (n*i.size)++news++cur.toList.drop (n*i.size+news.length)).toArray,?_,⟨hlen,.inr ⟨g,cap,_,rfl,hbg,⟨fz,setRow_heap w g cur _ e _ hg,?_⟩,hroom,hcm,?_,?_⟩⟩,⟨rfl,rfl,rfl,by simp,fun k _ hk=>setRow_other w g k _ (fun e=>hk (by simp[Value.ownBlock,e]))⟩,Or.inl rfl⟩
  ·simp[Builtin.append_,run_underlying ht,sizeOf,typeInfo,hi,Builtin.lenOf,hroom,hf,Addr.add_lit,hst]
  ·have:(cur.toList.take (n*i.size)++news++cur.toList.drop (n*i.size+news.length)).toArray.size=cur.size:=by
    simp only[List.size_toArray,List.length_append,List.length_take,List.length_drop,Array.length_toList];omega
   rw[this];exact hfz
  ·simp only[List.size_toArray,List.length_append,List.length_take,List.length_drop,Array.length_toList]
   omega
  ·rw[htake,←hlen]
   exact List.take_left
 ·have holds:∀j u,xs[j]?=some u→w.cell? ((⟨g,0,none⟩:Addr).add j)=some u:=hown.cells (g:=g) rfl
  have hr:=run_append_grow (P:=P) w t ty e i z ht hi hz ⟨g,0,none⟩ n cap xs hown.1 holds a m c news hl hnews (by omega) (by simp only[maxLen] at h63;omega) (growslice_fits (by omega) hbytes)
  have hgr:=zr3 w e base n m cap xs news hzs hown.1 hl h63 hbase (Value.ownBlock (.slice (some ⟨g,0,none⟩) n cap))
  exact⟨_,_,hr,hgr.1,hgr.2,Or.inr rfl⟩
theorem zde(base:Nat)(t u ty e:TypeId)(i:TypeInfo)(ht:P.underlying t=some (.slice e))(hu:P.underlying u=some .string)(hi:P.info? e=some i)(hz:i.zero=some (.int .u8 0))
  (hsize:i.size=1)(hby:i.bytes=1)
  (v:Value)(n:Nat)(xs:List Value)(hown:w.zdS base e 1 v n xs)(s:ByteArray)
  (h63:n+s.size≤maxLen)(hbytes:n+s.size≤140737488355328)(hbase:base≤w.heap.size) :
  ∃v' w',(Builtin.append_ #[t,u] ty #[v,.string s]).run P w=.ok v' w'∧w'.zdS base e 1 v' (n+s.size) (xs++strCells s)∧w.grownBy w' v.ownBlock∧(v'.ownBlock=v.ownBlock∨v'.ownBlock=some w.heap.size):=by
 have hsmall:n+s.size≤9223372036854775807:=by simp only[maxLen] at h63;omega
 have hxl:xs.length=n:=by simpa using hown.1
 have hlen:(xs++strCells s).length=(n+s.size)*1:=by rw[List.length_append,hxl,strCells_length,Nat.mul_one]
 rcases hown.2 with⟨rfl,rfl⟩ | ⟨g,cap,cur,rfl,hbg,⟨fz,hg,hfz⟩,hnc,hcm,hcs,htake⟩
 ·have hx:xs=[]:=List.eq_nil_of_length_eq_zero hxl
  subst hx
  by_cases hm:s.size=0
  ·have hn:strCells s=[]:=List.eq_nil_of_length_eq_zero (by rw[strCells_length];exact hm)
   refine⟨.slice none 0 0,w,?_,by rw[hm,hn];exact World.zfk w base e 1,⟨rfl,rfl,rfl,Nat.le_refl _,fun _ _ _=>rfl⟩,.inl rfl⟩
   have hf:=run_firstCells_string (P:=P) w 1 s
   rw[hm] at hf
   simp[Builtin.append_,run_underlying ht,run_underlying hu,sizeOf,typeInfo,hi,hsize,Builtin.lenOf,hm,hf]
  ·have hr:=run_append_nil_string (P:=P) w t u ty e i (.int .u8 0) ht hu hi hz s (by omega) (by omega) (by rw[hby];omega)
   have hgr:=zr3 w e base 0 s.size 0 [] (strCells s) (z:=.int .u8 0) (size:=1) rfl rfl (by rw[strCells_length,Nat.mul_one]) h63 hbase (Value.ownBlock (.slice none 0 0))
   simp only[Nat.zero_add,List.nil_append,Array.empty_append] at hgr ⊢
   have e1:(s.data.map fun b=>Value.int .u8 b.toNat)=(strCells s).toArray:=by
    apply Array.ext'
    simp[strCells]
   rw[e1] at hr
   exact⟨_,_,hr,hgr.1,hgr.2,.inr rfl⟩
 ·by_cases hroom:n+s.size≤cap
  ·have hcs':cur.size=cap:=by simpa using hcs
   have hf:=run_firstCells_string (P:=P) w 1 s
   have h1:∀u∈strCells s,u.oneCell'=true:=by
    intro u hu
    simp only[strCells,List.mem_map] at hu
    obtain⟨b,_,rfl⟩:=hu;rfl
   have hst:=zbG P g n e fz (strCells s) 0 cur w hg hfz (by rw[strCells_length];omega) h1
   simp only[Nat.add_zero] at hst
   refine⟨.slice (some ⟨g,0,none⟩) (n+s.size) cap,w.setRow g (cur.toList.take n++strCells s++cur.toList.drop (n+(strCells s).length)).toArray,?_,⟨hlen,.inr ⟨g,cap,_,rfl,hbg,⟨fz,setRow_heap w g cur _ e _ hg,?_⟩,hroom,hcm,?_,?_⟩⟩,⟨rfl,rfl,rfl,by simp,fun k _ hk=>setRow_other w g k _ (fun e=>hk (by simp[Value.ownBlock,e]))⟩,Or.inl rfl⟩
   ·simp[Builtin.append_,run_underlying ht,run_underlying hu,sizeOf,typeInfo,hi,hsize,Builtin.lenOf,hroom,hf,Addr.add_lit,hst]
   ·have:(cur.toList.take n++strCells s++cur.toList.drop (n+(strCells s).length)).toArray.size=cur.size:=by
     simp only[List.size_toArray,List.length_append,List.length_take,List.length_drop,Array.length_toList,strCells_length];omega
    rw[this];exact hfz
   ·simp only[List.size_toArray,List.length_append,List.length_take,List.length_drop,Array.length_toList,strCells_length]
    omega
   ·have ht':cur.toList.take n=xs:=by simpa using htake
    rw[ht',←hlen]
    exact List.take_left
  ·have holds:∀j u,xs[j]?=some u→w.cell? ((⟨g,0,none⟩:Addr).add j)=some u:=hown.cells (g:=g) rfl
   have hr:=run_append_grow_string (P:=P) w t u ty e i (.int .u8 0) ht hu hi hz ⟨g,0,none⟩ n cap xs (by rw[hsize];simpa using hxl) holds s (by omega) (by omega) (by rw[hby];exact growslice_fits (by omega) (by omega))
   have hgr:=zr3 w e base n s.size cap xs (strCells s) (z:=.int .u8 0) (size:=1) rfl (by simpa using hxl) (by rw[strCells_length,Nat.mul_one]) h63 hbase (Value.ownBlock (.slice (some ⟨g,0,none⟩) n cap))
   exact⟨_,_,hr,hgr.1,hgr.2,.inr rfl⟩
theorem zgn(base:Nat)(src dst e:TypeId)(s:ByteArray)(hs:P.underlying src=some .string)(hd:P.underlying dst=some (.slice e))(he:P.underlying e=some (.int .u8))(h63:s.size≤maxLen)(hbase:base≤w.heap.size)(row:Option Nat) :
  ∃v' w',(convert src dst (.string s)).run P w=.ok v' w'∧w'.zdS base e 1 v' s.size (strCells s)∧w.grownBy w' row∧v'.ownBlock=some w.heap.size:=by
 have hr:=run_bytes_of_string (P:=P) w src dst e s hs hd he
 have hge:=grownCap_ge w s.size 0 e
 have hcm:grownCap w s.size 0 e≤maxLen:=grownCap_le_maxLen w s.size 0 e h63
 have hsz:(bytesRow s (grownCap w s.size 0 e)).size=grownCap w s.size 0 e:=by
  simp only[bytesRow,Array.size_append,Array.size_map,Array.size_replicate]
  have:s.data.size=s.size:=rfl
  omega
 refine⟨_,_,hr,⟨by rw[strCells_length,Nat.mul_one],.inr ⟨w.heap.size,_,_,rfl,hbase,⟨_,Go.heap_alloc_new w.drew _,.inr ?_⟩,hge,hcm,by rw[hsz,Nat.mul_one],?_⟩⟩,⟨rfl,rfl,rfl,by simp,fun k hk _=>Go.heap_alloc_old w.drew _ hk⟩,rfl⟩
 ·exact Nat.le_refl _
 ·simp only[bytesRow,Array.toList_append,Nat.mul_one,strCells]
  have e1:(s.data.map fun b=>Value.int .u8 b.toNat).toList=s.data.toList.map fun b=>Value.int .u8 b.toNat:=by simp
  rw[e1]
  have hl:(s.data.toList.map fun b=>Value.int .u8 b.toNat).length=s.size:=by simp
  rw[←hl]
  exact List.take_left
end
end Go
namespace Go.Ab
open Go Go.RowKit
inductive CV where
 |bool (b:Bool)
 |int (k:IntKind) (n:Int)
 |str (l:List UInt8)
 |nil
 |empty (size:Nat)
 |list (size:Nat) (xs:List (List CV))
 |atom (v:Value)
 |clo (f:FuncId) (caps:List CV)
 |ref (cs:List CV)
 |any
 |mapv (ka va:Bool) (ks vs:List (List CV))
inductive XV where
 |one (c:CV)
 |agg (cs:List CV)
inductive AV where
 |dead
 |x (v:XV)
 |tup (vs:List XV)
 |box (cs:List CV)
 |ptr (s off:Nat)
 |eptr (s i off:Nat)
 |elem (cs:List CV)
 |own (e size:Nat) (xs:List (List CV))
 |alias (s:Nat)
 |mp (c:Nat) (bs:List Nat) (es:List (XV×XV))
 |view (s lo len:Nat) (whole:Bool)
 |cloR (f:FuncId) (caps:List (CV ⊕ (Nat×Nat)))
 |cond (e:Bool) (v:AV)
 |link (s off d:Nat)
 |res (l:List (Nat×Nat))
 |ptr2 (s off:Nat)
 |gbox (b:Nat) (cs:List CV)
 |gown (v:Value) (e size:Nat) (xs:List (List CV))
 |gmap (b c:Nat) (bs:List Nat) (es:List (XV×XV))
abbrev St:=Nat→AV
def zBH(a:Bool)(us:List Value)(v:Value):Prop:=match a with
 |true=>v=.agg us.toArray
 |false=>us=[v]
inductive zaH (w:World) (S:Nat→Prop):CV→Value→Prop where
 |bool (b:Bool):zaH w S (.bool b) (.bool b)
 |int (k:IntKind) (n:Int):zaH w S (.int k n) (.int k n)
 |str (l:List UInt8) (h:l.length≤maxLen):zaH w S (.str l) (.string ⟨l.toArray⟩)
 |nil:zaH w S .nil (.slice none 0 0)
 |empty (a:Addr) (cap size:Nat) (h:cap≤maxLen):zaH w S (.empty size) (.slice (some a) 0 cap)
 |list0 (a:Option Addr) (cap size:Nat) (h:cap≤maxLen) (hn:a=none→cap=0):zaH w S (.list size []) (.slice a 0 cap)
 |list (ad:Addr) (cap size:Nat) (xs:List (List CV)) (U:Nat→Value) (hs:S ad.block) (hsp:ad.spot=none) (hc:xs.length≤cap) (hm:cap≤maxLen)
   (hx:∀x∈xs,x.length=size)(hU:∀(j:Nat) (c:CV),xs.flatten[j]?=some c→w.cell? (ad.add j)=some (U j))
   (hr:∀(j:Nat) (c:CV),xs.flatten[j]?=some c→zaH w S c (U j)):zaH w S (.list size xs) (.slice (some ad) xs.length cap)
 |atom (v:Value) (h:v.oneCell'=true):zaH w S (.atom v) v
 |clo (f:FuncId) (caps:List CV) (U:Nat→Value) (h:∀(j:Nat) (c:CV),caps[j]?=some c→zaH w S c (U j)):zaH w S (.clo f caps) (.func (.func f) #[] ((List.range caps.length).map U).toArray)
 |ref (ad:Addr) (cs:List CV) (U:Nat→Value) (hs:S ad.block) (hsp:ad.spot=none) (hU:∀(j:Nat) (c:CV),cs[j]?=some c→w.cell? (ad.add j)=some (U j))
   (hr:∀(j:Nat) (c:CV),cs[j]?=some c→zaH w S c (U j)):zaH w S (.ref cs) (.pointer (some ad))
 |any (v:Value) (h:v.oneCell'=true):zaH w S .any v
 |mapv (b c:Nat) (ents:Array MapEntry) (ka va:Bool) (ks vs:List (List CV)) (U V:Nat→Nat→Value) (hs:S b) (hh:w.heap[b]?=some (.map ents c)) (hn:ents.size=ks.length) (hm:vs.length=ks.length)
   (hk:∀(j:Nat) (k:List CV),ks[j]?=some k→∃e,ents.toList[j]?=some e∧zBH ka ((List.range k.length).map (U j)) e.key)
   (hv:∀(j:Nat) (x:List CV),vs[j]?=some x→∃e,ents.toList[j]?=some e∧zBH va ((List.range x.length).map (V j)) e.val)
   (hkr:∀(j:Nat) (k:List CV) (i:Nat) (c:CV),ks[j]?=some k→k[i]?=some c→zaH w S c (U j i))
   (hvr:∀(j:Nat) (x:List CV) (i:Nat) (c:CV),vs[j]?=some x→x[i]?=some c→zaH w S c (V j i)):zaH w S (.mapv ka va ks vs) (.map (some b))
def zbP(w:World)(S:Nat→Prop)(cs:List CV)(vs:List Value):Prop:=
 vs.length=cs.length∧∀(j:Nat) (c:CV),cs[j]?=some c→∃u,vs[j]?=some u∧zaH w S c u
def zbL(w:World)(S:Nat→Prop):XV→Value→Prop
 |.one c,v=>zaH w S c v
 |.agg cs,v=>∃us:Array Value,v=.agg us∧zbP w S cs us.toList
theorem zaH.oneCell{w:World}{S:Nat→Prop}{c:CV}{v:Value}(h:zaH w S c v):v.oneCell'=true:=by
 cases h<;>first | rfl | assumption
theorem zaH.mono{w w':World}{S S':Nat→Prop}{c:CV}{v:Value}(h:zaH w S c v)(hS:∀b,S b→S' b)
  (hb:∀b,S b→w'.heap[b]?=w.heap[b]?):zaH w' S' c v:=by
 induction h with
 |bool b=>exact .bool b
 |int k n=>exact .int k n
 |str l h=>exact .str l h
 |nil=>exact .nil
 |empty a cap size h=>exact .empty a cap size h
 |list0 a cap size h hn=>exact .list0 a cap size h hn
 |list ad cap size xs U hs hsp hc hm hx hU hr ih =>
  refine .list ad cap size xs U (hS _ hs) hsp hc hm hx (fun j c hj=>?_) ih
  have hadd:(ad.add j).block=ad.block:=by unfold Addr.add;split<;>rfl
  rw[World.cell?_of_block (w:=w) (w':=w') (by rw[hadd];exact hb _ hs)]
  exact hU j c hj
 |atom v h=>exact .atom v h
 |any v h=>exact .any v h
 |mapv b c ents ka va ks vs U V hs hh hn hm hk hv hkr hvr ihk ihv=>exact .mapv b c ents ka va ks vs U V (hS _ hs) (by rw[hb _ hs];exact hh) hn hm hk hv ihk ihv
 |clo f caps U h ih=>exact .clo f caps U ih
 |ref ad cs U hs hsp hU hr ih =>
  refine .ref ad cs U (hS _ hs) hsp (fun j c hj=>?_) ih
  have hadd:(ad.add j).block=ad.block:=by unfold Addr.add;split<;>rfl
  rw[World.cell?_of_block (w:=w) (w':=w') (by rw[hadd];exact hb _ hs)]
  exact hU j c hj
theorem zbP.mono{w w':World}{S S':Nat→Prop}{cs:List CV}{vs:List Value}(h:zbP w S cs vs)(hS:∀b,S b→S' b)
  (hb:∀b,S b→w'.heap[b]?=w.heap[b]?):zbP w' S' cs vs:=
 ⟨h.1,fun j c hj=>let ⟨u,hu,hr⟩:=h.2 j c hj;⟨u,hu,hr.mono hS hb⟩⟩
theorem zbL.mono{w w':World}{S S':Nat→Prop}{x:XV}{v:Value}(h:zbL w S x v)(hS:∀b,S b→S' b)
  (hb:∀b,S b→w'.heap[b]?=w.heap[b]?):zbL w' S' x v:=by
 cases x with
 |one c=>exact zaH.mono h hS hb
 |agg cs=>obtain⟨us,hv,hl⟩:=h;exact⟨us,hv,hl.mono hS hb⟩
def zvw(w:World)(S:Nat→Prop)(bs:List Nat)(es:List (XV×XV))(ents:List MapEntry):Prop:=
 ents.length=es.length∧bs.length=es.length∧∀(j:Nat) (x:XV×XV),es[j]?=some x→∃e,ents[j]?=some e∧bs[j]?=some e.born∧zbL w S x.1 e.key∧zbL w S x.2 e.val
theorem zvw.mono{w w':World}{S S':Nat→Prop}{bs:List Nat}{es:List (XV×XV)}{ents:List MapEntry}(h:zvw w S bs es ents)(hS:∀b,S b→S' b)
  (hb:∀b,S b→w'.heap[b]?=w.heap[b]?):zvw w' S' bs es ents:=
 ⟨h.1,h.2.1,fun j x hj=>let ⟨e,h1,h2,h3,h4⟩:=h.2.2 j x hj;⟨e,h1,h2,h3.mono hS hb,h4.mono hS hb⟩⟩
def zaf:AV→Value→Option Nat
 |.box _,.pointer (some a)=>some a.block
 |.own _ _ _,v=>v.ownBlock
 |.mp _ _ _,.map (some b)=>some b
 |.gbox b _,_=>some b
 |.gown v _ _ _,_=>v.ownBlock
 |.gmap b _ _ _,_=>some b
 |_,_=>none
def AV.zaa:AV→Bool
 |.box _=>true
 |.own _ _ _=>true
 |.mp _ _ _=>true
 |.gbox _ _=>true
 |.gown _ _ _ _=>true
 |.gmap _ _ _ _=>true
 |_=>false
def AV.valOf:AV→Value→Value
 |.gown v _ _ _,_=>v
 |.gmap b _ _ _,_=>.map (some b)
 |_,u=>u
def AV.zfQ:AV→Option (List CV)
 |.box cs=>some cs
 |.gbox _ cs=>some cs
 |_=>none
theorem AV.zba{a:AV}{cs:List CV}(h:a.zfQ=some cs):a.zaa=true:=by cases a<;>first | rfl | cases h
def AV.size:AV→Nat
 |.own _ size _=>size
 |.gown _ _ size _=>size
 |_=>0
def AV.len:AV→Nat
 |.own _ _ xs=>xs.length
 |.gown _ _ _ xs=>xs.length
 |_=>0
def zcK(d:Nat):CV ⊕ (Nat×Nat)→Bool
 |.inl _=>false
 |.inr p=>p.1==d
def AV.refs(d:Nat):AV→Bool
 |.ptr s _=>s==d
 |.eptr s _ _=>s==d
 |.alias s=>s==d
 |.view s _ _ _=>s==d
 |.cloR _ caps=>caps.any (zcK d)
 |.cond _ v=>v.refs d
 |.link s _ t=>s==d || t==d
 |.ptr2 s _=>s==d
 |_=>false
theorem zao{a:AV}{v:Value}(h:a.zaa=false):zaf a v=none:=by
 cases a<;>first | rfl | (simp[AV.zaa] at h)
def AV.zdN(d:Nat):AV→Bool
 |.ptr s _=>s==d
 |.eptr s _ _=>s==d
 |.alias s=>s==d
 |.view s _ _ _=>s==d
 |.cloR _ caps=>caps.any (zcK d)
 |.cond e v=>e&&v.zdN d
 |.link s _ t=>s==d || t==d
 |.ptr2 s _=>s==d
 |_=>false
def AV.free:AV→Bool
 |.dead=>true
 |.link _ _ _=>true
 |.res _=>true
 |_=>false
theorem zcS{a:AV}(h:a.free=true):a.zaa=false:=by cases a<;>first | rfl | cases h
def AV.apart:AV→Bool
 |.dead=>true
 |.link _ _ _=>true
 |.res _=>true
 |.gown _ _ _ _=>true
 |.gmap _ _ _ _=>true
 |_=>false
theorem zlV{a:AV}(h:a.apart=true)(ho:a.zaa=true):(∃v e z xs,a=.gown v e z xs)∨∃b c bs es,a=.gmap b c bs es:=by
 cases a<;>first | exact .inl ⟨_,_,_,_,rfl⟩ | exact .inr ⟨_,_,_,_,rfl⟩ | (cases ho;done) | (cases h;done)
def AV.zco:AV→Nat→Nat→Nat→Prop
 |.link i off d,i',off',d'=>i=i'∧off=off'∧d=d'
 |.cond e v,i',off',d'=>e=true∧v.zco i' off' d'
 |_,_,_,_=>False
theorem AV.zaO{i off d:Nat}:∀{a:AV},a.zco i off d→a.refs i=true∧a.refs d=true
 |.link _ _ _,⟨rfl,rfl,rfl⟩=>by simp[AV.refs]
 |.cond _ v,h=>by
  have:=AV.zaO (a:=v) h.2
  exact this
theorem AV.zaL{d:Nat}:∀{a:AV},a.zdN d=true→a.refs d=true
 |.ptr _ _,h=>h
 |.eptr _ _ _,h=>h
 |.alias _,h=>h
 |.view _ _ _ _,h=>h
 |.cloR _ _,h=>h
 |.link _ _ _,h=>h
 |.ptr2 _ _,h=>h
 |.cond e v,h=>by
  simp only[AV.zdN,Bool.and_eq_true] at h
  exact AV.zaL (a:=v) h.2
theorem zaP{a:AV}{d:Nat}(h:a.refs d=true):a.zaa=false:=by
 cases a<;>simp_all [AV.refs,AV.zaa]
def Ind(w:World)(S:Nat→Prop)(s:St)(tm:Nat→Value)(i off:Nat)(u:Value):Prop:=
 ∃b1 b:Nat,u=.pointer (some ⟨b1,0,none⟩)∧S b1∧w.cell? ⟨b1,0,none⟩=some (.pointer (some ⟨b,off,none⟩))∧zaf (s i) (tm i)=some b
theorem Ind.mono{w w':World}{S S':Nat→Prop}{s s':St}{tm tm':Nat→Value}{i off:Nat}{u:Value}(h:Ind w S s tm i off u)(hS:∀b,S b→S' b)(hb:∀b,S b→w'.heap[b]?=w.heap[b]?)(hk:∀b,zaf (s i) (tm i)=some b→zaf (s' i) (tm' i)=some b):Ind w' S' s' tm' i off u:=by
 obtain⟨b1,b,rfl,h1,h2,h3⟩:=h
 exact⟨b1,b,rfl,hS _ h1,by rw[World.cell?_of_block (w:=w) (w':=w') (hb _ h1)];exact h2,hk _ h3⟩
def ziY(w:World)(S:Nat→Prop)(s:St)(tm:Nat→Value):CV ⊕ (Nat×Nat)→Value→Prop
 |.inl c,u=>zaH w S c u
 |.inr p,u=>if p.2<1000000 then ∃b,u=.pointer (some ⟨b,p.2,none⟩)∧zaf (s p.1) (tm p.1)=some b else Ind w S s tm p.1 (p.2-1000000) u
theorem zbF(w:World)(S:Nat→Prop)(s:St)(tm:Nat→Value)(p:Nat×Nat)(u:Value):ziY w S s tm (.inr p) u=if p.2<1000000 then ∃b,u=.pointer (some ⟨b,p.2,none⟩)∧zaf (s p.1) (tm p.1)=some b else Ind w S s tm p.1 (p.2-1000000) u:=rfl
def zaQ(w:World)(S:Nat→Prop)(B:Nat→Prop)(s:St)(tm:Nat→Value):AV→Value→Prop
 |.dead,_=>True
 |.x xv,v=>zbL w S xv v
 |.tup vs,v=>∃us:Array Value,v=.tuple us∧us.size=vs.length∧∀(j:Nat) (x:XV),vs[j]?=some x→∃u,us[j]?=some u∧zbL w S x u
 |.box cs,v=>∃(b:Nat) (arr:Array Value) (t:TypeId),v=.pointer (some ⟨b,0,none⟩)∧w.heap[b]?=some (.cells arr t (0,0))∧zbP w S cs arr.toList∧B b
 |.ptr i off,v=>∃b,v=.pointer (some ⟨b,off,none⟩)∧zaf (s i) (tm i)=some b
 |.eptr i k off,v=>∃b,v=.pointer (some ⟨b,k*(s i).size+off,none⟩)∧zaf (s i) (tm i)=some b
 |.elem cs,v=>∃ad:Addr,v=.pointer (some ad)∧ad.spot=none∧S ad.block∧∀(j:Nat) (c:CV),cs[j]?=some c→∃u,w.cell? (ad.add j)=some u∧zaH w S c u
 |.own e size xs,v=>∃us:List Value,w.zdS 0 e size v xs.length us∧zbP w S xs.flatten us∧(∀x∈xs,x.length=size)∧xs.length≤maxLen∧∀b,v.ownBlock=some b→B b
 |.alias i,v=>v=(s i).valOf (tm i)∧(s i).zaa=true
 |.mp c bs es,v=>∃(b:Nat) (ents:Array MapEntry),v=.map (some b)∧w.heap[b]?=some (.map ents c)∧B b∧zvw w S bs es ents.toList
 |.view i lo len wh,v=>(s i).zaa=true∧lo+len≤(s i).len∧((v=.slice none 0 0∧len=0)∨∃b off cap,v=.slice (some ⟨b,off,none⟩) len cap∧len≤cap∧cap≤maxLen∧zaf (s i) (tm i)=some b∧(0<len→off=lo*(s i).size)∧(wh=true→lo=0∧∃l,(s i).valOf (tm i)=.slice (some ⟨b,off,none⟩) l cap))
 |.cloR f caps,v=>∃us:Array Value,v=.func (.func f) #[] us∧us.size=caps.length∧∀(j:Nat) (c:CV ⊕ (Nat×Nat)),caps[j]?=some c→∃u,us[j]?=some u∧ziY w S s tm c u
 |.cond e a,v=>a.zaa=false∧if e then zaQ w S B s tm a v else v=undef
 |.link i off d,_=>(s d).zaa=true∧∃cs b,(s i).zfQ=some cs∧cs[off]?=some .any∧zaf (s i) (tm i)=some b∧w.cell? ⟨b,off,none⟩=some ((s d).valOf (tm d))
 |.res _,_=>True
 |.ptr2 i off,v=>Ind w S s tm i off v
 |.gbox b cs,_=>∃(arr:Array Value) (t:TypeId),w.heap[b]?=some (.cells arr t (0,0))∧zbP w S cs arr.toList∧B b
 |.gown v e size xs,_=>∃us:List Value,w.zdS 0 e size v xs.length us∧zbP w S xs.flatten us∧(∀x∈xs,x.length=size)∧xs.length≤maxLen∧∀b,v.ownBlock=some b→B b
 |.gmap b c bs es,_=>∃ents:Array MapEntry,w.heap[b]?=some (.map ents c)∧B b∧zvw w S bs es ents.toList
structure Env where
 rd:Nat→Prop
 lent:Nat→Prop
 m:Nat
 val:Nat→Value
abbrev OwnB(S0:Env)(B:Nat):Nat→Prop:=fun b=>B≤b∨S0.lent b
def Shared(S0:Env)(B:Nat)(w:World)(s:St)(tm:Nat→Value):Nat→Prop:=
 fun b=>(S0.rd b∨OwnB S0 B b)∧b<w.heap.size∧∀i,zaf (s i) (tm i)≠some b
abbrev zai(a:Act):Nat→Value:=fun i=>a.tmps.getD i undef
class Amb where
 holds:World→Prop
 at_:Nat→Prop
 lt:∀{w:World} {b:Nat},holds w→at_ b→b<w.heap.size
 keep:∀{w w':World},holds w→w.heap.size≤w'.heap.size→(∀b,at_ b→w'.heap[b]?=w.heap[b]?)→holds w'
@[reducible]def Amb.none:Amb:=⟨fun _=>True,fun _=>False,fun _ h=>h.elim,fun _ _ _=>trivial⟩
variable [Amb]
structure Base(S0:Env)(w0:World):Prop where
 rd:∀b,S0.rd b→b<w0.heap.size
 lent:∀b,S0.lent b→b<w0.heap.size
 apart:∀b,S0.rd b→¬S0.lent b
 amb:Amb.holds w0
 far:∀b,Amb.at_ b→¬S0.lent b
structure Kept(L:Nat→Prop)(w w':World):Prop where
 os:w'.os=w.os
 tape:w'.tape=w.tape
 output:w'.output=w.output
 size:w.heap.size≤w'.heap.size
 block:∀k,k<w.heap.size→¬L k→w'.heap[k]?=w.heap[k]?
theorem Kept.refl(L:Nat→Prop)(w:World):Kept L w w:=⟨rfl,rfl,rfl,Nat.le_refl _,fun _ _ _=>rfl⟩
theorem Kept.below{L:Nat→Prop}{w w':World}(h:Kept L w w')(hL:∀b,¬L b):Below w.heap.size w w':=⟨h.os,h.tape,h.output,h.size,fun k hk=>h.block k hk (hL k)⟩
theorem Kept.grown{L:Nat→Prop}{a w w':World}{row:Option Nat}(h:Kept L a w)(hg:w.grownBy w' row)(hr:∀k,row=some k→a.heap.size≤k∨L k):Kept L a w':=
 ⟨hg.os.trans h.os,hg.tape.trans h.tape,hg.output.trans h.output,Nat.le_trans h.size hg.size,fun k hk hn=>by
  rw[hg.block k (Nat.lt_of_lt_of_le hk h.size) (fun e=>by rcases hr k e.symm with h1 | h1;omega;exact hn h1)]
  exact h.block k hk hn⟩
theorem Kept.drew{L:Nat→Prop}{a w:World}(h:Kept L a w)(n:Nat):Kept L a { w with drawn:=n }:=⟨h.os,h.tape,h.output,h.size,h.block⟩
theorem Base.zJY{S0:Env}{w0 w:World}(h:Base S0 w0)(k:Kept S0.lent w0 w):Amb.holds w:=Amb.keep h.amb k.size (fun b hb=>k.block b (Amb.lt h.amb hb) (h.far b hb))
structure Rel(S0:Env)(w0:World)(n:Nat)(s:St)(a:Act)(w:World):Prop where
 defers:a.defers=[]
 size:a.tmps.size=n
 below:Kept S0.lent w0 w
 lt:Base S0 w0
 rep:∀i,zaQ w (Shared S0 w0.heap.size w s (zai a)) (OwnB S0 w0.heap.size) s (zai a) (s i) (zai a i)
 inj:∀i j b,zaf (s i) (zai a i)=some b→zaf (s j) (zai a j)=some b→i=j
 out:∀i,n≤i→(s i).apart=true
 wf:∀i j,(s i).refs j=true→(s j).zaa=true
 pin:∀j,j<S0.m→zai a j=S0.val j
def put(s:St)(d:Nat)(v:AV):St:=
 match (s d).zaa with
 |true=>fun i=>if i=d then (match v.refs d with | true=>.dead | false=>v) else if (s i).refs d then .dead else s i
 |false=>fun i=>if i=d then (match v.refs d with | true=>.dead | false=>v) else s i
theorem zbb{s:St}{d:Nat}{v:AV}(h:v.refs d=false):put s d v d=v:=by
 unfold put;cases (s d).zaa<;>simp[h]
theorem zfF{s:St}{d:Nat}{v:AV}(h:v.refs d=true):put s d v d=.dead:=by
 unfold put;cases (s d).zaa<;>simp[h]
theorem zbK{s:St}{d i:Nat}{v:AV}(h:i≠d):put s d v i=s i∨((s d).zaa=true∧(s i).refs d=true∧put s d v i=.dead):=by
 unfold put
 cases ho:(s d).zaa
 ·exact .inl (by simp[h])
 ·by_cases hr:(s i).refs d=true
  ·exact .inr ⟨rfl,hr,by simp[h,hr]⟩
  ·exact .inl (by simp[h,hr])
theorem zfg{s:St}{d i:Nat}{v:AV}(h:i≠d)(ho:(s d).zaa=true)(hr:(s i).refs d=true):put s d v i=.dead:=by
 unfold put;rw[ho];simp[h,hr]
theorem zio{s:St}{d i:Nat}{v:AV}(h:i≠d)(hr:(s i).refs d=false):put s d v i=s i:=by
 rcases zbK (v:=v) h with h | ⟨_,h,_⟩
 ·exact h
 ·rw[hr] at h;cases h
theorem zbn{s:St}{d i:Nat}{v:AV}(h:i≠d)(hr:(s i).zaa=true):put s d v i=s i:=by
 rcases zbK (v:=v) h with h | ⟨_,h,_⟩
 ·exact h
 ·rw[zaP h] at hr;cases hr
theorem za3{s:St}{d:Nat}{v:AV}(h:∀i j,(s i).refs j=true→(s j).zaa=true)(hv:∀j,v.refs j=true→(s j).zaa=true) :
  ∀i j,(put s d v i).refs j=true→(put s d v j).zaa=true:=by
 intro i j hij
 by_cases hi:i=d
 ·subst hi
  cases hr:v.refs i with
  |true=>rw[zfF hr] at hij;cases hij
  |false =>
   rw[zbb hr] at hij
   have hji:j≠i:=by rintro rfl;rw[hij] at hr;cases hr
   rw[zbn hji (hv j hij)];exact hv j hij
 ·rcases zbK (s:=s) (v:=v) hi with e | ⟨_,_,e⟩
  ·rw[e] at hij
   have hjo:=h i j hij
   by_cases hjd:j=d
   ·subst hjd
    rw[zfg hi hjo hij] at e
    rw[←e] at hij
    cases hij
   ·rw[zbn hjd hjo];exact hjo
  ·rw[e] at hij;cases hij
theorem zfC(a:Act)(d:Nat)(v:Value)(hd:d<a.tmps.size)(i:Nat):zai (a.put (some d) v) i=if i=d then v else zai a i:=by
 simp only[zai,Act.put,Array.getD_eq_getD_getElem?]
 by_cases h:i=d
 ·subst h;simp[hd]
 ·rw[Array.getElem?_setIfInBounds_ne (by omega)];simp[h]
theorem block_add(a:Addr)(n:Nat):(a.add n).block=a.block:=by unfold Addr.add;split<;>rfl
theorem zaQ.mono{w w':World}{S S':Nat→Prop}{B:Nat→Prop}{s s':St}{tm tm':Nat→Value}{a:AV}{v:Value}
  (h:zaQ w S B s tm a v)(hS:∀b,S b→S' b)(hb:∀b,S b→w'.heap[b]?=w.heap[b]?)
  (ho:∀b,zaf a v=some b→w'.heap[b]?=w.heap[b]?)
  (hr:∀i,a.zdN i=true→tm' i=tm i∧((s i).zaa=true→(s' i).zaa=true∧(s' i).size=(s i).size∧(s' i).len=(s i).len∧(s' i).valOf=(s i).valOf)∧(∀b,zaf (s i) (tm i)=some b→zaf (s' i) (tm i)=some b))
  (hk:∀i off d cs b,a.zco i off d→(s i).zfQ=some cs→zaf (s i) (tm i)=some b→(∃cs',(s' i).zfQ=some cs'∧cs'[off]?=cs[off]?)∧w'.cell? ⟨b,off,none⟩=w.cell? ⟨b,off,none⟩:=by intro _ _ _ _ _ h;exact h.elim):zaQ w' S' B s' tm' a v:=by
 induction a with
 |dead=>trivial
 |res l=>trivial
 |link i off d =>
  obtain⟨ho,cs,b,hs,hc,hb,hv⟩:=h
  obtain⟨h1,_,h2⟩:=hr i (by simp[AV.zdN])
  obtain⟨h3,h4,_⟩:=hr d (by simp[AV.zdN])
  obtain⟨⟨cs',k1,k2⟩,k3⟩:=hk i off d cs b ⟨rfl,rfl,rfl⟩ hs hb
  exact⟨(h4 ho).1,cs',b,k1,by rw[k2];exact hc,by rw[h1];exact h2 b hb,by rw[k3,h3,(h4 ho).2.2.2];exact hv⟩
 |x xv=>exact zbL.mono h hS hb
 |tup vs =>
  obtain⟨us,hv,hl,hx⟩:=h
  exact⟨us,hv,hl,fun j x hj=>let ⟨u,hu,hr⟩:=hx j x hj;⟨u,hu,hr.mono hS hb⟩⟩
 |box cs =>
  obtain⟨b,arr,t,rfl,hh,hl,hB⟩:=h
  exact⟨b,arr,t,rfl,by rw[ho b rfl];exact hh,hl.mono hS hb,hB⟩
 |ptr i off =>
  obtain⟨b,rfl,hk⟩:=h
  obtain⟨h1,_,h2⟩:=hr i (by simp[AV.zdN])
  exact⟨b,rfl,by rw[h1];exact h2 b hk⟩
 |eptr i k off =>
  obtain⟨b,rfl,hk⟩:=h
  obtain⟨h1,h3,h2⟩:=hr i (by simp[AV.zdN])
  have ho:(s i).zaa=true:=by
   cases ho:(s i).zaa with
   |true=>rfl
   |false=>rw[zao ho] at hk;cases hk
  exact⟨b,by rw[(h3 ho).2.1],by rw[h1];exact h2 b hk⟩
 |elem cs =>
  obtain⟨ad,rfl,hsp,hSb,hc⟩:=h
  refine⟨ad,rfl,hsp,hS _ hSb,fun j c hj=>?_⟩
  obtain⟨u,hu,hrr⟩:=hc j c hj
  exact⟨u,by rw[World.cell?_of_block (w:=w) (w':=w') (by rw[block_add];exact hb _ hSb)];exact hu,hrr.mono hS hb⟩
 |own e size xs =>
  obtain⟨us,hown,hl,hx,hm,hB⟩:=h
  refine⟨us,⟨hown.1,?_⟩,hl.mono hS hb,hx,hm,hB⟩
  rcases hown.2 with hn | ⟨g,cap,cur,rfl,hbg,hh,rest⟩
  ·exact .inl hn
  ·exact .inr ⟨g,cap,cur,rfl,hbg,by rw[ho g rfl];exact hh,rest⟩
 |mp c bs es =>
  obtain⟨b,ents,rfl,hh,hB,he⟩:=h
  exact⟨b,ents,rfl,by rw[ho b rfl];exact hh,hB,he.mono hS hb⟩
 |alias i =>
  obtain⟨hv,hown⟩:=h
  obtain⟨h1,h2,_⟩:=hr i (by simp[AV.zdN])
  exact⟨by rw[h1,(h2 hown).2.2.2];exact hv,(h2 hown).1⟩
 |view i lo len wh =>
  obtain⟨hown,hle,hv⟩:=h
  obtain⟨h1,h2,h3⟩:=hr i (by simp[AV.zdN])
  obtain⟨k1,k2,k3,k4⟩:=h2 hown
  refine⟨k1,by rw[k3];exact hle,?_⟩
  rcases hv with hv | ⟨b,off,cap,hv,hc,hm,hk,hz,hw⟩
  ·exact .inl hv
  ·exact .inr ⟨b,off,cap,hv,hc,hm,by rw[h1];exact h3 b hk,by rw[k2];exact hz,by rw[h1,k4];exact hw⟩
 |cloR f caps =>
  obtain⟨us,hv,hl,hx⟩:=h
  refine⟨us,hv,hl,fun j c hj=>?_⟩
  obtain⟨u,hu,hc⟩:=hx j c hj
  refine⟨u,hu,?_⟩
  cases c with
  |inl c=>exact zaH.mono hc hS hb
  |inr p =>
   obtain⟨h1,_,h3⟩:=hr p.1 (by
    simp only[AV.zdN]
    exact List.any_eq_true.2 ⟨_,List.mem_of_getElem? hj,by simp[zcK]⟩)
   rw[zbF] at hc ⊢
   split at hc
   ·rename_i hi
    rw[if_pos hi]
    obtain⟨b,hp,hk⟩:=hc
    exact⟨b,hp,by rw[h1];exact h3 b hk⟩
   ·rename_i hi
    rw[if_neg hi]
    exact hc.mono hS hb (fun b hk=>by rw[h1];exact h3 b hk)
 |ptr2 i off =>
  obtain⟨h1,_,h2⟩:=hr i (by simp[AV.zdN])
  exact Ind.mono h hS hb (fun b hk=>by rw[h1];exact h2 b hk)
 |gbox b cs =>
  obtain⟨arr,t,hh,hl,hB⟩:=h
  exact⟨arr,t,by rw[ho b rfl];exact hh,hl.mono hS hb,hB⟩
 |gown u e size xs =>
  obtain⟨us,hown,hl,hx,hm,hB⟩:=h
  refine⟨us,⟨hown.1,?_⟩,hl.mono hS hb,hx,hm,hB⟩
  rcases hown.2 with hn | ⟨g,cap,cur,rfl,hbg,hh,rest⟩
  ·exact .inl hn
  ·exact .inr ⟨g,cap,cur,rfl,hbg,by rw[ho g rfl];exact hh,rest⟩
 |gmap b c bs es =>
  obtain⟨ents,hh,hB,he⟩:=h
  exact⟨ents,by rw[ho b rfl];exact hh,hB,he.mono hS hb⟩
 |cond e a ih =>
  obtain⟨hn,h⟩:=h
  refine⟨hn,?_⟩
  cases e with
  |false=>exact h
  |true=>exact ih h (fun b hbk=>by rw[zao hn] at hbk;cases hbk) (fun i hi=>hr i (by simp[AV.zdN,hi])) (fun i off d cs b hl=>hk i off d cs b ⟨rfl,hl⟩)
theorem zaQ.zgK{w:World}{S:Nat→Prop}{B:Nat→Prop}{s:St}{tm:Nat→Value}{i off d:Nat}:∀{a:AV} {v:Value},zaQ w S B s tm a v→a.zco i off d →
  (s d).zaa=true∧∃cs b,(s i).zfQ=some cs∧cs[off]?=some .any∧zaf (s i) (tm i)=some b∧w.cell? ⟨b,off,none⟩=some ((s d).valOf (tm d))
 |.link _ _ _,_,h,⟨rfl,rfl,rfl⟩=>h
 |.cond e a,v,h,⟨he,hl⟩=>by
  subst he
  exact zaQ.zgK (a:=a) h.2 hl
theorem zaQ.zdO{w:World}{S:Nat→Prop}{B:Nat→Prop}{s:St}{tm:Nat→Value}{j e z:Nat}{xs:List (List CV)}{v:Value}(h:zaQ w S B s tm (.alias j) v)(hs:s j=.own e z xs):v=tm j∧(s j).zaa=true:=by
 obtain⟨h1,h2⟩:=h
 rw[hs] at h1
 exact⟨h1,h2⟩
theorem zaQ.zk1{w:World}{S:Nat→Prop}{B:Nat→Prop}{s:St}{tm:Nat→Value}{j c:Nat}{bs:List Nat}{es:List (XV×XV)}{v:Value}(h:zaQ w S B s tm (.alias j) v)(hs:s j=.mp c bs es):v=tm j∧(s j).zaa=true:=by
 obtain⟨h1,h2⟩:=h
 rw[hs] at h1
 exact⟨h1,h2⟩
theorem zaQ.leads{w:World}{S:Nat→Prop}{B:Nat→Prop}{s:St}{tm:Nat→Value}{d:Nat}{a:AV}{v:Value}
  (h:zaQ w S B s tm a v)(hr:a.zdN d=true):(s d).zaa=true:=by
 induction a with
 |ptr i off =>
  obtain⟨b,rfl,hk⟩:=h
  obtain rfl:i=d:=by simpa[AV.zdN] using hr
  cases hi:(s i).zaa with
  |true=>rfl
  |false=>rw[zao hi] at hk;cases hk
 |eptr i k off =>
  obtain⟨b,rfl,hk⟩:=h
  obtain rfl:i=d:=by simpa[AV.zdN] using hr
  cases hi:(s i).zaa with
  |true=>rfl
  |false=>rw[zao hi] at hk;cases hk
 |alias i =>
  obtain rfl:i=d:=by simpa[AV.zdN] using hr
  exact h.2
 |view i lo len wh =>
  obtain rfl:i=d:=by simpa[AV.zdN] using hr
  exact h.1
 |cloR f caps =>
  obtain⟨us,hv,hl,hx⟩:=h
  simp only[AV.zdN] at hr
  obtain⟨c,hc,hd⟩:=List.any_eq_true.1 hr
  cases c with
  |inl c=>cases hd
  |inr p =>
   obtain rfl:p.1=d:=by simpa[zcK] using hd
   obtain⟨j,hj⟩:=List.getElem?_of_mem hc
   obtain⟨u,hu,hk⟩:=hx j _ hj
   have:∃b,zaf (s p.1) (tm p.1)=some b:=by
    rw[zbF] at hk
    split at hk
    ·obtain⟨b,_,hk⟩:=hk;exact⟨b,hk⟩
    ·obtain⟨_,b,_,_,_,hk⟩:=hk;exact⟨b,hk⟩
   obtain⟨b,hk⟩:=this
   cases hi:(s p.1).zaa with
   |true=>rfl
   |false=>rw[zao hi] at hk;cases hk
 |ptr2 i off =>
  obtain⟨_,b,_,_,_,hk⟩:=h
  obtain rfl:i=d:=by simpa[AV.zdN] using hr
  cases hi:(s i).zaa with
  |true=>rfl
  |false=>rw[zao hi] at hk;cases hk
 |cond e a ih =>
  simp only[AV.zdN,Bool.and_eq_true] at hr
  obtain⟨rfl,hr⟩:=hr
  exact ih h.2 hr
 |link i off t =>
  obtain⟨ho,cs,b,hs,_⟩:=h
  simp only[AV.zdN,Bool.or_eq_true,beq_iff_eq] at hr
  rcases hr with rfl | rfl
  ·exact AV.zba hs
  ·exact ho
 |_=>simp[AV.zdN] at hr
theorem zaQ.zbk{w:World}{S:Nat→Prop}{B:Nat→Prop}{s:St}{tm:Nat→Value}{a:AV}{v:Value}{b:Nat}
  (h:zaQ w S B s tm a v)(hb:zaf a v=some b):B b∧b<w.heap.size:=by
 cases a with
 |box cs =>
  obtain⟨b',arr,t,rfl,hh,hl,hB⟩:=h
  obtain rfl:b'=b:=by simpa[zaf] using hb
  exact⟨hB,(Array.getElem?_eq_some_iff.1 hh).1⟩
 |own e size xs =>
  obtain⟨us,hown,_,_,_,hB⟩:=h
  exact⟨hB b hb,(hown.lt b hb).2⟩
 |mp c bs es =>
  obtain⟨b',ents,rfl,hh,hB,he⟩:=h
  obtain rfl:b'=b:=by simpa[zaf] using hb
  exact⟨hB,(Array.getElem?_eq_some_iff.1 hh).1⟩
 |gbox b' cs =>
  obtain⟨arr,t,hh,hl,hB⟩:=h
  obtain rfl:b'=b:=by simpa[zaf] using hb
  exact⟨hB,(Array.getElem?_eq_some_iff.1 hh).1⟩
 |gown u e size xs =>
  obtain⟨us,hown,_,_,_,hB⟩:=h
  exact⟨hB b hb,(hown.lt b hb).2⟩
 |gmap b' c bs es =>
  obtain⟨ents,hh,hB,he⟩:=h
  obtain rfl:b'=b:=by simpa[zaf] using hb
  exact⟨hB,(Array.getElem?_eq_some_iff.1 hh).1⟩
 |_=>simp[zaf] at hb
theorem zvU{s:St}{d i:Nat}{v:AV}{u:Value}{b:Nat}(h:i≠d)(hb:zaf (put s d v i) u=some b):zaf (s i) u=some b:=by
 rcases zbK (s:=s) (v:=v) h with h' | ⟨_,_,h'⟩
 ·rw[h'] at hb;exact hb
 ·rw[h'] at hb;cases hb
theorem Rel.put{S0:Env}{w0 w w':World}{n:Nat}{s:St}{a:Act}{d:Nat}{r:AV}{v:Value}
  (hR:Rel S0 w0 n s a w)(hd:S0.m≤d∧d<n)(hg:w.grownBy w' none)(hwf:∀j,r.refs j=true→(s j).zaa=true)
  (hr:zaQ w' (Shared S0 w0.heap.size w' s (zai a)) (OwnB S0 w0.heap.size) s (zai a) r v)
  (hf:∀b,zaf r v=some b→w.heap.size≤b)
  (hfS:∀b,zaf r v=some b→zaQ w' (fun b'=>Shared S0 w0.heap.size w' s (zai a) b'∧b'≠b) (OwnB S0 w0.heap.size) s (zai a) r v):Rel S0 w0 n (put s d r) (a.put (some d) v) w':=by
 have hdt:d<a.tmps.size:=by rw[hR.size];exact hd.2
 have htm:=zfC a d v hdt
 have htmo:∀i,i≠d→zai (a.put (some d) v) i=zai a i:=fun i hi=>by rw[htm,if_neg hi]
 have htmd:zai (a.put (some d) v) d=v:=by rw[htm,if_pos rfl]
 have hblk:∀i b,zaf (Ab.put s d r i) (zai (a.put (some d) v) i)=some b→(i=d∧zaf r v=some b)∨(i≠d∧zaf (s i) (zai a i)=some b):=by
  intro i b hb
  by_cases hi:i=d
  ·subst hi
   rw[htmd] at hb
   cases hrr:r.refs i with
   |true=>rw[zfF hrr] at hb;cases hb
   |false=>rw[zbb hrr] at hb;exact .inl ⟨rfl,hb⟩
  ·rw[htmo i hi] at hb
   exact .inr ⟨hi,zvU hi hb⟩
 have hold:∀b,Shared S0 w0.heap.size w s (zai a) b→w'.heap[b]?=w.heap[b]?:=fun b hb=>hg.block b hb.2.1 (by simp)
 have hsub:∀b,Shared S0 w0.heap.size w s (zai a) b→Shared S0 w0.heap.size w' (Ab.put s d r) (zai (a.put (some d) v)) b:=by
  intro b ⟨h1,h2,h3⟩
  refine⟨h1,Nat.lt_of_lt_of_le h2 hg.size,fun i hi=>?_⟩
  rcases hblk i b hi with⟨_,h⟩ | ⟨_,h⟩
  ·have:=hf b h;omega
  ·exact h3 i h
 have hkeep:∀i,i≠d→((s i).zaa=true→(Ab.put s d r i).zaa=true∧(Ab.put s d r i).size=(s i).size∧(Ab.put s d r i).len=(s i).len∧(Ab.put s d r i).valOf=(s i).valOf)∧(∀b,zaf (s i) (zai a i)=some b→zaf (Ab.put s d r i) (zai a i)=some b):=by
  intro i hi
  refine⟨fun ho=>by rw[zbn hi ho];exact⟨ho,rfl,rfl,rfl⟩,fun b hb=>?_⟩
  have ho:(s i).zaa=true:=by
   cases ho:(s i).zaa with
   |true=>rfl
   |false=>rw[zao ho] at hb;cases hb
  rw[zbn hi ho];exact hb
 refine⟨?_,?_,?_,hR.lt,?_,?_,?_,?_,fun j hj=>by rw[htmo j (by omega)];exact hR.pin j hj⟩
 ·exact hR.defers
 ·simp[Act.put,hR.size]
 ·exact hR.below.grown hg (by simp)
 ·intro i
  by_cases hi:i=d
  ·subst hi
   rw[htmd]
   cases hrr:r.refs i with
   |true=>rw[zfF hrr];trivial
   |false =>
    rw[zbb hrr]
    have hrefs:∀j,r.zdN j=true→zai (a.put (some i) v) j=zai a j∧((s j).zaa=true→(Ab.put s i r j).zaa=true∧(Ab.put s i r j).size=(s j).size∧(Ab.put s i r j).len=(s j).len∧(Ab.put s i r j).valOf=(s j).valOf)∧(∀b,zaf (s j) (zai a j)=some b→zaf (Ab.put s i r j) (zai a j)=some b):=by
     intro j hj
     have hji:j≠i:=by rintro rfl;rw[AV.zaL hj] at hrr;cases hrr
     exact⟨htmo j hji,hkeep j hji⟩
    have hlk:∀i' off d' cs b,r.zco i' off d'→(s i').zfQ=some cs→zaf (s i') (zai a i')=some b→(∃cs',(Ab.put s i r i').zfQ=some cs'∧cs'[off]?=cs[off]?)∧w'.cell? ⟨b,off,none⟩=w'.cell? ⟨b,off,none⟩:=by
     intro i' off d' cs b hl hs' _
     have hji:i'≠i:=by rintro rfl;rw[(AV.zaO hl).1] at hrr;cases hrr
     exact⟨⟨cs,by rw[zbn hji (AV.zba hs')];exact hs',rfl⟩,rfl⟩
    cases hbr:zaf r v with
    |none =>
     refine hr.mono (fun b ⟨h1,h2,h3⟩=>⟨h1,h2,fun j hj=>?_⟩) (fun _ _=>rfl) (fun _ _=>rfl) hrefs hlk
     rcases hblk j b hj with⟨_,h⟩ | ⟨_,h⟩
     ·rw[hbr] at h;cases h
     ·exact h3 j h
    |some bb =>
     refine(hfS bb hbr).mono (fun b ⟨⟨h1,h2,h3⟩,h4⟩=>⟨h1,h2,fun j hj=>?_⟩) (fun _ _=>rfl) (fun _ _=>rfl) hrefs hlk
     rcases hblk j b hj with⟨_,h⟩ | ⟨_,h⟩
     ·rw[hbr] at h;exact h4 (by injection h with h;exact h.symm)
     ·exact h3 j h
  ·rw[htmo i hi]
   rcases zbK (s:=s) (v:=r) hi with hp | ⟨_,_,hp⟩
   ·rw[hp]
    refine(hR.rep i).mono hsub hold (fun b hb=>hg.block b ((hR.rep i).zbk hb).2 (by simp)) (fun j hj=>?_) (fun i' off d' cs b hl hs' hb'=>?_)
    rotate_left
    ·have hid:i'≠d:=by
      rintro rfl
      have ho:(s i').zaa=true:=AV.zba hs'
      have hk:=zfg (s:=s) (v:=r) hi ho (AV.zaO hl).1
      rw[hk] at hp
      rw[←hp] at hl
      exact hl.elim
     exact⟨⟨cs,by rw[zbn hid (AV.zba hs')];exact hs',rfl⟩,World.cell?_of_block (hg.block b ((hR.rep i').zbk hb').2 (by simp))⟩
    by_cases hjd:j=d
    ·subst hjd
     have ho:=(hR.rep i).leads hj
     rcases zbK (s:=s) (v:=r) hi with hp' | ⟨_,_,hp'⟩
     ·-- it was not killed,though it leads to the owner d: cannot be
      exfalso
      have:Ab.put s j r i=.dead:=by
       unfold Ab.put
       rw[ho]
       simp[hi,AV.zaL hj]
      rw[hp'] at this
      rw[this] at hj
      simp[AV.zdN] at hj
     ·rw[hp] at hp'
      rw[hp'] at hj
      simp[AV.zdN] at hj
    ·exact⟨htmo j hjd,hkeep j hjd⟩
   ·rw[hp];trivial
 ·intro i j b hbi hbj
  rcases hblk i b hbi with⟨hi,h1⟩ | ⟨hi,h1⟩<;>rcases hblk j b hbj with⟨hj,h2⟩ | ⟨hj,h2⟩
  ·rw[hi,hj]
  ·have:=hf b h1;have:=((hR.rep j).zbk h2).2;omega
  ·have:=hf b h2;have:=((hR.rep i).zbk h1).2;omega
  ·exact hR.inj i j b h1 h2
 ·intro i hi
  have hid:i≠d:=by omega
  rcases zbK (s:=s) (v:=r) hid with hp | ⟨_,_,hp⟩
  ·rw[hp];exact hR.out i hi
  ·rw[hp];rfl
 ·exact za3 hR.wf hwf
end Go.Ab
namespace Go.Ab
open Go Go.RowKit
variable [Amb]
inductive TK where
 |one
 |agg (n:Nat)
 |bad
def tk(P:Program)(t:TypeId):TK:=
 match P.underlying t,P.info? t with
 |some (.struct _),some i=>.agg i.size
 |some (.array _ _),some i=>.agg i.size
 |some (.struct _),none=>.bad
 |some (.array _ _),none=>.bad
 |some _,_=>.one
 |none,_=>.bad
def fieldAt(P:Program)(t:TypeId)(f:Nat):Option (Nat×TK):=
 match P.underlying t with
 |some (.struct fs)=>match fs[f]? with
  |some fd=>match P.info? fd.type with
   |some i=>if i.size=0 then none else some (fd.offset,tk P fd.type)
   |none=>none
  |none=>none
 |_=>none
def sliceT(P:Program)(t:TypeId):Option (TypeId×Nat):=
 match P.underlying t with
 |some (.slice e)=>match P.info? e with
  |some i=>if i.size=0 then none else some (e,i.size)
  |none=>none
 |_=>none
def zaD(P:Program)(t:TypeId):Bool:=
 match P.underlying t with
 |some .string=>true
 |_=>false
def zhp:Value→CV
 |.bool b=>.bool b
 |.int k n=>.int k n
 |.string s=>.str s.data.toList
 |.slice none 0 0=>.nil
 |v=>.atom v
def zcr:Value→Bool
 |.string s=>decide (s.data.toList.length≤maxLen)
 |.agg _=>false
 |.tuple _=>false
 |_=>true
def ze9(v:Value):AV:=
 match v with
 |.agg us=>if us.toList.all zcr then .x (.agg (us.toList.map zhp)) else .dead
 |.tuple _=>.dead
 |v=>if zcr v then .x (.one (zhp v)) else .dead
theorem zfv{w:World}{S:Nat→Prop}{v:Value}(h:zcr v=true):zaH w S (zhp v) v:=by
 unfold zhp
 split
 ·exact .bool _
 ·exact .int _ _
 ·rename_i s
  have hl:s.data.toList.length≤maxLen:=of_decide_eq_true h
  have e:s=⟨s.data.toList.toArray⟩:=by cases s;simp
  have:=zaH.str (w:=w) (S:=S) s.data.toList hl
  rw[←e] at this
  exact this
 ·exact .nil
 ·refine .atom _ ?_
  revert h
  cases v<;>simp[zcr,Value.oneCell']
def look(s:St):Operand→AV
 |.tmp t=>match s t with
  |.box _=>.ptr t 0
  |.own _ _ _=>.alias t
  |.mp _ _ _=>.alias t
  |.gbox _ _=>.dead
  |.gown _ _ _ _=>.dead
  |.gmap _ _ _ _=>.dead
  |a=>a
 |.const v=>ze9 v
 |.global g=>.x (.one (.atom (.pointer (some ⟨g,0,none⟩))))
 |.func f=>.x (.one (.atom (.func (.func f) #[] #[])))
def CV.isAny:CV→Bool
 |.any=>true
 |_=>false
def AV.told:AV→Bool
 |.box cs=>!cs.any CV.isAny
 |.gbox _ cs=>!cs.any CV.isAny
 |_=>true
def zej(cs:List CV)(off m:Nat):Bool:=((cs.drop off).take m).any CV.isAny
theorem zmw{cs:List CV}{off m j:Nat}(h:zej cs off m=false)(hj:cs[j]?=some .any):j<off∨off+m≤j:=by
 rcases Nat.lt_or_ge j off with h1 | h1
 ·exact .inl h1
 ·rcases Nat.lt_or_ge j (off+m) with h2 | h2
  ·exfalso
   unfold zej at h
   rw[List.any_eq_false] at h
   refine h .any (List.mem_of_getElem? (i:=j-off) ?_) rfl
   rw[List.getElem?_take,if_pos (by omega),List.getElem?_drop,show off+(j-off)=j by omega]
   exact hj
  ·exact .inr h2
def LK(i off:Nat):Nat:=1000000+1000*i+off
abbrev MARK:Nat:=999999
def AV.zdm:AV→Nat→Nat→Nat→Bool
 |.link i' o _,i,off,m=>i'==i&&decide (off≤o)&&decide (o<off+m)
 |.cond _ v,i,off,m=>v.zdm i off m
 |_,_,_,_=>false
theorem AV.zlo{i off m:Nat}:∀{a:AV},a.zdm i off m=true→a.zaa=false
 |.link _ _ _,_=>rfl
 |.cond _ _,_=>rfl
theorem AV.zed{i off m o d:Nat}:∀{a:AV},a.zco i o d→off≤o→o<off+m→a.zdm i off m=true
 |.link _ _ _,⟨rfl,rfl,rfl⟩,h1,h2=>by simp[AV.zdm,h1,h2]
 |.cond _ v,⟨_,hl⟩,h1,h2=>AV.zed (a:=v) hl h1 h2
def unlink(s:St)(i off m:Nat):St:=fun j=>match (s j).zdm i off m with
 |true=>.dead
 |false=>s j
theorem zav{s:St}{i off m j:Nat}(h:(s j).zaa=true):unlink s i off m j=s j:=by
 unfold unlink
 cases hl:(s j).zdm i off m with
 |true=>rw[AV.zlo hl] at h;cases h
 |false=>rfl
theorem zay(s:St)(i off m j:Nat):unlink s i off m j=s j∨unlink s i off m j=.dead:=by
 unfold unlink
 cases (s j).zdm i off m with
 |true=>exact .inr rfl
 |false=>exact .inl rfl
def strip:AV→Prop×AV
 |.cond e a=>(e=true,a)
 |.x (.one (.ref cs))=>(True,.elem cs)
 |a=>(True,a)
theorem zzM{w:World}{S B:Nat→Prop}{s:St}{tm:Nat→Value}{cs:List CV}{v:Value}(h:zaH w S (.ref cs) v):zaQ w S B s tm (.elem cs) v:=by
 cases h with
 |ref ad _ U hs hsp hU hr=>exact⟨ad,rfl,hsp,hs,fun j c hj=>⟨U j,hU j c hj,hr j c hj⟩⟩
section
variable {P:Program}{S0:Env}{w0 w:World}{n:Nat}{s:St}{a:Act}
abbrev zgd(S0:Env)(w0:World)(s:St)(a:Act)(w:World)(r:AV)(v:Value):Prop:=
 zaQ w (Shared S0 w0.heap.size w s (zai a)) (OwnB S0 w0.heap.size) s (zai a) r v
theorem Rel.look(hR:Rel S0 w0 n s a w)(x:Operand):zgd S0 w0 s a w (look s x) (a.eval x):=by
 cases x with
 |tmp t =>
  have h:=hR.rep t
  have he:a.eval (.tmp t)=zai a t:=rfl
  rw[he]
  unfold Ab.look
  dsimp only
  split
  ·rename_i cs hs
   rw[hs] at h
   obtain⟨b,arr,ty,hv,_⟩:=h
   exact⟨b,hv,by rw[hs,hv];rfl⟩
  ·rename_i e size xs hs
   exact⟨by rw[hs];rfl,by rw[hs];rfl⟩
  ·rename_i c bs es hs
   exact⟨by rw[hs];rfl,by rw[hs];rfl⟩
  ·trivial
  ·trivial
  ·trivial
  ·exact h
 |const v =>
  show zgd S0 w0 s a w (ze9 v) v
  unfold ze9
  split
  ·rename_i us
   split
   ·rename_i hall
    refine⟨us,rfl,by simp,fun j c hj=>?_⟩
    rw[List.getElem?_map] at hj
    cases hu:us.toList[j]? with
    |none=>rw[hu] at hj;cases hj
    |some u =>
     rw[hu] at hj
     injection hj with hj
     subst hj
     exact⟨u,rfl,zfv (List.all_eq_true.1 hall u (List.mem_of_getElem? hu))⟩
   ·trivial
  ·trivial
  ·rename_i v _ _
   split
   ·rename_i h;exact zfv h
   ·trivial
 |global g=>exact zaH.atom _ rfl
 |func f=>exact zaH.atom _ rfl
theorem zv9{S:Nat→Prop}{B:Nat→Prop}{tm:Nat→Value}{r:AV}{v:Value}(h:zaQ w S B s tm r v)(hp:(strip r).1):zaQ w S B s tm (strip r).2 v:=by
 unfold strip at hp ⊢
 split at hp
 ·have he:=hp
  subst he
  exact h.2
 ·exact zzM h
 ·exact h
theorem ziO(x:Operand):(look s x).zaa=false:=by
 cases x with
 |tmp t =>
  show (look s (.tmp t)).zaa=false
  simp only[look]
  split
  ·rfl
  ·rfl
  ·rfl
  ·rfl
  ·rfl
  ·rfl
  ·rename_i h1 h2 h3 h4 h5 h6
   cases hs:s t<;>first | rfl | (exact absurd hs (h1 _)) | (exact absurd hs (h2 _ _ _)) | (exact absurd hs (h3 _ _ _)) | (exact absurd hs (h4 _ _)) | (exact absurd hs (h5 _ _ _ _)) | (exact absurd hs (h6 _ _ _ _))
 |const v =>
  show (ze9 v).zaa=false
  unfold ze9
  split
  ·split<;>rfl
  ·rfl
  ·split<;>rfl
 |_=>rfl
theorem zj4{r:AV}{j:Nat}(h:(strip r).2.refs j=true):r.refs j=true:=by
 unfold strip at h
 split at h
 ·exact h
 ·cases h
 ·exact h
theorem zm1{r:AV}{S:Nat→Prop}{B:Nat→Prop}{tm:Nat→Value}{v:Value}(h:zaQ w S B s tm r v)(hr:r.zaa=false):(strip r).2.zaa=false:=by
 unfold strip
 split
 ·exact h.1
 ·rfl
 ·exact hr
def sv(s:St)(x:Operand):Prop×AV:=strip (look s x)
theorem Rel.sv(hR:Rel S0 w0 n s a w)(x:Operand)(hp:(sv s x).1):zgd S0 w0 s a w (sv s x).2 (a.eval x):=
 zv9 (hR.look x) hp
theorem Rel.zlO(hR:Rel S0 w0 n s a w)(x:Operand):(Ab.sv s x).2.zaa=false:=
 zm1 (hR.look x) (ziO x)
theorem zj1{xs:List (List CV)}{size:Nat}(hx:∀x∈xs,x.length=size){k j:Nat}{c:CV}(h:(xs.getD k [])[j]?=some c):xs.flatten[k*size+j]?=some c:=by
 induction xs generalizing k with
 |nil=>simp at h
 |cons x xs ih =>
  have hl:=hx x (by simp)
  cases k with
  |zero =>
   simp only[List.getD_cons_zero] at h
   simp only[List.flatten_cons,Nat.zero_mul,Nat.zero_add]
   rw[List.getElem?_append_left (by have:=(List.getElem?_eq_some_iff.1 h).1;omega)]
   exact h
  |succ k =>
   simp only[List.getD_cons_succ] at h
   have:=ih (fun x hx'=>hx x (by simp[hx'])) h
   simp only[List.flatten_cons]
   rw[List.getElem?_append_right (by rw[hl,Nat.add_mul];omega)]
   rw[←this]
   congr 1
   rw[hl,Nat.add_mul];omega
def mem(s:St):AV→Option (List CV)
 |.ptr i off=>match s i with
  |.box cs=>some (cs.drop off)
  |.gbox _ cs=>some (cs.drop off)
  |_=>none
 |.eptr i k off=>match s i with
  |.own _ _ xs=>some ((xs.getD k []).drop off)
  |_=>none
 |.elem cs=>some cs
 |_=>none
theorem addr_add_add(a:Addr)(i j:Nat):(a.add i).add j=a.add (i+j):=by
 unfold Addr.add
 by_cases hi:i=0<;>by_cases hj:j=0<;>simp[hi,hj,Nat.add_assoc]
theorem zaJ(g o j:Nat):(⟨g,o,none⟩:Addr).add j=⟨g,o+j,none⟩:=by
 unfold Addr.add;split<;>simp_all
theorem Rel.mem(hR:Rel S0 w0 n s a w){r:AV}{v:Value}{cs:List CV}(hr:zgd S0 w0 s a w r v)(hm:mem s r=some cs) :
  ∃ad:Addr,v=.pointer (some ad)∧ad.spot=none∧∀(j:Nat) (c:CV),cs[j]?=some c→∃u,w.cell? (ad.add j)=some u∧zaH w (Shared S0 w0.heap.size w s (zai a)) c u:=by
 cases r with
 |ptr i off =>
  obtain⟨b,rfl,hk⟩:=hr
  refine⟨_,rfl,rfl,fun j c hj=>?_⟩
  rw[zaJ]
  have hi:=hR.rep i
  simp only[Ab.mem] at hm
  split at hm
  ·rename_i cs0 hs
   rw[hs] at hi hk
   obtain⟨b',arr,t,hv,hh,hl,_⟩:=hi
   rw[hv] at hk
   obtain rfl:b'=b:=by simpa[zaf] using hk
   injection hm with hm
   subst hm
   rw[List.getElem?_drop] at hj
   obtain⟨u,hu,hrep⟩:=hl.2 _ _ hj
   exact⟨u,by rw[cell_of_row w b' (off+j) arr t (0,0) hh];simpa using hu,hrep⟩
  ·rename_i b' cs0 hs
   rw[hs] at hi hk
   obtain⟨arr,t,hh,hl,_⟩:=hi
   obtain rfl:b'=b:=by simpa[zaf] using hk
   injection hm with hm
   subst hm
   rw[List.getElem?_drop] at hj
   obtain⟨u,hu,hrep⟩:=hl.2 _ _ hj
   exact⟨u,by rw[cell_of_row w b' (off+j) arr t (0,0) hh];simpa using hu,hrep⟩
  ·cases hm
 |eptr i k off =>
  obtain⟨b,rfl,hk⟩:=hr
  refine⟨_,rfl,rfl,fun j c hj=>?_⟩
  rw[zaJ]
  have hi:=hR.rep i
  simp only[Ab.mem] at hm
  split at hm
  ·rename_i e size xs hs
   rw[hs] at hi hk
   rw[hs]
   obtain⟨us,hown,hl,hx,_⟩:=hi
   injection hm with hm
   subst hm
   rw[List.getElem?_drop] at hj
   obtain⟨u,hu,hrep⟩:=hl.2 _ _ (zj1 hx hj)
   have hc:=hown.cells (g:=b) hk _ _ hu
   rw[zaJ] at hc
   refine⟨u,?_,hrep⟩
   rw[←hc]
   simp only[AV.size,Nat.zero_add,Nat.add_assoc]
  ·cases hm
 |elem cs0 =>
  obtain⟨ad,rfl,hsp,hS,hc⟩:=hr
  simp only[Ab.mem] at hm
  injection hm with hm
  subst hm
  exact⟨ad,rfl,hsp,hc⟩
 |_=>simp[Ab.mem] at hm
end
end Go.Ab
namespace Go.Ab
open Go Go.RowKit
inductive BK where
 |b | i | s
 deriving DecidableEq
def zfq(P:Program):Nat→TypeId→Option (List BK)
 |0,_=>none
 |d+1,t =>
  match P.underlying t with
  |some .bool=>some [.b]
  |some (.int _)=>some [.i]
  |some .string=>some [.s]
  |some (.struct fs)=>if P.stoodInHeld t then none else
   fs.toList.foldl (init:=some []) fun acc f=>match acc,zfq P d f.type with
    | some l, some ks => if f.name = "_" ∨ f.offset ≠ l.length ∨ (P.info? f.type).map (·.size) ≠ some ks.length ∨ ks.length = 0 then none else some (l ++ ks)
    |_,_=>none
  |_=>none
def zjN:List CV→List CV→Bool
 |[],[]=>true
 |.bool a::xs,.bool b::ys=>a==b&&zjN xs ys
 |.int _ a::xs,.int _ b::ys=>a==b&&zjN xs ys
 |.str a::xs,.str b::ys=>a==b&&zjN xs ys
 |_,_=>false
def zdj:List BK→List CV→List CV→Prop
 |[],[],[]=>True
 |.b::ks,.bool _::xs,.bool _::ys=>zdj ks xs ys
 |.i::ks,.int k _::xs,.int k' _::ys=>k=k'∧zdj ks xs ys
 |.s::ks,.str _::xs,.str _::ys=>zdj ks xs ys
 |_,_,_=>False
def eqT(P:Program)(t:TypeId):Option (List BK):=
 match P.eqGuardType P.depth t,P.underlying t,zfq P 100 t with
 |false,some (.struct _),some (k::ks)=>some (k::ks)
 |_,_,_=>none
inductive KK where
 |s
 |i (k:IntKind)
 |b
 |st (ks:List BK)
def zq8(P:Program)(t:TypeId):Bool:=match P.underlying t with
 |some .string=>true
 |some (.int _)=>true
 |some .bool=>true
 |_=>false
def zIh(P:Program)(k:TypeId):Option KK:=match P.underlying k with
 |some .string=>some .s
 |some (.int k)=>some (.i k)
 |some .bool=>some .b
 |some (.struct fs)=>match eqT P k,fs.toList.all fun f=>zq8 P f.type with
  |some ks,true=>some (.st ks)
  |_,_=>none
 |_=>none
def zrr(P:Program)(t:TypeId):Option (KK×TypeId):=
 match P.underlying t with
 |some (.map k e)=>match zIh P k with
  |some kk=>some (kk,e)
  |none=>none
 |_=>none
def zjl:List BK→List CV→List CV→Bool
 |[],[],[]=>true
 |.b::ks,.bool _::xs,.bool _::ys=>zjl ks xs ys
 |.i::ks,.int k _::xs,.int k' _::ys=>k==k'&&zjl ks xs ys
 |.s::ks,.str _::xs,.str _::ys=>zjl ks xs ys
 |_,_,_=>false
def zl6:KK→XV→XV→Option Bool
 |.s,.one (.str a),.one (.str b)=>some (a==b)
 |.i _,.one (.int k a),.one (.int k' b)=>if k=k' then some (a==b) else none
 |.b,.one (.bool a),.one (.bool b)=>some (a==b)
 |.st ks,.agg xs,.agg ys=>if zjl ks xs ys then some (zjN xs ys) else none
 |_,_,_=>none
def zdY:KK→XV→Bool
 |.s,.one (.str _)=>true
 |.i q,.one (.int k _)=>decide (k=q)
 |.b,.one (.bool _)=>true
 |.st ks,.agg xs=>zjl ks xs xs
 |_,_=>false
def zm8(a:Bool)(cs:List CV):XV:=match a,cs with
 |false,[c]=>.one c
 |_,cs=>.agg cs
def mvE(ka va:Bool)(ks vs:List (List CV)):List (XV×XV):=(ks.zip vs).map fun x=>(zm8 ka x.1,zm8 va x.2)
def zbz(kk:KK)(k:XV):List (XV×XV)→Nat→Option (Option Nat)
 |[],_=>some none
 |e::r,i=>match zl6 kk k e.1 with
  |some true=>some (some i)
  |some false=>zbz kk k r (i+1)
  |none=>none
def zij(c:Nat)(bs:List Nat)(es:List (XV×XV))(k v:XV):Option Nat→Nat×List Nat×List (XV×XV)
 |some i=>(c,bs,es.set i (k,v))
 |none=>(c+1,bs++[c],es++[(k,v)])
def zbp(P:Program)(t:TypeId):Option XV:=
 match P.info? t with
 |some i=>match i.zero with
  |some (.agg us)=>if us.toList.all zcr then some (.agg (us.toList.map zhp)) else none
  |some v=>if zcr v then some (.one (zhp v)) else none
  |none=>none
 |none=>none
end Go.Ab
namespace Go.Ab
open Go Go.RowKit
variable [Amb]
def bitsOf(op:BinOp)(k:IntKind)(x y:Int):Int:=
 let a:=BitVec.ofInt k.bits x
 let b:=BitVec.ofInt k.bits y
 match op with
 |.and=>k.wrap (a &&& b).toNat
 |.or=>k.wrap (a ||| b).toNat
 |.xor=>k.wrap (a ^^^ b).toNat
 |_=>k.wrap (a &&& ~~~b).toNat
def ltB(a b:List UInt8):Bool:=Op.bytesLess a b
def zGC(op:BinOp)(x y:CV):Prop×CV:=
 match x,y with
 |.int k a,.int k' b =>
  match op with
  |.shl=>(0≤b,.int k (k.wrap (a*2 ^ (min b.toNat k.bits))))
  |.shr=>(0≤b,.int k (a.fdiv (2 ^ (min b.toNat k.bits))))
  |.add=>(k=k',.int k (k.wrap (a+b)))
  |.sub=>(k=k',.int k (k.wrap (a-b)))
  |.mul=>(k=k',.int k (k.wrap (a*b)))
  |.quo=>(k=k'∧b≠0,.int k (k.wrap (a.tdiv b)))
  |.rem=>(k=k'∧b≠0,.int k (a.tmod b))
  |.and=>(k=k',.int k (bitsOf .and k a b))
  |.or=>(k=k',.int k (bitsOf .or k a b))
  |.xor=>(k=k',.int k (bitsOf .xor k a b))
  |.andNot=>(k=k',.int k (bitsOf .andNot k a b))
  |.eql=>(k=k',.bool (a==b))
  |.neq=>(k=k',.bool (a != b))
  |.lss=>(k=k',.bool (decide (a<b)))
  |.leq=>(k=k',.bool (decide (a≤b)))
  |.gtr=>(k=k',.bool (decide (b<a)))
  |.geq=>(k=k',.bool (decide (b≤a)))
 |.str a,.str b =>
  match op with
  |.add=>(a.length+b.length≤maxLen,.str (a++b))
  |.eql=>(True,.bool (a==b))
  |.neq=>(True,.bool (!(a==b)))
  |.lss=>(True,.bool (ltB a b))
  |.leq=>(True,.bool (ltB a b || a==b))
  |.gtr=>(True,.bool (!(ltB a b || a==b)))
  |.geq=>(True,.bool (!ltB a b))
  |_=>(False,.nil)
 |_,_=>(False,.nil)
def zhS:CV→Option Bool
 |.nil=>some true
 |.empty _=>some false
 |.list _ (_::_)=>some false
 |_=>none
def za6(P:Program)(t:TypeId):Bool:=
 match P.underlying t with
 |some (.slice _)=>true
 |_=>false
def zQ4(P:Program)(op:BinOp)(t:TypeId)(p q:Prop)(b:Option Bool):Prop×AV:=
 match op,b with
 |.eql,some b=>(p∧q∧za6 P t=true,.x (.one (.bool b)))
 |.neq,some b=>(p∧q∧za6 P t=true,.x (.one (.bool (!b))))
 |_,_=>(False,.dead)
def zcI(P:Program)(op:BinOp)(t:TypeId)(x y:Prop×AV):Prop×AV:=
 match x,y with
 |(p,.x (.one (.bool a))),(q,.x (.one (.bool b))) =>
  match op with
  |.eql=>(p∧q∧P.underlying t=some .bool,.x (.one (.bool (a==b))))
  |.neq=>(p∧q∧P.underlying t=some .bool,.x (.one (.bool (a != b))))
  |_=>(False,.dead)
 |(p,.x (.one a)),(q,.x (.one .nil))=>zQ4 P op t p q (zhS a)
 |(p,.x (.one a)),(q,.x (.one b))=>(p∧q∧(zGC op a b).1,.x (.one (zGC op a b).2))
 |(p,.x (.agg xs)),(q,.x (.agg ys)) =>
  match eqT P t with
  |some ks=>match op with
   |.eql=>(p∧q∧zdj ks xs ys,.x (.one (.bool (zjN xs ys))))
   |.neq=>(p∧q∧zdj ks xs ys,.x (.one (.bool (!zjN xs ys))))
   |_=>(False,.dead)
  |none=>(False,.dead)
 |_,_=>(False,.dead)
def zwR(e:Bool):XV→XV→XV
 |.one (.bool a),.one (.bool b)=>.one (.bool (bif e then a else b))
 |x,y=>bif e then x else y
def zuC(c a b:Prop×AV):Prop×AV:=
 match c,a,b with
 |(pc,.x (.one (.bool e))),(pa,.x xa),(pb,.x xb)=>(pc∧(e=true→pa)∧(e=false→pb),.x (zwR e xa xb))
 |_,_,_=>(False,.dead)
def zJZ(k:TK)(p:Prop)(cs:List CV):Prop×AV:=
 match k with
 |.agg n=>(p∧n≤cs.length,.x (.agg (cs.take n)))
 |.one=>match cs with
  |c::_=>(p,.x (.one c))
  |[]=>(False,.dead)
 |.bad=>(False,.dead)
def znl(k:TK)(z:Option XV)(p:Prop)(cs:List CV):Prop×AV:=
 match k,cs with
 |.one,[]=>match z with
  |some x=>(False,.x x)
  |none=>(False,.dead)
 |k,cs=>zJZ k p cs
def zeD(k:TK)(z:Option XV)(p:Prop)(m:Option (List CV)):Prop×AV:=
 match m with
 |some cs=>znl k z p cs
 |none=>(False,.dead)
def zGo:AV→Bool
 |.ptr _ _=>true
 |.eptr _ _ _=>true
 |.elem _=>true
 |_=>false
def zbT(P:Program)(t:TypeId)(f:Nat)(x:Prop×AV):Prop×AV:=
 match fieldAt P t f,x with
 |some (o,_),(p,.ptr i off)=>(p,.ptr i (off+o))
 |some (o,_),(p,.eptr i k off)=>(p,.eptr i k (off+o))
 |some (o,_),(p,.elem cs)=>(p,.elem (cs.drop o))
 |_,_=>(False,.dead)
def zj9(P:Program)(t:TypeId)(f:Nat)(x:Prop×AV):Prop×AV:=
 match fieldAt P t f,x with
 |some (o,k),(p,.x (.agg cs))=>zJZ k p (cs.drop o)
 |_,_=>(False,.dead)
def zJN(P:Program)(t:TypeId):Option (Nat×Nat):=
 match P.underlying t with
 |some (.array len e)=>match P.info? e with
  |some i=>some (len,i.size)
  |none=>none
 |_=>none
def zek(P:Program)(t:TypeId)(x i:Prop×AV):Prop×AV:=
 match zJN P t,x,i with
 |some (len,size),(p,.ptr j off),(q,.x (.one (.int _ n)))=>(p∧q∧0≤n∧n<len,.ptr j (off+n.toNat*size))
 |some (len,size),(p,.elem cs),(q,.x (.one (.int _ n)))=>(p∧q∧0≤n∧n<len,.elem (cs.drop (n.toNat*size)))
 |_,_,_=>(False,.dead)
def zaM(P:Program)(s:St)(t:TypeId)(x i:Prop×AV):Prop×AV:=
 match sliceT P t,x,i with
 |some (_,size),(p,.x (.one (.list z xs))),(q,.x (.one (.int _ n)))=>(p∧q∧z=size∧0≤n∧n<xs.length,.elem (xs.getD n.toNat []))
 |some (_,size),(p,.alias j),(q,.x (.one (.int _ n)))=>match s j with
  |.own _ z xs=>(p∧q∧z=size∧0≤n∧n<xs.length,.eptr j n.toNat 0)
  |_=>(False,.dead)
 |some (_,size),(p,.view j lo len _),(q,.x (.one (.int _ n)))=>(p∧q∧(s j).size=size∧0≤n∧n<len,.eptr j (lo+n.toNat) 0)
 |_,_,_=>zek P t x i
def zn5(P:Program)(t:TypeId)(x i:Prop×AV):Prop×AV:=
 match x,i with
 |(p,.x (.one (.str l))),(q,.x (.one (.int _ n)))=>(p∧q∧zaD P t=true∧0≤n∧n<l.length,.x (.one (.int .u8 (l.getD n.toNat 0).toNat)))
 |_,_=>(False,.dead)
def zeY(x:Prop×AV)(i:Nat):Prop×AV:=
 match x with
 |(p,.tup vs)=>match vs[i]? with
  |some v=>(p,.x v)
  |none=>(False,.dead)
 |_=>(False,.dead)
def zpw(P:Program)(s:St)(t:TypeId)(x:Prop×AV):Prop×AV:=
 match x with
 |(p,.x (.one (.str l)))=>(p∧zaD P t=true,.x (.one (.int .i64 l.length)))
 |(p,.x (.one .nil))=>(p∧(sliceT P t).isSome=true,.x (.one (.int .i64 0)))
 |(p,.x (.one (.empty _)))=>(p∧(sliceT P t).isSome=true,.x (.one (.int .i64 0)))
 |(p,.x (.one (.list _ xs)))=>(p∧(sliceT P t).isSome=true,.x (.one (.int .i64 xs.length)))
 |(p,.alias i)=>match s i with
  |.own _ _ xs=>(p∧(sliceT P t).isSome=true,.x (.one (.int .i64 xs.length)))
  |.mp _ _ es=>(p∧(zrr P t).isSome=true,.x (.one (.int .i64 es.length)))
  |_=>(False,.dead)
 |(p,.view _ _ len _)=>(p∧(sliceT P t).isSome=true,.x (.one (.int .i64 len)))
 |_=>(False,.dead)
def zOA(P:Program)(t:TypeId)(x:Prop×AV):Prop×AV:=
 match x with
 |(p,.x (.one .nil))=>(p∧(sliceT P t).isSome=true,.x (.one (.int .i64 0)))
 |_=>(False,.dead)
def zl1(es:List (XV×XV))(z:XV)(ok:Bool):Option Nat→AV
 |some j=>if ok then .tup [((es[j]?).getD (z,z)).2,.one (.bool true)] else .x ((es[j]?).getD (z,z)).2
 |none=>if ok then .tup [z,.one (.bool false)] else .x z
def zew(P:Program)(s:St)(t:TypeId)(x k:Prop×AV)(ok:Bool):Prop×AV:=
 match zrr P t,x,k with
 |some (kk,e),(p,.alias i),(q,.x kx)=>match s i with
  |.mp _ _ es=>match zbz kk kx es 0,zbp P e with
   |some r,some z=>(p∧q∧zdY kk kx=true,zl1 es z ok r)
   |_,_=>(False,.dead)
  |_=>(False,.dead)
 |some (kk,e),(p,.x (.one (.mapv ka va ks vs))),(q,.x kx)=>match zbz kk kx (mvE ka va ks vs) 0,zbp P e with
  |some r,some z=>(p∧q∧zdY kk kx=true,zl1 (mvE ka va ks vs) z ok r)
  |_,_=>(False,.dead)
 |_,_,_=>(False,.dead)
def zFo(x y:Prop×AV):Prop×AV:=
 match x,y with
 |(p,.x (.one (.int k a))),(q,.x (.one (.int _ b)))=>(p∧q,.x (.one (.int k (max a b))))
 |_,_=>(False,.dead)
def zE9(x y:Prop×AV):Prop×AV:=
 match x,y with
 |(p,.x (.one (.int k a))),(q,.x (.one (.int _ b)))=>(p∧q,.x (.one (.int k (min a b))))
 |_,_=>(False,.dead)
def zaw(s:St)(o:Option Operand)(other:Int):Prop×Option Int:=
 match o with
 |none=>(True,some other)
 |some x=>match sv s x with
  |(p,.x (.one (.int _ n)))=>(p,some n)
  |_=>(False,none)
def cutAt{α:Type}(l:List α)(lo hi:Int):List α:=(l.take hi.toNat).drop lo.toNat
def zcc(P:Program)(s:St)(t:TypeId)(x:Prop×AV)(lo hi mx:Option Operand):Prop×AV:=
 match x with
 |(p,.x (.one (.str l)))=>match mx,zaw s lo 0,zaw s hi l.length with
  |none,(q,some a),(r,some b)=>(p∧q∧r∧zaD P t=true∧0≤a∧a≤b∧b≤l.length,.x (.one (.str (cutAt l a b))))
  |_,_,_=>(False,.dead)
 |(p,.x (.one (.list z xs)))=>match sliceT P t,zaw s lo 0,zaw s hi xs.length,zaw s mx xs.length with
  |some (_,size),(q,some a),(r,some b),(u,some c)=>(p∧q∧r∧u∧z=size∧0≤a∧a≤b∧b≤c∧c≤xs.length∧(hi=none→mx=none),.x (.one (.list z (cutAt xs a b))))
  |_,_,_,_=>(False,.dead)
 |(p,.x (.one .nil))=>match sliceT P t,zaw s lo 0,zaw s hi 0,mx with
  |some _,(q,some a),(r,some b),none=>(p∧q∧r∧a=0∧b=0,.x (.one .nil))
  |_,_,_,_=>(False,.dead)
 |(p,.alias i)=>match s i with
  |.own _ z xs=>match sliceT P t,zaw s lo 0,zaw s hi xs.length,zaw s mx xs.length with
   |some (_,size),(q,some a),(r,some b),(u,some c)=>(p∧q∧r∧u∧z=size∧0≤a∧a≤b∧b≤c∧c≤xs.length∧(hi=none→mx=none),.view i a.toNat (b.toNat-a.toNat) (lo.isNone&&mx.isNone))
   |_,_,_,_=>(False,.dead)
  |_=>(False,.dead)
 |(p,.view i lo0 len wh)=>match sliceT P t,zaw s lo 0,zaw s hi len,zaw s mx len with
  |some (_,size),(q,some a),(r,some b),(u,some c)=>(p∧q∧r∧u∧(s i).size=size∧0≤a∧a≤b∧b≤c∧c≤len∧(hi=none→mx=none),.view i (lo0+a.toNat) (b.toNat-a.toNat) (wh&&(lo.isNone&&mx.isNone)))
  |_,_,_,_=>(False,.dead)
 |_=>(False,.dead)
def zuZ(op:UnOp)(x:Prop×AV):Prop×AV:=
 match op,x with
 |.not,(p,.x (.one (.bool b)))=>(p,.x (.one (.bool (!b))))
 |.neg,(p,.x (.one (.int k n)))=>(p,.x (.one (.int k (k.wrap (0-n)))))
 |_,_=>(False,.dead)
def zsJ(P:Program)(t:TypeId):Option IntKind:=
 match P.underlying t with
 |some (.int k)=>some k
 |_=>none
def zbO(s:St)(size:Nat):AV→Option (List (List CV))
 |.x (.one .nil)=>some []
 |.x (.one (.empty z))=>if z=size then some [] else none
 |.x (.one (.list z ys))=>if z=size then some ys else none
 |.alias j=>match s j with
  |.own _ z ys=>if z=size then some ys else none
  |_=>none
 |.view j lo len _=>match s j with
  |.own _ z ys=>if z=size then some ((ys.drop lo).take len) else none
  |_=>none
 |_=>none
def zj5(P:Program)(e:TypeId):Bool:=match P.underlying e,P.info? e with
 |some (.int .u8),some i=>(match i.zero with
  |some (.int .u8 0)=>true
  |_=>false)&&(i.size==1&&i.bytes==1)
 |_,_=>false
abbrev byteRow(b:UInt8):List CV:=[.int .u8 b.toNat]
def zad(l:List UInt8):List (List CV):=l.map byteRow
def zcT(P:Program)(t:TypeId):Bool:=match P.underlying t with
 |some (.slice e)=>zj5 P e
 |_=>false
def okB(xs:List (List CV)):Prop:=∀x∈xs,∃n,x=[.int .u8 n]
def zvV:List CV→UInt8
 |.int _ n::_=>UInt8.ofNat n.toNat
 |_=>0
def ztx(xs:List (List CV)):List UInt8:=xs.map zvV
def zbR(P:Program)(s:St)(src dst:TypeId)(x:Prop×AV):Prop×AV:=
 match x with
 |(p,.x (.one (.int _ n)))=>match zsJ P dst with
  |some k=>(p∧(P.underlying src).isSome=true,.x (.one (.int k (k.wrap n))))
  |none=>(p∧(P.underlying src).isSome=true∧zaD P dst=true∧0≤n∧n<128,.x (.one (.str [UInt8.ofNat n.toNat])))
 |(p,.x (.one (.str l)))=>(p∧zaD P src=true∧zaD P dst=true,.x (.one (.str l)))
 |(p,v)=>match zbO s 1 v with
  |some xs=>(p∧zcT P src=true∧zaD P dst=true∧okB xs,.x (.one (.str (ztx xs))))
  |none=>(False,.dead)
def zc4(P:Program)(s:St)(c:Callee)(args:List Operand)(ts:List TypeId):Prop×AV:=
 match c with
 |.builtin .len=>match args,ts with
  |[x],[t]=>zpw P s t (sv s x)
  |_,_=>(False,.dead)
 |.builtin .cap=>match args,ts with
  |[x],[t]=>zOA P t (sv s x)
  |_,_=>(False,.dead)
 |.builtin .max=>match args with
  |[x,y]=>zFo (sv s x) (sv s y)
  |_=>(False,.dead)
 |.builtin .min=>match args with
  |[x,y]=>zE9 (sv s x) (sv s y)
  |_=>(False,.dead)
 |_=>(False,.dead)
def zf3:List (Prop×AV)→Prop×Option (List CV)
 |[]=>(True,some [])
 |(p,.x (.one c))::r=>match zf3 r with
  |(q,some cs)=>(p∧q,some (c::cs))
  |_=>(False,none)
 |_=>(False,none)
def ze1:List (Prop×AV)→Prop×Option (List (CV ⊕ (Nat×Nat)))
 |[]=>(True,some [])
 |(p,.x (.one c))::r=>match ze1 r with
  |(q,some cs)=>(p∧q,some (.inl c::cs))
  |_=>(False,none)
 |(p,.ptr i off)::r=>match ze1 r with
  |(q,some cs)=>(p∧off<1000000∧q,some (.inr (i,off)::cs))
  |_=>(False,none)
 |(p,.ptr2 i off)::r=>match ze1 r with
  |(q,some cs)=>(p∧q,some (.inr (i,off+1000000)::cs))
  |_=>(False,none)
 |_=>(False,none)
def zdc(s:St)(fn:Fn)(first captured:List Operand):Prop×AV:=
 match fn,first with
 |.func f,[]=>match zf3 (captured.map (sv s)) with
  |(p,some cs)=>(p,.x (.one (.clo f cs)))
  |_=>match ze1 (captured.map (sv s)) with
   |(p,some cs)=>(p,.cloR f cs)
   |_=>(False,.dead)
 |_,_=>(False,.dead)
def zpI:Operand→Bool
 |.const .nilIface=>true
 |_=>false
def zhf(P:Program)(t:TypeId):Bool:=
 match P.underlying t with
 |some (.interface _)=>true
 |_=>false
def zry(P:Program)(op:BinOp)(t:TypeId)(x:Prop×AV):Prop×AV:=
 match x,op with
 |(p,.x (.one (.atom .nilIface))),.eql=>(p∧zhf P t=true,.x (.one (.bool true)))
 |(p,.x (.one (.atom .nilIface))),.neq=>(p∧zhf P t=true,.x (.one (.bool false)))
 |(p,.x (.one (.atom (.iface _ _)))),.eql=>(p∧zhf P t=true,.x (.one (.bool false)))
 |(p,.x (.one (.atom (.iface _ _)))),.neq=>(p∧zhf P t=true,.x (.one (.bool true)))
 |_,_=>(False,.dead)
theorem zv0(P:Program)(op:BinOp)(t:TypeId)(x:Prop×AV):(zry P op t x).2=.dead∨∃b,(zry P op t x).2=.x (.one (.bool b)):=by
 unfold zry
 split<;>first | exact Or.inl rfl | exact Or.inr ⟨_,rfl⟩
def zkK(P:Program)(s:St)(op:BinOp)(t:TypeId)(x y:Operand):Prop×AV:=bif zpI y then zry P op t (sv s x) else zcI P op t (sv s x) (sv s y)
def za0(s:St)(r:AV)(v:Prop×AV):Prop×AV:=
 match v with
 |(p,.x (.one .any))=>match r with
  |.ptr i off=>match s (LK i off) with
   |.link i' o d=>match i'==i&&o==off with
    |true=>(p,.alias d)
    |false=>(p,.x (.one .any))
   |_=>(p,.x (.one .any))
  |_=>(p,.x (.one .any))
 |v=>v
theorem zex(s:St)(r:AV)(v:Prop×AV):za0 s r v=v∨∃p i off d,v=(p,.x (.one .any))∧r=.ptr i off∧s (LK i off)=.link i off d∧za0 s r v=(p,.alias d):=by
 unfold za0
 split
 ·rename_i p
  split
  ·rename_i i off
   split
   ·rename_i i' o d hs
    split
    ·rename_i h
     simp only[Bool.and_eq_true,beq_iff_eq] at h
     obtain⟨rfl,rfl⟩:=h
     exact .inr ⟨p,_,_,d,rfl,rfl,hs,rfl⟩
    ·exact .inl rfl
   ·exact .inl rfl
  ·exact .inl rfl
 ·exact .inl rfl
theorem zjj(s:St)(cs:List CV)(v:Prop×AV):za0 s (.elem cs) v=v:=by
 rcases zex s (.elem cs) v with e | ⟨_,_,_,_,_,e,_⟩
 ·exact e
 ·cases e
def zhU(P:Program)(s:St)(t:TypeId)(x:Prop×AV):Prop×AV:=
 match x with
 |(p,.ptr2 i off)=>match tk P t with
  |.one=>(p,.ptr i off)
  |_=>(False,.dead)
 |x=>za0 s x.2 (zeD (tk P t) (zbp P t) x.1 (mem s x.2))
def zdP(P:Program)(s:St):Op→Prop×AV
 |.move x=>sv s x
 |.assign x=>(True,look s x)
 |.pick c a b=>zuC (sv s c) (sv s a) (sv s b)
 |.load t x=>zhU P s t (sv s x)
 |.nilCheck x=>match zGo (sv s x).2 with
  |true=>sv s x
  |false=>(False,.dead)
 |.binOp op t x y _=>zkK P s op t x y
 |.unOp op _ x=>zuZ op (sv s x)
 |.convert src dst x=>zbR P s src dst (sv s x)
 |.slice t x lo hi mx=>zcc P s t (sv s x) lo hi mx
 |.fieldAddr t x f=>zbT P t f (sv s x)
 |.field t x f=>zj9 P t f (sv s x)
 |.indexAddr t x i=>zaM P s t (sv s x) (sv s i)
 |.index t x i=>zn5 P t (sv s x) (sv s i)
 |.extract x i=>zeY (sv s x) i
 |.makeFunc fn first captured=>zdc s fn first.toList captured.toList
 |.lookup t x k ok=>zew P s t (sv s x) (sv s k) ok
 |.call c=>zc4 P s c.callee c.args.toList c.argTypes.toList
 |_=>(False,.dead)
end Go.Ab
namespace Go.Ab
open Go Go.RowKit
variable [Amb]
section
variable {P:Program}{S0:Env}{w0 w:World}{n:Nat}{s:St}{a:Act}
theorem zbX{w:World}{S:Nat→Prop}{b:Bool}{v:Value}(h:zaH w S (.bool b) v):v=.bool b:=by cases h;rfl
theorem zbg{w:World}{S:Nat→Prop}{k:IntKind}{m:Int}{v:Value}(h:zaH w S (.int k m) v):v=.int k m:=by cases h;rfl
theorem zb4{w:World}{S:Nat→Prop}{l:List UInt8}{v:Value}(h:zaH w S (.str l) v):v=.string ⟨l.toArray⟩∧l.length≤maxLen:=by
 cases h with
 |str _ h=>exact⟨rfl,h⟩
theorem zdW{w:World}{S:Nat→Prop}{v:Value}(h:zaH w S .nil v):v=.slice none 0 0:=by cases h;rfl
theorem zxS(l:List UInt8):(⟨l.toArray⟩:ByteArray).toList=l:=ByteArray.toList_mk l
theorem zi8(l:List UInt8):(⟨l.toArray⟩:ByteArray).size=l.length:=by simp[ByteArray.size]
theorem zH2(op:BinOp)(t:TypeId){x y:CV}{u v:Value}{S:Nat→Prop}(hx:zaH w S x u)(hy:zaH w S y v)(hp:(zGC op x y).1) :
  ∃r,(binOp op t u v).run P w=.ok r w∧zaH w S (zGC op x y).2 r:=by
 cases x<;>cases y<;>try (exact hp.elim)
 case int.int k m k' m' =>
  obtain rfl:=zbg hx
  obtain rfl:=zbg hy
  cases op<;>simp only[zGC] at hp ⊢<;>simp only[binOp]
  case shl=>exact⟨_,by simp only[Op.shift];rw[if_neg (by omega)];rfl,.int _ _⟩
  case shr=>exact⟨_,by simp only[Op.shift];rw[if_neg (by omega)];rfl,.int _ _⟩
  case quo=>obtain⟨rfl,hp⟩:=hp;exact⟨_,by simp[Op.intDiv,hp],.int _ _⟩
  case rem=>obtain⟨rfl,hp⟩:=hp;exact⟨_,by simp[Op.intDiv,hp],.int _ _⟩
  all_goals subst hp
  all_goals simp only[ne_eq,not_true_eq_false,if_false]
  case add=>exact⟨_,rfl,.int _ _⟩
  case sub=>exact⟨_,rfl,.int _ _⟩
  case mul=>exact⟨_,rfl,.int _ _⟩
  case and=>exact⟨_,rfl,.int _ _⟩
  case or=>exact⟨_,rfl,.int _ _⟩
  case xor=>exact⟨_,rfl,.int _ _⟩
  case andNot=>exact⟨_,rfl,.int _ _⟩
  all_goals exact⟨_,rfl,.bool _⟩
 case str.str l l' =>
  obtain⟨rfl,hl⟩:=zb4 hx
  obtain⟨rfl,hl'⟩:=zb4 hy
  cases op<;>simp only[zGC] at hp ⊢<;>(try exact hp.elim)<;>simp only[binOp,Op.stringOp,zxS,zi8]
  case add =>
   refine⟨.string ⟨(l++l').toArray⟩,?_,.str _ (by simpa using hp)⟩
   rw[if_neg (by simp only[maxLen] at hp;simp[IntKind.max,IntKind.signed,IntKind.bits];omega)]
   show Result.ok (Value.string (⟨l.toArray⟩++⟨l'.toArray⟩)) w=_
   congr 2
  all_goals exact⟨_,rfl,.bool _⟩
theorem zso(op:BinOp)(t:TypeId)(o1 o2:Operand){x y:CV}{u v:Value}{S:Nat→Prop}(hx:zaH w S x u)(hy:zaH w S y v)(hp:(zGC op x y).1) :
  (eqGuard op t o1 o2 u v).run P w=.ok () w:=by
 cases x<;>cases y<;>try (exact hp.elim)
 case int.int=>obtain rfl:=zbg hx;rw[eqGuard_at_int];rfl
 case str.str=>obtain⟨rfl,_⟩:=zb4 hx;rw[eqGuard_at_string];rfl
theorem zls{t:TypeId}{d:TypeDesc}(h:P.underlying t=some d)(w:World):(isAgg t).run P w=.ok (match d with | .struct _=>true | .array _ _=>true | _=>false) w:=by
 simp only[isAgg,Sem.run_bind,run_underlying h,Result.andThen_ok]
 cases d<;>rfl
theorem run_sizeOf{t:TypeId}{i:TypeInfo}(h:P.info? t=some i)(w:World):(sizeOf t).run P w=.ok i.size w:=by
 simp[sizeOf,typeInfo,h]
theorem info_of_underlying{t:TypeId}{d:TypeDesc}(h:P.underlying t=some d):∃i,P.info? t=some i:=by
 cases hi:P.info? t with
 |some i=>exact⟨i,rfl⟩
 |none=>simp[Program.underlying,hi] at h
def valOf(P:Program)(t:TypeId)(us:List Value):Value:=
 match P.underlying t with
 |some (.struct _)=>.agg us.toArray
 |some (.array _ _)=>.agg us.toArray
 |_=>us.headD undef
theorem zos{t:TypeId}{d:TypeDesc}{i:TypeInfo}(h:P.underlying t=some d)(hi:P.info? t=some i)(us:Array Value)(off:Nat)(hl:off+i.size≤us.size)(hs:0<i.size)(w:World) :
  (part t us off).run P w=.ok (valOf P t ((us.toList.drop off).take i.size)) w:=by
 have hat:us[off]?=some us[off]:=Array.getElem?_eq_getElem (by omega)
 have hdrop:us.toList.drop off=us[off]::us.toList.drop (off+1):=by
  rw[List.drop_eq_getElem_cons (by simp;omega)];simp
 have hagg:us.extract off (off+i.size)=((us.toList.drop off).take i.size).toArray:=by
  apply Array.ext'
  simp only[Array.toList_extract,List.extract_eq_take_drop]
  simp
 have hhead:((us.toList.drop off).take i.size).head?.getD undef=us[off]:=by
  rw[hdrop]
  obtain⟨m,hm⟩:∃m,i.size=m+1:=⟨i.size-1,by omega⟩
  rw[hm];rfl
 simp only[part,Sem.run_bind,zls h,Result.andThen_ok,valOf,h]
 cases d with
 |struct fs=>simp[run_sizeOf hi,hagg]
 |array k e=>simp[run_sizeOf hi,hagg]
 |_=>simp[hat,hhead]
theorem zfd:∀{ks:List BK} {xs ys:List CV},zdj ks xs ys→xs.length=ks.length∧ys.length=ks.length:=by
 intro ks
 induction ks with
 |nil=>intro xs ys h;cases xs<;>cases ys<;>simp_all [zdj]
 |cons k ks ih =>
  intro xs ys h
  cases k<;>cases xs with
  |nil=>simp[zdj] at h
  |cons x xs =>
   cases ys with
   |nil=>cases x<;>simp[zdj] at h
   |cons y ys =>
    cases x<;>cases y<;>simp only[zdj] at h<;>first
     |exact h.elim
     |(have:=ih h;simp[this.1,this.2])
     |(have:=ih h.2;simp[this.1,this.2])
theorem zmI:∀{k1 k2:List BK} {xs ys:List CV},zdj (k1++k2) xs ys →
  zdj k1 (xs.take k1.length) (ys.take k1.length)∧zdj k2 (xs.drop k1.length) (ys.drop k1.length) ∧
  zjN xs ys=(zjN (xs.take k1.length) (ys.take k1.length)&&zjN (xs.drop k1.length) (ys.drop k1.length)):=by
 intro k1
 induction k1 with
 |nil=>intro k2 xs ys h;exact⟨trivial,h,by simp[zjN]⟩
 |cons k k1 ih =>
  intro k2 xs ys h
  cases k<;>cases xs with
  |nil=>simp[zdj] at h
  |cons x xs =>
   cases ys with
   |nil=>cases x<;>simp[zdj] at h
   |cons y ys =>
    cases x<;>cases y<;>simp only[List.cons_append,zdj] at h<;>first
     |exact h.elim
     |(obtain⟨h1,h2,h3⟩:=ih h;exact⟨h1,h2,by simp only[List.length_cons,List.take_succ_cons,List.drop_succ_cons,zjN,h3,Bool.and_assoc]⟩)
     |(obtain⟨h0,h⟩:=h;obtain⟨h1,h2,h3⟩:=ih h;exact⟨⟨h0,h1⟩,h2,by simp only[List.length_cons,List.take_succ_cons,List.drop_succ_cons,zjN,h3,Bool.and_assoc]⟩)
theorem zbP.sub{S:Nat→Prop}{xs:List CV}{us:List Value}(h:zbP w S xs us)(o m:Nat):zbP w S ((xs.drop o).take m) ((us.drop o).take m):=by
 refine⟨by simp[h.1],fun j c hj=>?_⟩
 rw[List.getElem?_take] at hj
 split at hj
 ·rename_i hlt
  rw[List.getElem?_drop] at hj
  obtain⟨u,hu,hr⟩:=h.2 _ _ hj
  exact⟨u,by rw[List.getElem?_take,if_pos hlt,List.getElem?_drop];exact hu,hr⟩
 ·cases hj
theorem zbP.drop{S:Nat→Prop}{xs:List CV}{us:List Value}(h:zbP w S xs us)(o:Nat):zbP w S (xs.drop o) (us.drop o):=by
 refine⟨by simp[h.1],fun j c hj=>?_⟩
 rw[List.getElem?_drop] at hj
 obtain⟨u,hu,hr⟩:=h.2 _ _ hj
 exact⟨u,by rw[List.getElem?_drop];exact hu,hr⟩
theorem zbP.head{S:Nat→Prop}{x:CV}{xs:List CV}{us:List Value}(h:zbP w S (x::xs) us):∃u r,us=u::r∧zaH w S x u:=by
 obtain⟨u,hu,hr⟩:=h.2 0 x rfl
 cases us with
 |nil=>simp at hu
 |cons u' r=>simp at hu;subst hu;exact⟨_,_,rfl,hr⟩
theorem zUq{xs ys:List CV}(h:zdj [.b] xs ys):∃p q,xs=[.bool p]∧ys=[.bool q]:=by
 obtain⟨h1,h2⟩:=zfd h
 match xs,ys,h1,h2 with
 |[x],[y],_,_=>cases x<;>cases y<;>simp_all [zdj]
theorem zUn{xs ys:List CV}(h:zdj [.i] xs ys):∃k p q,xs=[.int k p]∧ys=[.int k q]:=by
 obtain⟨h1,h2⟩:=zfd h
 match xs,ys,h1,h2 with
 |[x],[y],_,_=>cases x<;>cases y<;>simp_all [zdj]
theorem zU4{xs ys:List CV}(h:zdj [.s] xs ys):∃p q,xs=[.str p]∧ys=[.str q]:=by
 obtain⟨h1,h2⟩:=zfd h
 match xs,ys,h1,h2 with
 |[x],[y],_,_=>cases x<;>cases y<;>simp_all [zdj]
def zce(P:Program)(d:Nat)(acc:Option (List BK))(f:Field):Option (List BK):=
 match acc,zfq P d f.type with
 | some l, some ks => if f.name = "_" ∨ f.offset ≠ l.length ∨ (P.info? f.type).map (·.size) ≠ some ks.length ∨ ks.length = 0 then none else some (l ++ ks)
 |_,_=>none
theorem zch(d:Nat):∀(fs:List Field),fs.foldl (zce P d) none=none
 |[]=>rfl
 |_::fs=>zch d fs
theorem zfo{d:Nat}{t:TypeId}{ks:List BK}(h:zfq P d t=some ks):∃ty,P.underlying t=some ty:=by
 cases d with
 |zero=>simp[zfq] at h
 |succ d =>
  simp only[zfq] at h
  cases hu:P.underlying t with
  |some ty=>exact⟨ty,rfl⟩
  |none=>rw[hu] at h;cases h
theorem znV{S:Nat→Prop}:∀(d D:Nat) (t:TypeId) (ks:List BK) (xs ys:List CV) (us vs:List Value),d≤D→zfq P d t=some ks→zbP w S xs us→zbP w S ys vs→zdj ks xs ys→0<ks.length →
  (Op.equalIn D t (valOf P t us) (valOf P t vs)).run P w=.ok (zjN xs ys) w:=by
 intro d
 induction d with
 |zero=>intro D t ks xs ys us vs _ h;simp[zfq] at h
 |succ d ih =>
  intro D t ks xs ys us vs hD hk hx hy hf hpos
  obtain⟨D,rfl⟩:∃D',D=D'+1:=⟨D-1,by omega⟩
  simp only[zfq] at hk
  cases hu:P.underlying t with
  |none=>rw[hu] at hk;cases hk
  |some ty =>
   rw[hu] at hk
   cases ty with
   |bool =>
    simp only[Option.some.injEq] at hk;subst hk
    obtain⟨p,q,rfl,rfl⟩:=zUq hf
    ·obtain⟨u,r,rfl,h1⟩:=hx.head
     obtain⟨v,r',rfl,h2⟩:=hy.head
     rw[zbX h1,zbX h2]
     simp[valOf,hu,zjN,run_equalIn_bool' w D t p q hu]
   |int k =>
    simp only[Option.some.injEq] at hk;subst hk
    obtain⟨k1,p,q,rfl,rfl⟩:=zUn hf
    ·obtain⟨u,r,rfl,h1⟩:=hx.head
     obtain⟨v,r',rfl,h2⟩:=hy.head
     rw[zbg h1,zbg h2]
     simp[valOf,hu,zjN,run_equalIn_int w D t k1 k p q hu]
   |string =>
    simp only[Option.some.injEq] at hk;subst hk
    obtain⟨p,q,rfl,rfl⟩:=zU4 hf
    ·obtain⟨u,r,rfl,h1⟩:=hx.head
     obtain⟨v,r',rfl,h2⟩:=hy.head
     rw[(zb4 h1).1,(zb4 h2).1]
     simp[valOf,hu,zjN,run_equalIn_string w D t _ _ hu]
   |struct fs =>
    simp only at hk
    split at hk
    ·cases hk
    ·rename_i hst
     have hfo:P.fieldsOf t=fs:=by simp[Program.fieldsOf,hu]
     have hrun:=run_equalIn_struct (P:=P) w D t us.toArray vs.toArray (by rw[hfo];exact hu) (by simpa using hst)
     rw[hfo] at hrun
     have hval:∀l:List Value,valOf P t l=.agg l.toArray:=fun l=>by simp[valOf,hu]
     rw[hval,hval,hrun]
     have key:∀(l:List Field) (acc:List BK),l.foldl (zce P d) (some acc)=some ks→acc.length≤ks.length →
       (∃r,ks=acc++r)∧(Op.eqFields D us.toArray vs.toArray l).run P w=.ok (zjN (xs.drop acc.length) (ys.drop acc.length)) w:=by
      intro l
      induction l with
      |nil =>
       intro acc h _
       simp only[List.foldl_nil,Option.some.injEq] at h
       subst h
       obtain⟨h1,h2⟩:=zfd hf
       refine⟨⟨[],by simp⟩,?_⟩
       rw[List.drop_eq_nil_of_le (by omega),List.drop_eq_nil_of_le (by omega)]
       rfl
      |cons f l ihl =>
       intro acc h hacc
       simp only[List.foldl_cons] at h
       cases hkf:zfq P d f.type with
       |none=>simp[zce,hkf,zch] at h
       |some kf =>
        simp only[zce,hkf] at h
        split at h
        ·rw[zch] at h;cases h
        ·rename_i hcond
         have hn : f.name ≠ "_" := fun e => hcond (.inl e)
         have ho:f.offset=acc.length:=Classical.byContradiction fun e=>hcond (.inr (.inl e))
         have hsz:(P.info? f.type).map (·.size)=some kf.length:=Classical.byContradiction fun e=>hcond (.inr (.inr (.inl e)))
         have hkp:0<kf.length:=Nat.pos_of_ne_zero fun e=>hcond (.inr (.inr (.inr e)))
         obtain⟨i,hi,hisz⟩:∃i,P.info? f.type=some i∧i.size=kf.length:=by
          cases hi:P.info? f.type with
          |none=>rw[hi] at hsz;cases hsz
          |some i=>rw[hi] at hsz;exact⟨i,rfl,by simpa using hsz⟩
         have hlen:(acc++kf).length≤ks.length:=by
          have:∀(l:List Field) (a b:List BK),l.foldl (zce P d) (some a)=some b→a.length≤b.length:=by
           intro l
           induction l with
           |nil=>intro a b h;simp at h;subst h;exact Nat.le_refl _
           |cons g l ihg =>
            intro a b h
            simp only[List.foldl_cons] at h
            cases hg:zce P d (some a) g with
            |none=>rw[hg,zch] at h;cases h
            |some a' =>
             rw[hg] at h
             have:=ihg _ _ h
             simp only[zce] at hg
             split at hg
             ·split at hg
              ·cases hg
              ·rename_i e1 e2 _
               injection e1 with e1
               injection hg with hg
               subst e1;subst hg
               simp at this;omega
             ·cases hg
          exact this _ _ _ h
         obtain⟨⟨r,hr⟩,hrest⟩:=ihl _ h hlen
         refine⟨⟨kf++r,by rw[hr,List.append_assoc]⟩,?_⟩
         have hks:ks=acc++(kf++r):=by rw[hr,List.append_assoc]
         rw[hks] at hf
         obtain⟨_,hf2,_⟩:=zmI hf
         obtain⟨hf3,_,he⟩:=zmI hf2
         obtain⟨hl1,hl2⟩:=zfd hf
         have hul:us.length=xs.length:=hx.1
         have hvl:vs.length=ys.length:=hy.1
         obtain⟨ty,hty⟩:=zfo hkf
         ·have hp1:=zos (P:=P) hty hi us.toArray f.offset (by simp[hisz,ho,hul,hl1]<;>omega) (by omega) w
          have hp2:=zos (P:=P) hty hi vs.toArray f.offset (by simp[hisz,ho,hvl,hl2]<;>omega) (by omega) w
          have heq:=ih D f.type kf ((xs.drop f.offset).take i.size) ((ys.drop f.offset).take i.size) ((us.drop f.offset).take i.size) ((vs.drop f.offset).take i.size) (by omega) hkf
           (hx.sub _ _) (hy.sub _ _) (by rw[ho,hisz];exact hf3) hkp
          simp only[Op.eqFields,hn,ne_eq,not_false_eq_true,if_true,Sem.run_bind,hp1,hp2,Result.andThen_ok,heq]
          rw[he,ho,hisz]
          cases hb:zjN ((xs.drop acc.length).take kf.length) ((ys.drop acc.length).take kf.length) with
          |false=>simp
          |true =>
           simp only[Bool.not_true,Bool.false_eq_true,if_false,Bool.true_and]
           rw[hrest]
           simp[List.drop_drop]
     obtain⟨_,hres⟩:=key fs.toList [] hk (Nat.zero_le _)
     simpa using hres
   |_=>cases hk
end
end Go.Ab
namespace Go.Ab
open Go Go.RowKit Go.MapKept
variable [Amb]
section
variable {P:Program}{w:World}{S:Nat→Prop}
structure zel(P:Program)(kt:TypeId)(kk:KK):Prop where
 check:∀{w:World} {S:Nat→Prop} {k:XV} {v:Value} (em:Bool),zdY kk k=true→zbL w S k v→(Instr.checkKey em 10000 kt v).run P w=.ok () w
 find:∀{w:World} {S:Nat→Prop} {k:XV} {v:Value} {es:List (XV×XV)} {ents:List MapEntry} {r:Option Nat},zdY kk k=true→zbL w S k v→ents.length=es.length →
  (∀(j:Nat) (x:XV×XV),es[j]?=some x→∃e,ents[j]?=some e∧zbL w S x.1 e.key)→zbz kk k es 0=some r →
  match r with
  |none=>(Instr.findKey kt v ents).run P w=.ok none w
  |some j=>∃e,ents[j]?=some e∧e.key=v∧(Instr.findKey kt v ents).run P w=.ok (some (j,e.val)) w
 stays:∀{w:World} {S:Nat→Prop} {k:XV} {v:Value},zdY kk k=true→zbL w S k v→(Instr.keyThatStays v v).run P w=.ok v w
def KK.fits:KK→TypeDesc→Prop
 |.s,d=>d=.string
 |.i k,d=>d=.int k
 |.b,d=>d=.bool
 |.st _,_=>False
theorem ztF{kk:KK}{d:TypeDesc}{k:XV}{v:Value}(hd:kk.fits d)(hk:zdY kk k=true)(hr:zbL w S k v):IsKey d v:=by
 cases kk<;>(try (exact hd.elim))<;>cases k<;>(try (rename_i c;cases c))<;>simp[zdY] at hk
 ·obtain rfl:=hd;obtain⟨rfl,_⟩:=zb4 hr;trivial
 ·obtain rfl:=hd;obtain rfl:=zbg hr;exact hk
 ·obtain rfl:=hd;obtain rfl:=zbX hr;trivial
theorem zsK{kk:KK}{d:TypeDesc}{k k':XV}{v v':Value}{r:Bool}(hd:kk.fits d)(h1:zbL w S k v)(h2:zbL w S k' v')(h:zl6 kk k k'=some r) :
  Instr.sameNow d v v'=some r∧(r=true→v=v'):=by
 unfold zl6 at h
 split at h
 ·rename_i a b
  obtain rfl:=hd
  obtain⟨rfl,_⟩:=zb4 h1
  obtain⟨rfl,_⟩:=zb4 h2
  injection h with h
  subst h
  have:((⟨a.toArray⟩:ByteArray)==⟨b.toArray⟩)=(a==b):=by
   show (a.toArray==b.toArray)=(a==b)
   simp
  refine⟨by simp only[Instr.sameNow,this],fun e=>by rw[beq_iff_eq.1 e]⟩
 ·obtain rfl:=hd
  obtain rfl:=zbg h1
  obtain rfl:=zbg h2
  split at h
  ·rename_i hk
   subst hk
   injection h with h
   subst h
   exact⟨by simp[Instr.sameNow],fun e=>by rw[beq_iff_eq.1 e]⟩
  ·cases h
 ·obtain rfl:=hd
  obtain rfl:=zbX h1
  obtain rfl:=zbX h2
  injection h with h
  subst h
  exact⟨rfl,fun e=>by rw[beq_iff_eq.1 e]⟩
 ·exact hd.elim
 ·cases h
theorem znp{kk:KK}{d:TypeDesc}{k:XV}{v:Value}(hd:kk.fits d)(hk:zbL w S k v):∀(es:List (XV×XV)) (ents:List MapEntry) (i:Nat) (r:Option Nat),
  (ents.length=es.length)→(∀(j:Nat) (x:XV×XV),es[j]?=some x→∃e,ents[j]?=some e∧zbL w S x.1 e.key)→zbz kk k es i=some r →
  match r with
  |none=>Instr.findNow d v ents i=some none
  |some j=>∃e,i≤j∧ents[j-i]?=some e∧e.key=v∧Instr.findNow d v ents i=some (some (j,e.val))
 |[],ents,i,r,hl,_,h=>by
  have:ents=[]:=List.eq_nil_of_length_eq_zero hl
  subst this
  simp[zbz] at h
  subst h
  rfl
 |x::es,ents,i,r,hl,hx,h=>by
  cases ents with
  |nil=>simp at hl
  |cons e0 ents =>
   obtain⟨e,he,hr⟩:=hx 0 x rfl
   simp at he
   subst he
   simp only[zbz] at h
   split at h
   ·rename_i heq
    injection h with h
    subst h
    obtain⟨h1,h2⟩:=zsK hd hk hr heq
    exact⟨e0,Nat.le_refl _,by simp,(h2 rfl).symm,by simp[Instr.findNow,h1]⟩
   ·rename_i heq
    obtain⟨h1,_⟩:=zsK hd hk hr heq
    have ih:=znp hd hk es ents (i+1) r (by simpa using hl) (fun j y hj=>by simpa using hx (j+1) y (by simpa using hj)) h
    cases r with
    |none=>simp only[Instr.findNow,h1];exact ih
    |some j =>
     obtain⟨e,hle,hat,hkey,hf⟩:=ih
     refine⟨e,by omega,?_,hkey,by simp only[Instr.findNow,h1];exact hf⟩
     rw[show j-i=(j-(i+1))+1 by omega]
     simpa using hat
   ·cases h
theorem zel.basic{kt:TypeId}{d:TypeDesc}{kk:KK}(hu:P.underlying kt=some d)(hd:kk.fits d):zel P kt kk where
 check:=fun em hok hr=>Go.MapKept.run_checkKey hu (ztF hd hok hr) em 9999
 stays:=fun hok hr=>Go.MapKept.run_keyThatStays (ztF hd hok hr)
 find:=fun {w S k v es ents r} hok hr hl hx hf=>by
  have hn:=znp hd hr es ents 0 r hl hx hf
  cases r with
  |none=>exact Go.MapKept.run_findKey hu hn
  |some j =>
   obtain⟨e,_,hat,hkey,hfn⟩:=hn
   exact⟨e,by simpa using hat,hkey,Go.MapKept.run_findKey hu hfn⟩
theorem zi1:∀{ks:List BK} {xs ys:List CV},zjl ks xs ys=true→zdj ks xs ys
 |[],xs,ys,h=>by cases xs<;>cases ys<;>simp_all [zjl,zdj]
 |k::ks,[],ys,h=>by cases k<;>simp[zjl] at h
 |k::ks,x::xs,[],h=>by cases k<;>cases x<;>simp[zjl] at h
 |k::ks,x::xs,y::ys,h=>by
  cases k<;>cases x<;>cases y<;>simp[zjl] at h<;>simp only[zdj]
  ·exact zi1 h
  ·exact⟨h.1,zi1 h.2⟩
  ·exact zi1 h
theorem zbP.rest{x:CV}{u:Value}{xs:List CV}{us:List Value}(h:zbP w S (x::xs) (u::us)):zbP w S xs us:=
 ⟨by have:=h.1;simpa using this,fun j c hj=>by simpa using h.2 (j+1) c (by simpa using hj)⟩
theorem ziN:∀{ks:List BK} {xs ys:List CV} {us vs:List Value},zjl ks xs ys=true→zjN xs ys=true→zbP w S xs us→zbP w S ys vs→us=vs
 |[],xs,ys,us,vs,h,_,h1,h2=>by
  cases xs<;>cases ys<;>simp[zjl] at h
  have e1:us=[]:=List.eq_nil_of_length_eq_zero h1.1
  have e2:vs=[]:=List.eq_nil_of_length_eq_zero h2.1
  rw[e1,e2]
 |k::ks,[],ys,us,vs,h,_,_,_=>by cases k<;>simp[zjl] at h
 |k::ks,x::xs,[],us,vs,h,_,_,_=>by cases k<;>cases x<;>simp[zjl] at h
 |k::ks,x::xs,y::ys,us,vs,h,he,h1,h2=>by
  obtain⟨u,us,rfl,r1⟩:=h1.head
  obtain⟨v,vs,rfl,r2⟩:=h2.head
  have t1:zbP w S xs us:=h1.rest
  have t2:zbP w S ys vs:=h2.rest
  cases k<;>cases x<;>cases y<;>simp[zjl] at h<;>simp only[zjN,Bool.and_eq_true,beq_iff_eq] at he
  ·rw[zbX r1,zbX r2,he.1,ziN h he.2 t1 t2]
  ·rw[zbg r1,zbg r2,he.1,h.1,ziN h.2 he.2 t1 t2]
  ·rw[(zb4 r1).1,(zb4 r2).1,he.1,ziN h he.2 t1 t2]
theorem zno{t:TypeId}(h:zq8 P t=true)(em:Bool)(n:Nat)(v:Value):(Instr.checkKey em (n+1) t v).run P w=.ok () w:=by
 unfold zq8 at h
 split at h
 ·rename_i hu;simp[Instr.checkKey,run_underlying hu]
 ·rename_i hu;simp[Instr.checkKey,run_underlying hu]
 ·rename_i hu;simp[Instr.checkKey,run_underlying hu]
 ·cases h
theorem zr6{d:Nat}:∀(l:List Field) (a b:List BK),l.foldl (zce P d) (some a)=some b→a.length≤b.length:=by
 intro l
 induction l with
 |nil=>intro a b h;simp at h;subst h;exact Nat.le_refl _
 |cons g l ihg =>
  intro a b h
  simp only[List.foldl_cons] at h
  cases hg:zce P d (some a) g with
  |none=>rw[hg,zch] at h;cases h
  |some a' =>
   rw[hg] at h
   have:=ihg _ _ h
   simp only[zce] at hg
   split at hg
   ·split at hg
    ·cases hg
    ·rename_i e1 e2 _
     injection e1 with e1
     injection hg with hg
     subst e1;subst hg
     simp at this;omega
   ·cases hg
theorem zlb(em:Bool)(n d:Nat)(us:Array Value){ks:List BK}(hl:us.size=ks.length):∀(l:List Field) (acc:List BK),l.foldl (zce P d) (some acc)=some ks→(∀f∈l,zq8 P f.type=true) →
  ((forIn l PUnit.unit (fun (f:Field) (_:PUnit)=>(do
    if f.name ≠ "_" then do
     let x ←part f.type us f.offset
     Instr.checkKey em (n+1) f.type x
     pure (ForInStep.yield PUnit.unit)
    else pure (ForInStep.yield PUnit.unit):Sem (ForInStep PUnit)))):Sem PUnit).run P w=.ok PUnit.unit w
 |[],_,_,_=>by simp
 |f::l,acc,h,hb=>by
  simp only[List.foldl_cons] at h
  cases hkf:zce P d (some acc) f with
  |none=>rw[hkf,zch] at h;cases h
  |some acc' =>
   rw[hkf] at h
   have ih:=zlb em n d us hl l acc' h (fun g hg=>hb g (by simp[hg]))
   have hlen:=zr6 l _ _ h
   simp only[zce] at hkf
   cases hkk:zfq P d f.type with
   |none=>simp[hkk] at hkf
   |some kf =>
    simp only[hkk] at hkf
    split at hkf
    ·cases hkf
    ·rename_i hcond
     injection hkf with hkf
     subst hkf
     have hn : f.name ≠ "_" := fun e => hcond (.inl e)
     have ho:f.offset=acc.length:=Classical.byContradiction fun e=>hcond (.inr (.inl e))
     have hsz:(P.info? f.type).map (·.size)=some kf.length:=Classical.byContradiction fun e=>hcond (.inr (.inr (.inl e)))
     have hkp:0<kf.length:=Nat.pos_of_ne_zero fun e=>hcond (.inr (.inr (.inr e)))
     obtain⟨i,hi,hisz⟩:∃i,P.info? f.type=some i∧i.size=kf.length:=by
      cases hi:P.info? f.type with
      |none=>rw[hi] at hsz;cases hsz
      |some i=>rw[hi] at hsz;exact⟨i,rfl,by simpa using hsz⟩
     obtain⟨ty,hty⟩:=zfo hkk
     rw[List.length_append] at hlen
     have hp1:=zos (P:=P) hty hi us f.offset (by omega) (by omega) w
     simp only[List.forIn_cons,Sem.run_bind,hn,ne_eq,not_false_eq_true,if_true,hp1,Result.andThen_ok,zno (hb f (by simp)),Sem.run_pure]
     exact ih
theorem zIm{k:TypeId}{ks:List BK}(h:zIh P k=some (.st ks)):∃fs,P.underlying k=some (.struct fs)∧eqT P k=some ks∧(∀f∈fs.toList,zq8 P f.type=true):=by
 unfold zIh at h
 split at h
 ·cases h
 ·cases h
 ·cases h
 ·rename_i fs hu
  split at h
  ·rename_i ks' hks hb
   injection h with h
   injection h with h
   subst h
   exact⟨fs,hu,hks,fun f hf=>List.all_eq_true.1 hb f hf⟩
  ·cases h
 ·cases h
theorem zel.struct{kt:TypeId}{ks:List BK}(h:zIh P kt=some (.st ks)):zel P kt (.st ks):=by
 obtain⟨fs,hu,hks,hb⟩:=zIm h
 unfold eqT at hks
 split at hks
 rotate_left
 ·cases hks
 rename_i fs' k0 ks' hg hfs hkt
 injection hks with hks
 subst hks
 have hkind:zfq P (99+1) kt=some (k0::ks'):=hkt
 rw[zfq,hu] at hkind
 dsimp only at hkind
 split at hkind
 ·cases hkind
 have hval:∀l:Array Value,valOf P kt l.toList=.agg l:=fun l=>by simp[valOf,hu]
 have hagg:∀{w:World} {S:Nat→Prop} {k:XV} {v:Value},zdY (.st (k0::ks')) k=true→zbL w S k v→∃xs us,k=.agg xs∧v=.agg us∧zbP w S xs us.toList∧zjl (k0::ks') xs xs=true:=by
  intro w S k v hok hr
  cases k with
  |one c=>simp[zdY] at hok
  |agg xs=>obtain⟨us,rfl,hl⟩:=hr;exact⟨xs,us,rfl,rfl,hl,hok⟩
 refine⟨fun {w S k v} em hok hr=>?_,fun {w S k v es ents r} hok hr hl hx hf=>?_,fun {w S k v} hok hr=>?_⟩
 ·obtain⟨xs,us,rfl,rfl,hl,hfit⟩:=hagg hok hr
  have hlen:=(zfd (zi1 hfit)).1
  have hus:us.size=(k0::ks').length:=by have:=hl.1;rw[Array.length_toList] at this;omega
  rw[show (10000:Nat)=9998+1+1 from rfl,Instr.checkKey]
  simp only[Sem.run_bind,run_underlying hu,Result.andThen_ok]
  rw[←Array.forIn_toList]
  have:=zlb (P:=P) (w:=w) em 9998 99 us hus fs.toList [] hkind hb
  rw[this]
  simp
 ·obtain⟨xs,us,rfl,rfl,hlx,hfit⟩:=hagg hok hr
  have key:∀(es:List (XV×XV)) (ents:List MapEntry) (i:Nat),ents.length=es.length→(∀(j:Nat) (x:XV×XV),es[j]?=some x→∃e,ents[j]?=some e∧zbL w S x.1 e.key)→zbz (.st (k0::ks')) (.agg xs) es i=some r →
    match r with
    |none=>(Instr.findAsking kt (.agg us) ents i).run P w=.ok none w
    |some j=>∃e,i≤j∧ents[j-i]?=some e∧e.key=.agg us∧(Instr.findAsking kt (.agg us) ents i).run P w=.ok (some (j,e.val)) w:=by
   intro es
   induction es with
   |nil =>
    intro ents i hl _ h
    have:ents=[]:=List.eq_nil_of_length_eq_zero hl
    subst this
    simp only[zbz,Option.some.injEq] at h
    subst h
    simp[Instr.findAsking]
   |cons x es ih =>
    intro ents i hl hx h
    cases ents with
    |nil=>simp at hl
    |cons e0 ents =>
     obtain⟨e,he,hr⟩:=hx 0 x rfl
     simp only[List.getElem?_cons_zero,Option.some.injEq] at he
     subst he
     obtain⟨x1,x2⟩:=x
     simp only[zbz] at h
     cases x1 with
     |one c=>simp[zl6] at h
     |agg ys =>
      obtain⟨vs,hv,hly⟩:=hr
      simp only[zl6] at h
      by_cases hfb:zjl (k0::ks') xs ys=true
      ·rw[if_pos hfb] at h
       have heq:(Op.equal kt (.agg us) e0.key).run P w=.ok (zjN xs ys) w:=by
        have:=znV (P:=P) (w:=w) 100 10000 kt (k0::ks') xs ys us.toList vs.toList (by omega) hkt hlx hly (zi1 hfb) (by simp)
        rw[hval,hval] at this
        rw[hv]
        exact this
       cases hc:zjN xs ys with
       |true =>
        rw[hc] at h heq
        simp only[Option.some.injEq] at h
        subst h
        refine⟨e0,Nat.le_refl _,by simp,?_,by simp[Instr.findAsking,heq]⟩
        have:=ziN hfb hc hlx hly
        rw[hv]
        congr 1
        exact Array.ext' this.symm
       |false =>
        rw[hc] at h heq
        simp only at h
        have ih:=ih ents (i+1) (by simpa using hl) (fun j y hj=>by simpa using hx (j+1) y (by simpa using hj)) h
        cases r with
        |none=>simpa[Instr.findAsking,heq] using ih
        |some j =>
         obtain⟨e,hle,hat,hkey,hf⟩:=ih
         refine⟨e,by omega,?_,hkey,by simpa[Instr.findAsking,heq] using hf⟩
         rw[show j-i=(j-(i+1))+1 by omega]
         simpa using hat
      ·rw[if_neg hfb] at h
       cases h
  have hk:=key es ents 0 hl hx hf
  have hwide:(match P.underlying kt with | some (.array _ _) | some (.struct _)=>true | _=>false)=true:=by rw[hu]
  cases r with
  |none=>rw[run_findKey_eq w hwide];exact hk
  |some j =>
   obtain⟨e,_,hat,hkey,hfn⟩:=hk
   exact⟨e,by simpa using hat,hkey,by rw[run_findKey_eq w hwide];exact hfn⟩
 ·obtain⟨xs,us,rfl,rfl,hlx,hfit⟩:=hagg hok hr
  have hone:∀(u:Value),u∈us.toList→Instr.sameBits 9999 u u=true:=by
   have key:∀(ks:List BK) (xs:List CV) (us:List Value),zjl ks xs xs=true→zbP w S xs us→∀u∈us,Instr.sameBits 9999 u u=true:=by
    intro ks
    induction ks with
    |nil =>
     intro xs us h hl u hu
     cases xs with
     |nil=>have e1:us=[]:=List.eq_nil_of_length_eq_zero hl.1;subst e1;cases hu
     |cons x xs=>simp[zjl] at h
    |cons k ks ih =>
     intro xs us h hl u hu
     cases xs with
     |nil=>cases k<;>simp[zjl] at h
     |cons x xs =>
      obtain⟨v,vs,rfl,r1⟩:=hl.head
      rcases List.mem_cons.1 hu with rfl | hu
      ·cases k<;>cases x<;>simp[zjl] at h
       ·rw[zbX r1];simp[Instr.sameBits]
       ·rw[zbg r1];simp[Instr.sameBits]
       ·rw[(zb4 r1).1];simp[Instr.sameBits,Go.MapKept.bytes_beq]
      ·cases k<;>cases x<;>simp[zjl] at h<;>exact ih xs vs (by first | exact h | exact h.2) hl.rest u hu
   exact key _ _ _ hfit hlx
  have hs:Instr.sameBits 10000 (.agg us) (.agg us)=true:=by
   show Instr.sameBits (9999+1) (.agg us) (.agg us)=true
   simp only[Instr.sameBits,beq_self_eq_true,Bool.true_and,List.all_eq_true]
   intro p hp
   obtain⟨i,hi,e⟩:=List.getElem_of_mem hp
   rw[List.getElem_zip] at e
   rw[←e]
   exact hone _ (List.getElem_mem _)
  simp[Instr.keyThatStays,hs]
theorem zqs{a:Bool}{cs:List CV}{U:Nat→Value}{v:Value}(h:zBH a ((List.range cs.length).map U) v)(hr:∀(i:Nat) (c:CV),cs[i]?=some c→zaH w S c (U i)):zbL w S (zm8 a cs) v:=by
 cases a with
 |true =>
  have h:v=.agg ((List.range cs.length).map U).toArray:=h
  subst h
  refine⟨_,rfl,by simp,fun j c hj=>?_⟩
  have hlt:=(List.getElem?_eq_some_iff.1 hj).1
  exact⟨U j,by simp[hlt],hr j c hj⟩
 |false =>
  have h:(List.range cs.length).map U=[v]:=h
  have hl:=congrArg List.length h
  simp only[List.length_map,List.length_range,List.length_singleton] at hl
  obtain⟨c,rfl⟩:=List.length_eq_one_iff.1 hl
  have hv:U 0=v:=by simpa using h
  rw[←hv]
  exact hr 0 c rfl
theorem zAY{ka va:Bool}{ks vs:List (List CV)}{v:Value}(h:zaH w S (.mapv ka va ks vs) v):∃(b c:Nat) (ents:Array MapEntry) (bs:List Nat),v=.map (some b)∧S b∧w.heap[b]?=some (.map ents c)∧zvw w S bs (mvE ka va ks vs) ents.toList:=by
 cases h with
 |mapv b c ents _ _ _ _ U V hs hh hn hm hk hv hkr hvr =>
  refine⟨b,c,ents,ents.toList.map (·.born),rfl,hs,hh,?_,?_,fun j x hj=>?_⟩
  ·simp[mvE,hn,hm]
  ·simp[mvE,hn,hm]
  ·unfold mvE at hj
   rw[List.getElem?_map] at hj
   cases hz:(ks.zip vs)[j]? with
   |none=>rw[hz] at hj;cases hj
   |some y =>
    rw[hz] at hj
    injection hj with hj
    subst hj
    rw[List.getElem?_zip_eq_some] at hz
    obtain⟨e,h1,h2⟩:=hk j y.1 hz.1
    obtain⟨e',h3,h4⟩:=hv j y.2 hz.2
    rw[h1] at h3
    injection h3 with h3
    subst h3
    exact⟨e,h1,by rw[List.getElem?_map,h1];rfl,zqs h2 (fun i c hc=>hkr j y.1 i c hz.1 hc),zqs h4 (fun i c hc=>hvr j y.2 i c hz.2 hc)⟩
theorem zoJ{P:Program}{t:TypeId}{kk:KK}{e:TypeId}(h:zrr P t=some (kk,e)):∃k,P.underlying t=some (.map k e)∧zel P k kk:=by
 unfold zrr at h
 split at h
 ·rename_i k e' hu
  split at h
  ·rename_i kk' hk
   simp only[Option.some.injEq,Prod.mk.injEq] at h
   obtain⟨rfl,rfl⟩:=h
   refine⟨k,hu,?_⟩
   cases kk' with
   |st ks=>exact zel.struct hk
   |s =>
    unfold zIh at hk
    split at hk<;>first | (cases hk;done) | (rename_i q;exact zel.basic q rfl) | (split at hk<;>cases hk)
   |i q =>
    unfold zIh at hk
    split at hk<;>first | (rename_i hq;injection hk with hk;injection hk with hk;subst hk;exact zel.basic hq rfl) | (cases hk;done) | (split at hk<;>cases hk)
   |b =>
    unfold zIh at hk
    split at hk<;>first | (cases hk;done) | (rename_i q;exact zel.basic q rfl) | (split at hk<;>cases hk)
  ·cases h
 ·cases h
theorem zBN{t:TypeId}{x:XV}(h:zbp P t=some x):∃z,(zeroValue t).run P w=.ok z w∧zbL w S x z:=by
 unfold zbp at h
 split at h
 ·rename_i i hi
  split at h
  ·rename_i us hz
   split at h
   ·rename_i hall
    injection h with h
    subst h
    refine⟨.agg us,by simp[zeroValue,typeInfo,hi,hz],us,rfl,by simp,fun j c hj=>?_⟩
    rw[List.getElem?_map] at hj
    cases hu:us.toList[j]? with
    |none=>rw[hu] at hj;cases hj
    |some u =>
     rw[hu] at hj
     injection hj with hj
     subst hj
     exact⟨u,rfl,zfv (List.all_eq_true.1 hall u (List.mem_of_getElem? hu))⟩
   ·cases h
  ·rename_i v _ hz
   split at h
   ·rename_i hs
    injection h with h
    subst h
    exact⟨v,by simp[zeroValue,typeInfo,hi,hz],zfv hs⟩
   ·cases h
  ·cases h
 ·cases h
theorem ziz{t kt et:TypeId}{kk:KK}{b c:Nat}{ents:Array MapEntry}{bs:List Nat}{es:List (XV×XV)}{k x:XV}{kv xv:Value}{r:Option Nat}
  (ht:P.underlying t=some (.map kt et))(hu:zel P kt kk)(hb:w.heap[b]?=some (.map ents c))(he:zvw w S bs es ents.toList)
  (hk:zbL w S k kv)(hok:zdY kk k=true)(hx:zbL w S x xv)(hf:zbz kk k es 0=some r) :
  ∃ents' c',(Instr.mapUpdate t (.map (some b)) kv xv).run P w=.ok () { w with heap:=w.heap.setIfInBounds b (.map ents' c') } ∧
   c'=(zij c bs es k x r).1∧zvw w S (zij c bs es k x r).2.1 (zij c bs es k x r).2.2 ents'.toList:=by
 have hck:=hu.check (em:=ents.isEmpty) hok hk
 have hck2:=hu.check (em:=false) hok hk
 have hn:=hu.find (es:=es) (ents:=ents.toList) (r:=r) hok hk he.1 (fun j y hj=>by obtain⟨e,h1,_,h2,_⟩:=he.2.2 j y hj;exact⟨e,h1,h2⟩) hf
 cases r with
 |none =>
  refine⟨ents.push { key:=kv,val:=xv,born:=c },c+1,?_,rfl,?_⟩
  ·simp[Instr.mapUpdate,run_underlying ht,Go.MapKept.run_getObj_map hb,hck2,hn,Go.MapKept.run_setObj_map _ hb,Result.andThen]
  ·simp only[zij,Array.toList_push]
   refine⟨by simp[he.1],by simp[he.2.1],fun j y hj=>?_⟩
   by_cases hlt:j<es.length
   ·rw[List.getElem?_append_left hlt] at hj
    rw[List.getElem?_append_left (by rw[he.1];exact hlt),List.getElem?_append_left (by rw[he.2.1];exact hlt)]
    exact he.2.2 j y hj
   ·rw[List.getElem?_append_right (by omega)] at hj
    have hj0:j-es.length=0:=by
     cases h:j-es.length with
     |zero=>rfl
     |succ m=>rw[h] at hj;simp at hj
    rw[hj0] at hj
    simp at hj
    subst hj
    refine⟨{ key:=kv,val:=xv,born:=c },?_,?_,hk,hx⟩
    ·rw[List.getElem?_append_right (by rw[he.1];omega),he.1,hj0];rfl
    ·rw[List.getElem?_append_right (by rw[he.2.1];omega),he.2.1,hj0];rfl
 |some i =>
  obtain⟨e,hat,hkey,hfn⟩:=hn
  have hat':ents[i]?=some e:=by simpa using hat
  refine⟨ents.modify i fun e=>{ e with key:=kv,val:=xv },c,?_,rfl,?_⟩
  ·have hst:(Instr.keyThatStays e.key kv).run P w=.ok kv w:=by rw[hkey];exact hu.stays hok hk
   simp[Instr.mapUpdate,run_underlying ht,Go.MapKept.run_getObj_map hb,hck2,hfn,hat',hst,Go.MapKept.run_setObj_map _ hb,Result.andThen]
  ·simp only[zij]
   refine⟨by simp[he.1],by simp[he.2.1],fun j y hj=>?_⟩
   rw[List.getElem?_set] at hj
   split at hj
   ·rename_i hij
    subst hij
    split at hj
    ·injection hj with hj
     subst hj
     have hlt:i<es.length:=by assumption
     obtain⟨e',h1,h2,_⟩:=he.2.2 i es[i] (List.getElem?_eq_getElem hlt)
     rw[hat] at h1
     injection h1 with h1
     subst h1
     refine⟨{ e with key:=kv,val:=xv },?_,h2,hk,hx⟩
     simp[Array.getElem?_modify,hat']
    ·cases hj
   ·rename_i hij
    obtain⟨e',h1,h2⟩:=he.2.2 j y hj
    refine⟨e',?_,h2⟩
    have:(ents.modify i fun e=>{ e with key:=kv,val:=xv })[j]?=ents[j]?:=by
     rw[Array.getElem?_modify,if_neg hij]
    rw[Array.getElem?_toList] at h1 ⊢
    rw[this];exact h1
theorem zuo{t kt et:TypeId}{kk:KK}{b c:Nat}{ents:Array MapEntry}{bs:List Nat}{es:List (XV×XV)}{k:XV}{kv z:Value}{r:Option Nat}(ok:Bool)
  (ht:P.underlying t=some (.map kt et))(hu:zel P kt kk)(hb:w.heap[b]?=some (.map ents c))(he:zvw w S bs es ents.toList)
  (hk:zbL w S k kv)(hok:zdY kk k=true)(hf:zbz kk k es 0=some r)(hz:(zeroValue et).run P w=.ok z w) :
  ∃v,(Instr.lookup t (.map (some b)) kv ok).run P w=.ok (if ok then .tuple #[v,.bool r.isSome] else v) w ∧
   match r with
   |none=>v=z
   |some i=>∃x,es[i]?=some x∧zbL w S x.2 v:=by
 have hck:=hu.check (em:=ents.isEmpty) hok hk
 have hck2:=hu.check (em:=false) hok hk
 have hn:=hu.find (es:=es) (ents:=ents.toList) (r:=r) hok hk he.1 (fun j y hj=>by obtain⟨e,h1,_,h2,_⟩:=he.2.2 j y hj;exact⟨e,h1,h2⟩) hf
 cases r with
 |none =>
  refine⟨z,?_,rfl⟩
  cases ok<;>simp[Instr.lookup,run_underlying ht,Go.MapKept.run_getObj_map hb,hck,hn,hz,Result.andThen]
 |some i =>
  obtain⟨e,hat,hkey,hfn⟩:=hn
  have hlt:i<es.length:=by have:=(List.getElem?_eq_some_iff.1 hat).1;have:=he.1;omega
  obtain⟨e',h1,_,_,h2⟩:=he.2.2 i es[i] (List.getElem?_eq_getElem hlt)
  rw[hat] at h1
  injection h1 with h1
  subst h1
  refine⟨e.val,?_,es[i],List.getElem?_eq_getElem hlt,h2⟩
  cases ok<;>simp[Instr.lookup,run_underlying ht,Go.MapKept.run_getObj_map hb,hck,hfn,Result.andThen]
end
end Go.Ab
namespace Go.Ab
open Go Go.RowKit
variable [Amb]
section
variable {P:Program}{S0:Env}{w0 w:World}{n:Nat}{s:St}{a:Act}
abbrev Knows(S0:Env)(w0:World)(s:St)(a:Act)(w:World)(r:Prop×AV)(v:Value):Prop:=r.1→zgd S0 w0 s a w r.2 v
abbrev Yields(P:Program)(S0:Env)(w0:World)(s:St)(a:Act)(w:World)(m:Sem Value)(r:AV):Prop:=
 ∃v,m.run P w=.ok v w∧zgd S0 w0 s a w r v∧r.zaa=false
theorem zmm{t:TypeId}(h:za6 P t=true):∃e,P.underlying t=some (.slice e):=by
 unfold za6 at h
 split at h
 ·exact⟨_,by assumption⟩
 ·cases h
inductive zyl:Value→Bool→Prop where
 |yes:zyl (.slice none 0 0) true
 |no (a:Addr) (l c:Nat):zyl (.slice (some a) l c) false
theorem znB{S:Nat→Prop}{c:CV}{v:Value}{b:Bool}(h:zaH w S c v)(hb:zhS c=some b):∃b',zyl v b'∧b'=b:=by
 unfold zhS at hb
 split at hb
 ·cases h;injection hb with hb;exact⟨_,.yes,hb⟩
 ·cases h;injection hb with hb;exact⟨_,.no _ _ _,hb⟩
 ·cases h;injection hb with hb;exact⟨_,.no _ _ _,hb⟩
 ·cases hb
theorem zfw(d:Nat){t e:TypeId}{v:Value}{b:Bool}(h:zyl v b)(he:P.underlying t=some (.slice e)):(Op.equalIn (d+1) t v (.slice none 0 0)).run P w=.ok b w:=by
 cases h<;>simp[Op.equalIn,run_underlying he]
theorem ziZ(op:BinOp)(t:TypeId)(o1 o2:Operand){u v:Value}{b:Bool}(hu:zyl u b):(eqGuard op t o1 o2 u v).run P w=.ok () w:=by
 cases hu<;>simp[eqGuard]
theorem zxq{y:Operand}(h:zpI y=true):y=.const .nilIface:=by
 unfold zpI at h
 split at h
 ·rfl
 ·cases h
theorem zfW{t:TypeId}(h:zhf P t=true):∃e,P.underlying t=some (.interface e):=by
 unfold zhf at h
 split at h
 ·exact⟨_,by assumption⟩
 ·cases h
theorem zkX{w:World}{S:Nat→Prop}{u v:Value}(h:zaH w S (.atom u) v):v=u:=by cases h;rfl
theorem zeW(d:Nat){t:TypeId} {ms} (he:P.underlying t=some (.interface ms)):(Op.equalIn (d+1) t .nilIface .nilIface).run P w=.ok true w:=by
 simp[Op.equalIn,run_underlying he]
theorem zeO(d:Nat){t:TypeId} {ms} (y:TypeId) (v:Value) (he:P.underlying t=some (.interface ms)):(Op.equalIn (d+1) t (.iface y v) .nilIface).run P w=.ok false w:=by
 simp[Op.equalIn,run_underlying he]
theorem zka(op:BinOp)(t:TypeId)(o1:Operand):(eqGuard op t o1 (.const .nilIface) .nilIface .nilIface).run P w=.ok () w:=by
 unfold eqGuard
 cases op<;>simp
theorem zi9(op:BinOp)(t:TypeId)(o1 o2:Operand)(y:TypeId)(v:Value):(eqGuard op t o1 o2 (.iface y v) .nilIface).run P w=.ok () w:=by
 unfold eqGuard
 cases op<;>simp
theorem zAI(op:BinOp)(t:TypeId)(o1:Operand){x:Prop×AV}{u:Value}(hx:Knows S0 w0 s a w x u)(hp:(zry P op t x).1) :
  Yields P S0 w0 s a w (do eqGuard op t o1 (.const .nilIface) u .nilIface;binOp op t u .nilIface) (zry P op t x).2:=by
 unfold zry at hp ⊢
 split at hp
 ·obtain⟨hp1,hp2⟩:=hp
  obtain⟨e,he⟩:=zfW hp2
  obtain rfl:=zkX (hx hp1)
  refine⟨_,?_,zaH.bool _,rfl⟩
  have hq:=zeW (P:=P) (w:=w) 9999 he
  simp only[Sem.run_bind,zka (P:=P) .eql t o1,Result.andThen_ok]
  simp only[binOp,Op.equal,Op.maxDepth,Sem.run_bind,hq,Result.andThen_ok];rfl
 ·obtain⟨hp1,hp2⟩:=hp
  obtain⟨e,he⟩:=zfW hp2
  obtain rfl:=zkX (hx hp1)
  refine⟨_,?_,zaH.bool _,rfl⟩
  have hq:=zeW (P:=P) (w:=w) 9999 he
  simp only[Sem.run_bind,zka (P:=P) .neq t o1,Result.andThen_ok]
  simp only[binOp,Op.equal,Op.maxDepth,Sem.run_bind,hq,Result.andThen_ok];rfl
 ·rename_i y v
  obtain⟨hp1,hp2⟩:=hp
  obtain⟨e,he⟩:=zfW hp2
  obtain rfl:=zkX (hx hp1)
  refine⟨_,?_,zaH.bool _,rfl⟩
  have hq:=zeO (P:=P) (w:=w) 9999 y v he
  simp only[Sem.run_bind,zi9 (P:=P) .eql t o1 _ y v,Result.andThen_ok]
  simp only[binOp,Op.equal,Op.maxDepth,Sem.run_bind,hq,Result.andThen_ok];rfl
 ·rename_i y v
  obtain⟨hp1,hp2⟩:=hp
  obtain⟨e,he⟩:=zfW hp2
  obtain rfl:=zkX (hx hp1)
  refine⟨_,?_,zaH.bool _,rfl⟩
  have hq:=zeO (P:=P) (w:=w) 9999 y v he
  simp only[Sem.run_bind,zi9 (P:=P) .neq t o1 _ y v,Result.andThen_ok]
  simp only[binOp,Op.equal,Op.maxDepth,Sem.run_bind,hq,Result.andThen_ok];rfl
 ·exact hp.elim
theorem zBW(op:BinOp)(t:TypeId)(o1 o2:Operand){x y:Prop×AV}{u v:Value}(hx:Knows S0 w0 s a w x u)(hy:Knows S0 w0 s a w y v)(hp:(zcI P op t x y).1) :
  Yields P S0 w0 s a w (do eqGuard op t o1 o2 u v;binOp op t u v) (zcI P op t x y).2:=by
 obtain⟨p,x⟩:=x
 obtain⟨q,y⟩:=y
 unfold zcI at hp ⊢
 split at hp
 ·rename_i b1 b2 e1 e2
  injection e1 with e1a e1b;subst e1a;subst e1b
  injection e2 with e2a e2b;subst e2a;subst e2b
  cases op<;>first | exact hp.elim | skip
  all_goals
   simp only at hp ⊢
   obtain⟨hp1,hp2,hu⟩:=hp
   obtain rfl:=zbX (hx hp1)
   obtain rfl:=zbX (hy hp2)
   refine⟨_,?_,zaH.bool _,rfl⟩
   rw[eqGuard_at_bool]
   simp[binOp,Op.equal,Op.maxDepth,run_equalIn_bool' w 9999 t _ _ hu,bne]
 ·rename_i c1 e1 e2
  injection e1 with e1a e1b;subst e1a;subst e1b
  injection e2 with e2a e2b;subst e2a;subst e2b
  unfold zQ4 at hp ⊢
  split at hp
  ·rename_i b hb
   obtain⟨hp1,hp2,ht⟩:=hp
   obtain⟨e,he⟩:=zmm ht
   obtain⟨r,hr,hb'⟩:=znB (hx hp1) hb
   subst hb'
   obtain rfl:=zdW (hy hp2)
   refine⟨_,?_,zaH.bool _,rfl⟩
   simp only[Sem.run_bind,ziZ (P:=P) .eql t o1 o2 hr,Result.andThen_ok]
   have hq:=zfw (P:=P) (w:=w) 9999 hr he
   cases hr<;>simp only[binOp,Op.equal,Op.maxDepth,Sem.run_bind,hq,Result.andThen_ok]<;>rfl
  ·rename_i b hb
   obtain⟨hp1,hp2,ht⟩:=hp
   obtain⟨e,he⟩:=zmm ht
   obtain⟨r,hr,hb'⟩:=znB (hx hp1) hb
   subst hb'
   obtain rfl:=zdW (hy hp2)
   refine⟨_,?_,zaH.bool _,rfl⟩
   simp only[Sem.run_bind,ziZ (P:=P) .neq t o1 o2 hr,Result.andThen_ok]
   have hq:=zfw (P:=P) (w:=w) 9999 hr he
   cases hr<;>simp only[binOp,Op.equal,Op.maxDepth,Sem.run_bind,hq,Result.andThen_ok]<;>rfl
  ·exact hp.elim
 ·rename_i c1 c2 hne hne2 e1 e2
  injection e1 with e1a e1b;subst e1a;subst e1b
  injection e2 with e2a e2b;subst e2a;subst e2b
  simp only at hp ⊢
  obtain⟨hp1,hp2,hp3⟩:=hp
  obtain⟨r,hr,hrep⟩:=zH2 (P:=P) op t (hx hp1) (hy hp2) hp3
  refine⟨r,?_,hrep,rfl⟩
  simp only[Sem.run_bind,zso (P:=P) op t o1 o2 (hx hp1) (hy hp2) hp3,Result.andThen_ok,hr]
 ·rename_i xs ys e1 e2
  injection e1 with e1a e1b;subst e1a;subst e1b
  injection e2 with e2a e2b;subst e2a;subst e2b
  cases hks:eqT P t with
  |none=>rw[hks] at hp;exact hp.elim
  |some ks =>
   rw[hks] at hp
   unfold eqT at hks
   split at hks
   ·rename_i fs k ks' hg hfs hkt
    injection hks with hks
    subst hks
    cases op<;>first | exact hp.elim | skip
    all_goals
     simp only at hp ⊢
     obtain⟨hp1,hp2,hf⟩:=hp
     obtain⟨us,rfl,hus⟩:=hx hp1
     obtain⟨vs,rfl,hvs⟩:=hy hp2
     refine⟨_,?_,zaH.bool _,rfl⟩
     simp only[Sem.run_bind,run_eqGuard_agg (P:=P) w _ t o1 o2 us vs hg,Result.andThen_ok,run_eql_struct,run_neq_struct]
     have hval:∀l:Array Value,valOf P t l.toList=.agg l:=fun l=>by simp[valOf,hfs]
     have heq:=znV (P:=P) (w:=w) 100 10000 t (k::ks') _ _ us.toList vs.toList (by omega) hkt hus hvs hf (by simp)
     rw[hval,hval] at heq
     rw[heq]
     rfl
   ·cases hks
 ·exact hp.elim
theorem zBg{c x y:Prop×AV}{cv xv yv:Value}(hc:Knows S0 w0 s a w c cv)(hx:Knows S0 w0 s a w x xv)(hy:Knows S0 w0 s a w y yv)(hp:(zuC c x y).1) :
  Yields P S0 w0 s a w (do pure (if ←asBool cv then xv else yv)) (zuC c x y).2:=by
 obtain⟨pc,c⟩:=c
 obtain⟨px,x⟩:=x
 obtain⟨py,y⟩:=y
 match c,x,y,hp with
 |.x (.one (.bool e)),.x xa,.x xb,hp =>
  obtain⟨h1,h2,h3⟩:=hp
  obtain rfl:=zbX (hc h1)
  refine⟨if e then xv else yv,by simp[asBool],?_,rfl⟩
  have hpick:∀(S:Nat→Prop) (v:Value),zbL w S (bif e then xa else xb) v→zbL w S (zwR e xa xb) v:=by
   intro S v h
   unfold zwR
   split
   ·cases e<;>exact h
   ·exact h
  refine hpick _ _ ?_
  cases e with
  |true=>exact hx (h2 rfl)
  |false=>exact hy (h3 rfl)
theorem zwl{t:TypeId}{m:Nat}(h:tk P t=.agg m):∃i,P.info? t=some i∧i.size=m∧(isAgg t).run P w=.ok true w:=by
 unfold tk at h
 split at h<;>first | cases h | skip
 all_goals rename_i hu hi;exact⟨_,hi,rfl,by rw[zls hu]⟩
theorem ztg{t:TypeId}(h:tk P t=.one):(isAgg t).run P w=.ok false w:=by
 unfold tk at h
 split at h<;>first | cases h | skip
 rename_i ty hu hn1 hn2 hn3 hn4
 rw[zls hu]
 cases ty with
 |struct fs =>
  exfalso
  cases hi:P.info? t with
  |some i=>exact hn1 _ _ hi rfl
  |none=>exact hn3 _ hi rfl
 |array k e =>
  exfalso
  cases hi:P.info? t with
  |some i=>exact hn2 _ _ _ hi rfl
  |none=>exact hn4 _ _ hi rfl
 |_=>rfl
theorem zsY{t:TypeId}{p:Prop}{m:Option (List CV)}{v:Value}
  (hm:p→∀cs,m=some cs→∃ad:Addr,v=.pointer (some ad)∧ad.spot=none∧∀(j:Nat) (c:CV),cs[j]?=some c→∃u,w.cell? (ad.add j)=some u∧zaH w (Shared S0 w0.heap.size w s (zai a)) c u)
  {z:Option XV}(hp:(zeD (tk P t) z p m).1):Yields P S0 w0 s a w (Instr.loadAt t v) (zeD (tk P t) z p m).2:=by
 cases m with
 |none=>exact hp.elim
 |some cs =>
  simp only[zeD] at hp ⊢
  cases hk:tk P t with
  |bad=>rw[hk] at hp;exact hp.elim
  |one =>
   rw[hk] at hp
   cases cs with
   |nil=>cases z<;>exact hp.elim
   |cons c cs =>
    obtain⟨ad,rfl,hsp,hc⟩:=hm hp _ rfl
    obtain⟨u,hu,hr⟩:=hc 0 c rfl
    refine⟨u,?_,hr,rfl⟩
    have hu':w.cell? ad=some u:=by simpa[Addr.add] using hu
    simp[Instr.loadAt,Instr.sureAddr,loadVar,ztg (w:=w) hk,hu']
  |agg m =>
   rw[hk] at hp
   obtain⟨hp,hl⟩:=hp
   obtain⟨ad,rfl,hsp,hc⟩:=hm hp _ rfl
   obtain⟨i,hi,hsz,hag⟩:=zwl (w:=w) hk
   have hex:∀j,∃u,∀c,(cs.take m)[j]?=some c→w.cell? (ad.add j)=some u∧zaH w (Shared S0 w0.heap.size w s (zai a)) c u:=by
    intro j
    cases hj:(cs.take m)[j]? with
    |none=>exact⟨undef,fun c h=>by cases h⟩
    |some c =>
     rw[List.getElem?_take] at hj
     split at hj
     ·obtain⟨u,h1,h2⟩:=hc j c hj
      exact⟨u,fun c' h=>by injection h with h;subst h;exact⟨h1,h2⟩⟩
     ·cases hj
   obtain⟨U,hU⟩:=Classical.axiomOfChoice hex
   have hlen:(cs.take m).length=m:=by rw[List.length_take];omega
   have hcells:∀j,j<m→w.cell? (ad.add j)=some (U j):=fun j hj=>(hU j _ (List.getElem?_eq_getElem (by omega:j<(cs.take m).length))).1
   refine⟨.agg ((List.range m).map U).toArray,?_,⟨_,rfl,by simp;omega,fun j c hj=>?_⟩,rfl⟩
   ·have:=run_loadCells (P:=P) (w:=w) ad m U hcells
    simp only[Instr.loadAt,Instr.sureAddr,loadVar,Sem.run_bind,Sem.run_pure,Result.andThen_ok,hag,if_true,run_sizeOf hi,hsz,this]
   ·have hjl:j<m:=by have:=(List.getElem?_eq_some_iff.1 hj).1;omega
    exact⟨U j,by simp[hjl],(hU j c hj).2⟩
end
end Go.Ab
namespace Go.Ab
open Go Go.RowKit
variable [Amb]
theorem zbv{xs:List (List CV)}{size:Nat}(hx:∀x∈xs,x.length=size):xs.flatten.length=xs.length*size:=by
 induction xs with
 |nil=>simp
 |cons x xs ih =>
  simp only[List.flatten_cons,List.length_append,List.length_cons]
  rw[ih (fun y hy=>hx y (by simp[hy])),hx x (by simp),Nat.add_mul];omega
theorem zdF{xs:List (List CV)}{size:Nat}(hx:∀x∈xs,x.length=size)(k:Nat):(xs.drop k).flatten=xs.flatten.drop (k*size):=by
 induction xs generalizing k with
 |nil=>simp
 |cons x xs ih =>
  cases k with
  |zero=>simp
  |succ k =>
   have hl:=hx x (by simp)
   simp only[List.drop_succ_cons,List.flatten_cons]
   have e1:x.drop ((k+1)*size)=[]:=List.drop_eq_nil_of_le (by rw[hl,Nat.add_mul];omega)
   rw[ih (fun x hx'=>hx x (by simp[hx'])),List.drop_append,e1,List.nil_append,hl]
   congr 1
   rw[Nat.add_mul];omega
theorem zcN{xs:List (List CV)}{size:Nat}(hx:∀x∈xs,x.length=size)(k:Nat):(xs.take k).flatten=xs.flatten.take (k*size):=by
 induction xs generalizing k with
 |nil=>simp
 |cons x xs ih =>
  cases k with
  |zero=>simp
  |succ k =>
   have hl:=hx x (by simp)
   simp only[List.take_succ_cons,List.flatten_cons]
   have e1:x.take ((k+1)*size)=x:=List.take_of_length_le (by rw[hl,Nat.add_mul];omega)
   rw[ih (fun x hx'=>hx x (by simp[hx'])),List.take_append,e1,hl]
   congr 2
   rw[Nat.add_mul];omega
section
variable {P:Program}{S0:Env}{w0 w:World}{n:Nat}{s:St}{a:Act}
theorem zkP{e:TypeId}(h:zj5 P e=true):P.underlying e=some (.int .u8)∧∃i,P.info? e=some i∧i.zero=some (.int .u8 0)∧i.size=1∧i.bytes=1:=by
 unfold zj5 at h
 split at h
 ·rename_i i h1 h2
  simp only[Bool.and_eq_true,beq_iff_eq] at h
  refine⟨h1,i,h2,?_,h.2⟩
  obtain⟨h3,_⟩:=h
  split at h3
  ·assumption
  ·cases h3
 ·cases h
theorem zoO(l:List UInt8):(zad l).flatten=l.map fun b=>CV.int .u8 b.toNat:=by
 unfold zad
 induction l with
 |nil=>rfl
 |cons b r ih=>simp[ih]
theorem zg1(S:Nat→Prop)(l:List UInt8):zbP w S (zad l).flatten (Go.Lib.strCells ⟨l.toArray⟩):=by
 rw[zoO]
 refine⟨by simp[Go.Lib.strCells],fun j c hj=>?_⟩
 rw[List.getElem?_map] at hj
 cases hb:l[j]? with
 |none=>rw[hb] at hj;cases hj
 |some b =>
  rw[hb] at hj
  injection hj with hj
  subst hj
  exact⟨.int .u8 b.toNat,by simp[Go.Lib.strCells,hb],zaH.int _ _⟩
theorem zgL(l:List UInt8):∀x∈zad l,x.length=1:=by
 intro x hx
 simp only[zad,List.mem_map] at hx
 obtain⟨b,_,rfl⟩:=hx;rfl
@[simp]theorem zcb(l:List UInt8):(zad l).length=l.length:=by simp[zad]
theorem zmO(hR:Rel S0 w0 n s a w){size:Nat}{y:Prop×AV}{v:Value}{ys:List (List CV)}(hy:Knows S0 w0 s a w y v)(hp:y.1)(h:zbO s size y.2=some ys) :
  ∃(b:Option Addr) (c:Nat) (us:List Value),v=.slice b ys.length c∧(b=none→ys.length=0)∧zbP w (Shared S0 w0.heap.size w s (zai a)) ys.flatten us∧(∀y∈ys,y.length=size)∧ys.length≤maxLen ∧
   ∀ad,b=some ad→∀j u,us[j]?=some u→w.cell? (ad.add j)=some u:=by
 obtain⟨q,y⟩:=y
 have hr:=hy hp
 dsimp only at h hr
 unfold zbO at h
 split at h
 ·injection h with h
  subst h
  obtain rfl:=zdW hr
  exact⟨none,0,[],rfl,fun _=>rfl,⟨rfl,fun j c hj=>by simp at hj⟩,fun y hy=>(by cases hy),by simp,fun ad h=>by cases h⟩
 ·split at h
  ·injection h with h
   subst h
   cases hr with
   |empty b c _ hc=>exact⟨some b,c,[],rfl,fun _=>rfl,⟨rfl,fun j c hj=>by simp at hj⟩,fun y hy=>(by cases hy),by simp,fun ad _ j u hj=>by simp at hj⟩
  ·cases h
 ·split at h
  ·rename_i z ys' hz
   subst hz
   injection h with h
   subst h
   cases hr with
   |list0 b c _ hc hn=>exact⟨b,c,[],rfl,fun _=>rfl,⟨rfl,fun j c hj=>by simp at hj⟩,fun y hy=>(by cases hy),by simp,fun ad _ j u hj=>by simp at hj⟩
   |list ad cap _ _ U hs hsp hc hm hx hU hrep =>
    have hl:((List.range ys'.flatten.length).map U).length=ys'.flatten.length:=by simp
    refine⟨some ad,cap,(List.range ys'.flatten.length).map U,rfl,fun h=>(by cases h),⟨hl,fun j c hj=>?_⟩,hx,by omega,fun ad' h j u hj=>?_⟩
    ·have hlt:=(List.getElem?_eq_some_iff.1 hj).1
     exact⟨U j,by rw[List.getElem?_map,List.getElem?_range hlt];rfl,hrep j c hj⟩
    ·injection h with h
     subst h
     have hlt:=(List.getElem?_eq_some_iff.1 hj).1
     rw[hl] at hlt
     have hu:u=U j:=by rw[List.getElem?_map,List.getElem?_range hlt] at hj;injection hj with hj;exact hj.symm
     rw[hu]
     exact hU j _ (List.getElem?_eq_getElem hlt)
  ·cases h
 ·rename_i i
  split at h
  ·rename_i e z ys' hs
   split at h
   ·rename_i hz
    subst hz
    injection h with h
    subst h
    obtain⟨rfl,_⟩:=zaQ.zdO hr hs
    have hi:=hR.rep i
    rw[hs] at hi
    obtain⟨us,hown,hl,hx,hm,hO⟩:=hi
    rcases hown.2 with⟨hv,h0⟩ | ⟨g,cap,cur,hv,_⟩
    ·refine⟨none,0,us,by rw[hv,h0],fun _=>h0,hl,hx,hm,fun ad h=>by cases h⟩
    ·refine⟨_,cap,us,hv,fun h=>(by cases h),hl,hx,hm,fun ad h j u hj=>?_⟩
     injection h with h
     subst h
     exact hown.cells (g:=g) (by rw[hv];rfl) j u hj
   ·cases h
  ·cases h
 ·rename_i i lo len wh
  split at h
  ·rename_i e z ys' hs
   split at h
   ·rename_i hz
    subst hz
    injection h with h
    subst h
    have hi:=hR.rep i
    rw[hs] at hi
    obtain⟨us,hown,hl,hx,hm,hO⟩:=hi
    obtain⟨_,hle,hv⟩:=hr
    rw[hs] at hle
    have hle':lo+len≤ys'.length:=hle
    have hwl:((ys'.drop lo).take len).length=len:=by rw[List.length_take,List.length_drop];omega
    have hwx:∀y∈(ys'.drop lo).take len,y.length=z:=fun y hy=>hx y (List.mem_of_mem_drop (List.mem_of_mem_take hy))
    have hat:((ys'.drop lo).take len).flatten=(ys'.flatten.drop (lo*z)).take (len*z):=by rw[zcN (fun x hx'=>hx x (List.mem_of_mem_drop hx')),zdF hx]
    have hfl:ys'.flatten.length=ys'.length*z:=zbv hx
    have hus:us.length=ys'.length*z:=hown.1
    have hrl:zbP w (Shared S0 w0.heap.size w s (zai a)) ((ys'.drop lo).take len).flatten ((us.drop (lo*z)).take (len*z)):=by
     rw[hat]
     refine⟨by simp only[List.length_take,List.length_drop,hfl,hus],fun j c hj=>?_⟩
     rw[List.getElem?_take,List.getElem?_drop] at hj
     split at hj
     ·rename_i hlt
      obtain⟨u,hu,hru⟩:=hl.2 _ c hj
      exact⟨u,by rw[List.getElem?_take,if_pos hlt,List.getElem?_drop];exact hu,hru⟩
     ·cases hj
    rcases hv with⟨rfl,h0⟩ | ⟨b,off,cap,rfl,hc,hmm,hk,hz,_⟩
    ·exact⟨none,0,_,by rw[hwl,h0],fun _=>by rw[hwl,h0],hrl,hwx,by omega,fun ad h=>by cases h⟩
    ·refine⟨some ⟨b,off,none⟩,cap,_,by rw[hwl],fun h=>(by cases h),hrl,hwx,by omega,fun ad h j u hj=>?_⟩
     injection h with h
     subst h
     rw[List.getElem?_take,List.getElem?_drop] at hj
     split at hj
     ·rename_i hlt
      have h0:0<len:=by
       rcases Nat.eq_zero_or_pos len with h0 | h0
       ·rw[h0] at hlt;simp at hlt
       ·exact h0
      have hoff:=hz h0
      rw[hs] at hk hoff
      have:=hown.cells (g:=b) hk _ u hj
      rw[zaJ,Nat.zero_add] at this
      rw[zaJ,hoff]
      exact this
     ·cases hj
   ·cases h
  ·cases h
 ·cases h
theorem zNM{xs:List (List CV)}(h:okB xs):∃ns:List Int,xs=(ns.map fun n=>[CV.int .u8 n])∧ztx xs=ns.map fun n=>UInt8.ofNat n.toNat:=by
 induction xs with
 |nil=>exact⟨[],rfl,rfl⟩
 |cons x r ih =>
  obtain⟨n,rfl⟩:=h x (by simp)
  obtain⟨ns,e1,e2⟩:=ih (fun y hy=>h y (by simp[hy]))
  exact⟨n::ns,by rw[e1];rfl,by
   show zvV _::ztx r=_
   rw[e2];rfl⟩
end
end Go.Ab
namespace Go.Ab
open Go Go.RowKit
variable [Amb]
section
variable {P:Program}{S0:Env}{w0 w:World}{n:Nat}{s:St}{a:Act}
theorem znu{t:TypeId}{f o:Nat}{k:TK}(h:fieldAt P t f=some (o,k)) :
  ∃fs fd i,P.underlying t=some (.struct fs)∧fs[f]?=some fd∧P.info? fd.type=some i∧0<i.size∧fd.offset=o∧tk P fd.type=k:=by
 unfold fieldAt at h
 split at h
 ·rename_i fs hu
  split at h
  ·rename_i fd hfd
   split at h
   ·rename_i i hi
    split at h
    ·cases h
    ·rename_i hz
     injection h with h
     injection h with h1 h2
     exact⟨fs,fd,i,hu,hfd,hi,by omega,h1,h2⟩
   ·cases h
  ·cases h
 ·cases h
theorem zhT{t:TypeId}{f o:Nat}{k:TK}(h:fieldAt P t f=some (o,k))(ad:Addr) :
  (Instr.fieldAt t (.pointer (some ad)) f).run P w=.ok (.pointer (some (ad.add o))) w:=by
 obtain⟨fs,fd,i,hu,hfd,hi,hpos,ho,_⟩:=znu h
 have hne:i.size≠0:=by omega
 simp[Instr.fieldAt,Instr.sureAddr,run_underlying hu,hfd,fieldPlace,run_sizeOf hi,hne,ho]
theorem zok{t:TypeId}{f:Nat}{x:Prop×AV}{v:Value}(hx:Knows S0 w0 s a w x v)(hp:(zbT P t f x).1) :
  Yields P S0 w0 s a w (Instr.fieldAt t v f) (zbT P t f x).2:=by
 obtain⟨p,x⟩:=x
 cases hf:fieldAt P t f with
 |none=>simp only[zbT,hf] at hp
 |some ok =>
  obtain⟨o,k⟩:=ok
  cases x with
  |ptr i off =>
   simp only[zbT,hf] at hp ⊢
   obtain⟨b,rfl,hb⟩:=hx hp
   exact⟨_,zhT hf _,⟨b,by rw[zaJ],hb⟩,rfl⟩
  |eptr i k' off =>
   simp only[zbT,hf] at hp ⊢
   obtain⟨b,rfl,hb⟩:=hx hp
   exact⟨_,zhT hf _,⟨b,by rw[zaJ,Nat.add_assoc],hb⟩,rfl⟩
  |elem cs =>
   simp only[zbT,hf] at hp ⊢
   obtain⟨ad,rfl,hsp,hS,hc⟩:=hx hp
   refine⟨_,zhT hf _,⟨_,rfl,?_,by rw[block_add];exact hS,fun j c hj=>?_⟩,rfl⟩
   ·unfold Addr.add;split<;>simp[hsp]
   ·rw[addr_add_add]
    rw[List.getElem?_drop] at hj
    exact hc _ _ hj
  |_=>simp only[zbT,hf] at hp
theorem zvJ{t:TypeId}{f:Nat}{x:Prop×AV}{v:Value}(hx:Knows S0 w0 s a w x v)(hp:(zj9 P t f x).1) :
  Yields P S0 w0 s a w (Instr.field t v f) (zj9 P t f x).2:=by
 obtain⟨p,x⟩:=x
 cases hf:fieldAt P t f with
 |none=>cases x<;>simp only[zj9,hf] at hp
 |some ok =>
  obtain⟨o,k⟩:=ok
  cases x with
  |x xv=>cases xv with
   |one c=>simp only[zj9,hf] at hp
   |agg cs =>
    simp only[zj9,hf] at hp ⊢
    obtain⟨fs,fd,i,hu,hfd,hi,hpos,ho,hk⟩:=znu hf
    subst ho
    subst hk
    cases hkt:tk P fd.type with
    |bad=>rw[hkt] at hp;exact hp.elim
    |one =>
     rw[hkt] at hp
     simp only[zJZ] at hp ⊢
     cases hd:cs.drop fd.offset with
     |nil=>rw[hd] at hp;exact hp.elim
     |cons c r =>
      rw[hd] at hp
      obtain⟨us,rfl,hl⟩:=hx hp
      obtain⟨u,hu',hr⟩:=(hl.drop fd.offset).2 0 c (by rw[hd];rfl)
      rw[List.getElem?_drop] at hu'
      refine⟨u,?_,hr,rfl⟩
      have:us[fd.offset]?=some u:=by simpa using hu'
      simp[Instr.field,run_underlying hu,hfd,asAgg,part,ztg (w:=w) hkt,this]
    |agg m =>
     rw[hkt] at hp
     obtain⟨hp,hl'⟩:=hp
     obtain⟨us,rfl,hl⟩:=hx hp
     obtain⟨i',hi',hsz,hag⟩:=zwl (w:=w) hkt
     refine⟨.agg (us.extract fd.offset (fd.offset+m)),?_,⟨_,rfl,?_⟩,rfl⟩
     ·simp[Instr.field,run_underlying hu,hfd,asAgg,part,hag,run_sizeOf hi',hsz]
     ·have:=hl.sub fd.offset m
      simp only[Array.toList_extract,List.extract_eq_take_drop]
      simpa using this
  |_=>simp only[zj9,hf] at hp
theorem zbH{t e:TypeId}{size:Nat}(h:sliceT P t=some (e,size)) :
  ∃i,P.underlying t=some (.slice e)∧P.info? e=some i∧i.size=size∧0<size:=by
 unfold sliceT at h
 split at h
 ·rename_i e' hu
  split at h
  ·rename_i i hi
   split at h
   ·cases h
   ·injection h with h
    injection h with h1 h2
    subst h1
    exact⟨i,hu,hi,h2,by omega⟩
  ·cases h
 ·cases h
theorem zbh{t:TypeId}(h:zaD P t=true):P.underlying t=some .string:=by
 unfold zaD at h
 split at h
 ·assumption
 ·cases h
theorem zfa{t e:TypeId}{size:Nat}(h:sliceT P t=some (e,size))(ad:Addr)(len cap:Nat)(k:IntKind)(m:Int)(h0:0≤m)(h1:m<len) :
  (Instr.indexAt t (.slice (some ad) len cap) (.int k m)).run P w=.ok (.pointer (some (ad.add (m.toNat*size)))) w:=by
 obtain⟨i,hu,hi,hs,_⟩:=zbH h
 simp[Instr.indexAt,asIntOf,run_underlying hu,h0,h1,run_sizeOf hi,hs]
theorem zzA{xs:List (List CV)}{size k:Nat}(hx:∀x∈xs,x.length=size)(hk:k<xs.length):(xs.getD k []).length=size:=by
 rw[List.getD_eq_getElem?_getD,List.getElem?_eq_getElem hk]
 exact hx _ (List.getElem_mem hk)
theorem zGU{t:TypeId}{len size:Nat}(h:zJN P t=some (len,size)):∃e i,P.underlying t=some (.array len e)∧P.info? e=some i∧i.size=size:=by
 unfold zJN at h
 split at h
 ·rename_i len' e hu
  split at h
  ·rename_i i hi
   injection h with h
   injection h with h1 h2
   subst h1
   exact⟨e,i,hu,hi,h2⟩
  ·cases h
 ·cases h
theorem zgv{t:TypeId}{len size:Nat}(h:zJN P t=some (len,size))(ad:Addr)(k:IntKind)(m:Int)(h0:0≤m)(h1:m<len) :
  (Instr.indexAt t (.pointer (some ad)) (.int k m)).run P w=.ok (.pointer (some (ad.add (m.toNat*size)))) w:=by
 obtain⟨e,i,hu,hi,hs⟩:=zGU h
 simp[Instr.indexAt,asIntOf,Instr.sureAddr,run_underlying hu,h0,h1,run_sizeOf hi,hs]
theorem zqa{t:TypeId}{x i:Prop×AV}{v iv:Value}(hx:Knows S0 w0 s a w x v)(hi:Knows S0 w0 s a w i iv)(hp:(zek P t x i).1) :
  Yields P S0 w0 s a w (Instr.indexAt t v iv) (zek P t x i).2:=by
 obtain⟨p,x⟩:=x
 obtain⟨q,i⟩:=i
 unfold zek at hp ⊢
 split at hp
 ·rename_i len size p' j off q' k n hT e1 e2
  injection e1 with e1 e3;subst e1;subst e3
  injection e2 with e2 e4;subst e2;subst e4
  obtain⟨h1,h2,h4,h5⟩:=hp
  obtain rfl:=zbg (hi h2)
  obtain⟨b,rfl,hb⟩:=hx h1
  refine⟨_,zgv hT _ k n h4 h5,⟨b,?_,hb⟩,rfl⟩
  rw[zaJ]
 ·rename_i len size p' cs q' k n hT e1 e2
  injection e1 with e1 e3;subst e1;subst e3
  injection e2 with e2 e4;subst e2;subst e4
  obtain⟨h1,h2,h4,h5⟩:=hp
  obtain rfl:=zbg (hi h2)
  obtain⟨ad,rfl,hsp,hs,hc⟩:=hx h1
  refine⟨_,zgv hT _ k n h4 h5,⟨_,rfl,?_,by rw[block_add];exact hs,fun j c hj=>?_⟩,rfl⟩
  ·unfold Addr.add;split<;>simp[hsp]
  ·rw[List.getElem?_drop] at hj
   rw[addr_add_add]
   exact hc _ c hj
 ·exact hp.elim
theorem zkN{t:TypeId}{x i:Prop×AV}(hp:(zaM P s t x i).1) :
  (zaM P s t x i=zek P t x i)∨∃e size k m,sliceT P t=some (e,size)∧i.2=.x (.one (.int k m))∧((∃z xs,x.2=.x (.one (.list z xs)))∨(∃j,x.2=.alias j)∨∃j lo len wh,x.2=.view j lo len wh):=by
 unfold zaM at hp
 split at hp
 ·rename_i hT;exact .inr ⟨_,_,_,_,hT,rfl,.inl ⟨_,_,rfl⟩⟩
 ·rename_i hT;exact .inr ⟨_,_,_,_,hT,rfl,.inr (.inl ⟨_,rfl⟩)⟩
 ·rename_i hT;exact .inr ⟨_,_,_,_,hT,rfl,.inr (.inr ⟨_,_,_,_,rfl⟩)⟩
 ·rename_i h1 h2 h3
  refine .inl ?_
  unfold zaM
  split
  ·exact absurd rfl (h1 _ _ _ _ _ _ _ _ (by assumption) rfl)
  ·exact absurd rfl (h2 _ _ _ _ _ _ _ (by assumption) rfl)
  ·exact absurd rfl (h3 _ _ _ _ _ _ _ _ _ _ (by assumption) rfl)
  ·rfl
theorem zoY{t:TypeId}{x i:Prop×AV}{v iv:Value}(hR:Rel S0 w0 n s a w)(hx:Knows S0 w0 s a w x v)(hi:Knows S0 w0 s a w i iv)(hp:(zaM P s t x i).1) :
  Yields P S0 w0 s a w (Instr.indexAt t v iv) (zaM P s t x i).2:=by
 rcases zkN hp with he | ⟨e,size,k,m,hT,hie,hxe⟩
 ·rw[he] at hp ⊢;exact zqa hx hi hp
 obtain⟨p,x⟩:=x
 obtain⟨q,i⟩:=i
 dsimp only at hie hxe
 subst hie
 rcases hxe with⟨z,xs,rfl⟩ | ⟨j,rfl⟩ | ⟨j,lo,len,wh,rfl⟩
 ·simp only[zaM,hT] at hp ⊢
  obtain⟨h1,h2,rfl,h4,h5⟩:=hp
  obtain rfl:=zbg (hi h2)
  have hr:=hx h1
  cases hr with
  |list0=>simp at h5;omega
  |list ad cap size xs U hs hsp hc hm hxl hU hrep =>
   refine⟨_,zfa hT ad _ cap k m h4 h5,⟨_,rfl,?_,by rw[block_add];exact hs,fun j c hj=>?_⟩,rfl⟩
   ·unfold Addr.add;split<;>simp[hsp]
   ·rw[addr_add_add]
    have:=zj1 hxl hj
    exact⟨_,hU _ _ this,hrep _ _ this⟩
 ·simp only[zaM,hT] at hp ⊢
  cases hsj:s j with
  |own e' z xs =>
   rw[hsj] at hp
   simp only at hp ⊢
   obtain⟨h1,h2,rfl,h4,h5⟩:=hp
   obtain rfl:=zbg (hi h2)
   obtain⟨rfl,_⟩:=zaQ.zdO (hx h1) hsj
   have hj:=hR.rep j
   rw[hsj] at hj
   obtain⟨us,hown,hl,hxl,_⟩:=hj
   rcases hown.2 with⟨_,h0⟩ | ⟨g,cap,cur,hv,_⟩
   ·omega
   ·rw[hv]
    refine⟨_,zfa hT _ _ cap k m h4 h5,⟨g,?_,?_⟩,rfl⟩
    ·rw[zaJ,hsj];simp[AV.size]
    ·rw[hsj];show Value.ownBlock _=_;rw[hv];rfl
  |_=>rw[hsj] at hp;exact hp.elim
 ·simp only[zaM,hT] at hp ⊢
  obtain⟨h1,h2,h3,h4,h5⟩:=hp
  obtain rfl:=zbg (hi h2)
  obtain⟨_,hle,hv⟩:=hx h1
  rcases hv with⟨_,h0⟩ | ⟨b,off,cap,rfl,hc,hm,hk,hz,_⟩
  ·omega
  ·obtain rfl:=hz (by omega)
   refine⟨_,zfa hT _ _ cap k m h4 h5,⟨b,?_,hk⟩,rfl⟩
   rw[zaJ,h3,Nat.add_mul];simp
theorem zyP{t:TypeId}{x i:Prop×AV}{v iv:Value}(hx:Knows S0 w0 s a w x v)(hi:Knows S0 w0 s a w i iv)(hp:(zn5 P t x i).1) :
  Yields P S0 w0 s a w (Instr.index t v iv) (zn5 P t x i).2:=by
 obtain⟨p,x⟩:=x
 obtain⟨q,i⟩:=i
 match x,i,hp with
 |.x (.one (.str l)),.x (.one (.int k m)),hp =>
  obtain⟨h1,h2,h3,h4,h5⟩:=hp
  obtain rfl:=zbg (hi h2)
  obtain⟨rfl,_⟩:=zb4 (hx h1)
  have hu:=zbh h3
  have hlt:m.toNat<l.length:=by omega
  refine⟨_,?_,zaH.int _ _,rfl⟩
  have hat:(⟨l.toArray⟩:ByteArray)[m.toNat]?=some (l.getD m.toNat 0):=by
   rw[ByteArray.getElem?_lt' _ _ (by rw[zi8];exact hlt)]
   congr 1
   show l.toArray[m.toNat]=_
   simp[List.getD,hlt]
  simp[Instr.index,asIntOf,run_underlying hu,h4,hat]
theorem zsp{x:Prop×AV}{i:Nat}{v:Value}(hx:Knows S0 w0 s a w x v)(hp:(zeY x i).1) :
  Yields P S0 w0 s a w (Instr.extract v i) (zeY x i).2:=by
 obtain⟨p,x⟩:=x
 match x,hp with
 |.tup vs,hp =>
  simp only[zeY] at hp ⊢
  cases hv:vs[i]? with
  |none=>rw[hv] at hp;exact hp.elim
  |some xv =>
   rw[hv] at hp
   obtain⟨us,rfl,_,h⟩:=hx hp
   obtain⟨u,hu,hr⟩:=h i xv hv
   exact⟨u,by simp[Instr.extract,hu],hr,rfl⟩
theorem zIk{t ty:TypeId}{x:Prop×AV}{v:Value}(hR:Rel S0 w0 n s a w)(hx:Knows S0 w0 s a w x v)(hp:(zpw P s t x).1) :
  Yields P S0 w0 s a w (Builtin.len_ #[t] ty #[v]) (zpw P s t x).2:=by
 obtain⟨p,x⟩:=x
 match x,hp with
 |.x (.one (.str l)),hp =>
  obtain⟨h1,h2⟩:=hp
  obtain⟨rfl,_⟩:=zb4 (hx h1)
  exact⟨_,by simp[Builtin.len_,run_underlying (zbh h2),goInt,zi8],zaH.int _ _,rfl⟩
 |.x (.one .nil),hp =>
  obtain⟨h1,h2⟩:=hp
  obtain rfl:=zdW (hx h1)
  obtain⟨⟨e,z⟩,hT⟩:=Option.isSome_iff_exists.1 h2
  obtain⟨i,hu,_⟩:=zbH hT
  exact⟨_,by simp[Builtin.len_,run_underlying hu,goInt],zaH.int _ _,rfl⟩
 |.x (.one (.empty z)),hp =>
  obtain⟨h1,h2⟩:=hp
  have hr:=hx h1
  obtain⟨⟨e,z⟩,hT⟩:=Option.isSome_iff_exists.1 h2
  obtain⟨i,hu,_⟩:=zbH hT
  cases hr
  exact⟨_,by simp[Builtin.len_,run_underlying hu,goInt],zaH.int _ _,rfl⟩
 |.x (.one (.list z xs)),hp =>
  obtain⟨h1,h2⟩:=hp
  obtain⟨⟨e,z'⟩,hT⟩:=Option.isSome_iff_exists.1 h2
  obtain⟨i,hu,_⟩:=zbH hT
  have hr:=hx h1
  have:∃b c,v=.slice b xs.length c:=by
   cases hr with
   |list0 b c _ _ _=>exact⟨b,c,rfl⟩
   |list ad cap=>exact⟨_,cap,rfl⟩
  obtain⟨b,c,rfl⟩:=this
  exact⟨_,by simp[Builtin.len_,run_underlying hu,goInt],zaH.int _ _,rfl⟩
 |.alias j,hp =>
  simp only[zpw] at hp ⊢
  cases hsj:s j with
  |own e' z xs =>
   rw[hsj] at hp
   obtain⟨h1,h2⟩:=hp
   obtain⟨⟨e,z'⟩,hT⟩:=Option.isSome_iff_exists.1 h2
   obtain⟨i,hu,_⟩:=zbH hT
   obtain⟨rfl,_⟩:=zaQ.zdO (hx h1) hsj
   have hj:=hR.rep j
   rw[hsj] at hj
   obtain⟨us,hown,_⟩:=hj
   have:∃b c,zai a j=.slice b xs.length c:=by
    rcases hown.2 with⟨h,h0⟩ | ⟨g,cap,cur,hv,_⟩
    ·exact⟨none,0,by rw[h,h0]⟩
    ·exact⟨_,cap,hv⟩
   obtain⟨b,c,hv⟩:=this
   rw[hv]
   exact⟨_,by simp[Builtin.len_,run_underlying hu,goInt],zaH.int _ _,rfl⟩
  |mp c bs es =>
   rw[hsj] at hp
   obtain⟨h1,h2⟩:=hp
   obtain⟨⟨kk,e⟩,hT⟩:=Option.isSome_iff_exists.1 h2
   obtain⟨kt,hu,_⟩:=zoJ hT
   obtain⟨rfl,_⟩:=zaQ.zk1 (hx h1) hsj
   have hj:=hR.rep j
   rw[hsj] at hj
   obtain⟨b,ents,hv,hh,_,he⟩:=hj
   rw[hv]
   have hl:ents.size=es.length:=by have:=he.1;simpa using this
   exact⟨_,by simp[Builtin.len_,run_underlying hu,goInt,Go.MapKept.run_getObj_map hh,Result.andThen,hl],zaH.int _ _,rfl⟩
  |_=>rw[hsj] at hp;exact hp.elim
 |.view i lo len wh,hp =>
  obtain⟨h1,h2⟩:=hp
  obtain⟨⟨e,z'⟩,hT⟩:=Option.isSome_iff_exists.1 h2
  obtain⟨j,hu,_⟩:=zbH hT
  obtain⟨_,hle,hv⟩:=hx h1
  have:∃b c,v=.slice b len c:=by
   rcases hv with⟨h,h0⟩ | ⟨b,off,cap,rfl,_⟩
   ·exact⟨none,0,by rw[h,h0]⟩
   ·exact⟨_,cap,rfl⟩
  obtain⟨b,c,hv⟩:=this
  rw[hv]
  exact⟨_,by simp[Builtin.len_,run_underlying hu,goInt],zaH.int _ _,rfl⟩
theorem zGH{t ty:TypeId}{x:Prop×AV}{v:Value}(hx:Knows S0 w0 s a w x v)(hp:(zOA P t x).1) :
  Yields P S0 w0 s a w (Builtin.cap_ #[t] ty #[v]) (zOA P t x).2:=by
 unfold zOA at hp ⊢
 split at hp
 ·obtain⟨h1,h2⟩:=hp
  obtain rfl:=zdW (hx h1)
  obtain⟨⟨e,z⟩,hT⟩:=Option.isSome_iff_exists.1 h2
  obtain⟨i,hu,_⟩:=zbH hT
  exact⟨_,by simp[Builtin.cap_,run_underlying hu,goInt],zaH.int _ _,rfl⟩
 ·exact hp.elim
theorem zmr{t:TypeId}{kk:KK}{e:TypeId}{b c:Nat}{ents:Array MapEntry}{bs:List Nat}{es:List (XV×XV)}{kx:XV}{kv:Value}{ok:Bool}{r:Option Nat}{z:XV}
  (hT:zrr P t=some (kk,e))(hh:w.heap[b]?=some (.map ents c))(he:zvw w (Shared S0 w0.heap.size w s (zai a)) bs es ents.toList)(hk:zbL w (Shared S0 w0.heap.size w s (zai a)) kx kv)(h3:zdY kk kx=true)
  (hf:zbz kk kx es 0=some r)(hz:zbp P e=some z):Yields P S0 w0 s a w (Instr.lookup t (.map (some b)) kv ok) (zl1 es z ok r):=by
 obtain⟨kt,hu,hku⟩:=zoJ hT
 obtain⟨zv,hzr,hzx⟩:=zBN (P:=P) (w:=w) (S:=Shared S0 w0.heap.size w s (zai a)) hz
 obtain⟨u,hrun,hu'⟩:=zuo (P:=P) ok hu hku hh he hk h3 hf hzr
 have hrep:zbL w (Shared S0 w0.heap.size w s (zai a)) (match r with | some j=>((es[j]?).getD (z,z)).2 | none=>z) u:=by
  cases r with
  |none=>simp only at hu';subst hu';exact hzx
  |some j=>obtain⟨x,hx1,hx2⟩:=hu';simp only[hx1,Option.getD_some];exact hx2
 refine⟨_,hrun,?_,?_⟩
 ·cases ok with
  |false=>cases r<;>exact hrep
  |true =>
   cases r with
   |none=>exact⟨#[u,.bool false],rfl,rfl,fun j y hj=>by
     match j,hj with
     |0,hj=>simp at hj;subst hj;exact⟨u,rfl,hrep⟩
     |1,hj=>simp at hj;subst hj;exact⟨_,rfl,zaH.bool _⟩
     |j+2,hj=>simp at hj⟩
   |some m=>exact⟨#[u,.bool true],rfl,rfl,fun j y hj=>by
     match j,hj with
     |0,hj=>simp at hj;subst hj;exact⟨u,rfl,hrep⟩
     |1,hj=>simp at hj;subst hj;exact⟨_,rfl,zaH.bool _⟩
     |j+2,hj=>simp at hj⟩
 ·cases ok<;>cases r<;>rfl
theorem ztX{t:TypeId}{x k:Prop×AV}{v kv:Value}{ok:Bool}(hR:Rel S0 w0 n s a w)(hx:Knows S0 w0 s a w x v)(hk:Knows S0 w0 s a w k kv)(hp:(zew P s t x k ok).1) :
  Yields P S0 w0 s a w (Instr.lookup t v kv ok) (zew P s t x k ok).2:=by
 obtain⟨p,x⟩:=x
 obtain⟨q,k⟩:=k
 unfold zew at hp ⊢
 split at hp
 ·rename_i kk e p' i q' kx hT e1 e2
  injection e1 with e1a e1b;subst e1a;subst e1b
  injection e2 with e2a e2b;subst e2a;subst e2b
  split at hp
  ·rename_i c bs es hs
   split at hp
   ·rename_i r z hf hz
    obtain⟨h1,h2,h3⟩:=hp
    obtain⟨rfl,_⟩:=zaQ.zk1 (hx h1) hs
    have hj:=hR.rep i
    rw[hs] at hj
    obtain⟨b,ents,hv,hh,_,he⟩:=hj
    rw[hv]
    exact zmr hT hh he (hk h2) h3 hf hz
   ·exact hp.elim
  ·exact hp.elim
 ·rename_i kk e p' ka va ks vs q' kx hT e1 e2
  injection e1 with e1a e1b;subst e1a;subst e1b
  injection e2 with e2a e2b;subst e2a;subst e2b
  split at hp
  ·rename_i r z hf hz
   obtain⟨h1,h2,h3⟩:=hp
   obtain⟨b,c,ents,bs,rfl,_,hh,he⟩:=zAY (hx h1)
   exact zmr hT hh he (hk h2) h3 hf hz
  ·exact hp.elim
 ·exact hp.elim
theorem zHs{ts:Array TypeId}{ty:TypeId}{x y:Prop×AV}{u v:Value}(hx:Knows S0 w0 s a w x u)(hy:Knows S0 w0 s a w y v)(hp:(zFo x y).1) :
  Yields P S0 w0 s a w (Builtin.max_ ts ty #[u,v]) (zFo x y).2:=by
 obtain⟨p,x⟩:=x
 obtain⟨q,y⟩:=y
 match x,y,hp with
 |.x (.one (.int k m)),.x (.one (.int k' m')),hp =>
  obtain rfl:=zbg (hx hp.1)
  obtain rfl:=zbg (hy hp.2)
  refine⟨.int k (max m m'),?_,zaH.int _ _,rfl⟩
  have:(if m' > m then m' else m)=max m m':=by split<;>omega
  simp[Builtin.max_,Builtin.max2]
  simpa using this
theorem zHh{ts:Array TypeId}{ty:TypeId}{x y:Prop×AV}{u v:Value}(hx:Knows S0 w0 s a w x u)(hy:Knows S0 w0 s a w y v)(hp:(zE9 x y).1) :
  Yields P S0 w0 s a w (Builtin.min_ ts ty #[u,v]) (zE9 x y).2:=by
 obtain⟨p,x⟩:=x
 obtain⟨q,y⟩:=y
 match x,y,hp with
 |.x (.one (.int k m)),.x (.one (.int k' m')),hp =>
  obtain rfl:=zbg (hx hp.1)
  obtain rfl:=zbg (hy hp.2)
  refine⟨.int k (min m m'),?_,zaH.int _ _,rfl⟩
  have:(if m'<m then m' else m)=min m m':=by split<;>omega
  simp[Builtin.min_,Builtin.min2]
  simpa using this
theorem zBC{op:UnOp}{x:Prop×AV}{v:Value}(hx:Knows S0 w0 s a w x v)(hp:(zuZ op x).1):Yields P S0 w0 s a w (Op.unary op v) (zuZ op x).2:=by
 obtain⟨p,x⟩:=x
 match op,x,hp with
 |.not,.x (.one (.bool b)),hp =>
  obtain rfl:=zbX (hx hp)
  exact⟨_,rfl,zaH.bool _,rfl⟩
 |.neg,.x (.one (.int k m)),hp =>
  obtain rfl:=zbg (hx hp)
  exact⟨_,rfl,zaH.int _ _,rfl⟩
theorem zop{t:TypeId}(h:zcT P t=true):∃e,P.underlying t=some (.slice e)∧P.underlying e=some (.int .u8):=by
 unfold zcT at h
 split at h
 ·rename_i e h1;exact⟨e,h1,(zkP h).1⟩
 ·cases h
theorem zpW(hR:Rel S0 w0 n s a w){src dst:TypeId}{p:Prop}{x:AV}{v:Value}{xs:List (List CV)}(hx:Knows S0 w0 s a w (p,x) v)(hp:p)(hn:zbO s 1 x=some xs)(h1:zcT P src=true)(h2:zaD P dst=true)(h3:okB xs) :
  Yields P S0 w0 s a w (convert src dst v) (.x (.one (.str (ztx xs)))):=by
 obtain⟨b,c,us,rfl,hb0,hl,hxs,hm,hcell⟩:=zmO hR hx hp hn
 obtain⟨e,hs,he⟩:=zop h1
 obtain⟨ns,e1,e2⟩:=zNM h3
 have hlen:(ztx xs).length≤maxLen:=by simpa[ztx] using hm
 have hstr:strOfNums ns=(⟨(ztx xs).toArray⟩:ByteArray):=by
  rw[e2];rfl
 have hus:us=ns.map (Value.int .u8):=by
  have hfl:xs.flatten=ns.map fun n=>CV.int .u8 n:=by
   rw[e1]
   clear e1 e2 hstr hlen hl hm hxs h3 hn
   induction ns with
   |nil=>rfl
   |cons n r ih=>simp[ih]
  rw[hfl] at hl
  apply List.ext_getElem?
  intro j
  rcases Nat.lt_or_ge j ns.length with hj | hj
  ·obtain⟨u,hu,hr⟩:=hl.2 j (.int .u8 ns[j]) (by simp[hj])
   cases hr
   rw[hu];simp[hj]
  ·rw[List.getElem?_eq_none (by rw[hl.1];simpa using hj),List.getElem?_eq_none (by simpa using hj)]
 have hnl:xs.length=ns.length:=by rw[e1];simp
 cases b with
 |none =>
  have h0:=hb0 rfl
  have:ns=[]:=List.eq_nil_of_length_eq_zero (by omega)
  subst this
  refine⟨_,run_convert_bytes_nil w src e hs he xs.length c dst (zbh h2),?_,rfl⟩
  have:(ByteArray.empty:ByteArray)=⟨(ztx xs).toArray⟩:=by rw[e2];rfl
  rw[this]
  exact zaH.str _ hlen
 |some ad =>
  have hl':=run_loadCells_list (P:=P) w ad (ns.map (Value.int .u8)) (fun j v hj=>hcell ad rfl j v (by rw[hus];exact hj))
  refine⟨_,?_,zaH.str _ hlen,rfl⟩
  rw[run_convert_bytes_string w src dst e (some ad) xs.length c hs he (zbh h2)]
  have h3:(loadCells ad xs.length).run P w=.ok (ns.map (Value.int .u8)).toArray w:=by simpa[hnl] using hl'
  rw[run_bytesToString w ad xs.length c ns h3,foldl_push_bytes]
  congr 2
  rw[←hstr]
  simp[strOfNums,ByteArray.empty,ByteArray.emptyWithCapacity]
  rfl
theorem zr8(hR:Rel S0 w0 n s a w){src dst:TypeId}{x:Prop×AV}{v:Value}(hx:Knows S0 w0 s a w x v)(hp:(zbR P s src dst x).1):Yields P S0 w0 s a w (convert src dst v) (zbR P s src dst x).2:=by
 obtain⟨p,x⟩:=x
 unfold zbR at hp ⊢
 split at hp
 ·rename_i p' k m e
  injection e with e1 e2
  subst e1;subst e2
  cases hd:zsJ P dst with
  |none =>
   rw[hd] at hp
   obtain⟨h1,h2,h3,h4,h5⟩:=hp
   obtain rfl:=zbg (hx h1)
   obtain⟨ty,hty⟩:=Option.isSome_iff_exists.1 h2
   have hu:=zbh h3
   refine⟨_,?_,zaH.str [UInt8.ofNat m.toNat] (show 1≤maxLen by decide),rfl⟩
   have hv:Utf8.encode m=⟨([UInt8.ofNat m.toNat]:List UInt8).toArray⟩:=by
    have h6:Utf8.valid m=true:=by simp[Utf8.valid];omega
    have h7:m.toNat<128:=by omega
    simp[Utf8.encode,h6,h7]
   simp[convert,run_underlying hty,run_underlying hu,Conv.intToString,hv]
  |some k' =>
   rw[hd] at hp
   obtain⟨h1,h2⟩:=hp
   obtain rfl:=zbg (hx h1)
   obtain⟨ty,hty⟩:=Option.isSome_iff_exists.1 h2
   have hu:P.underlying dst=some (.int k'):=by
    unfold zsJ at hd
    split at hd
    ·injection hd with hd;subst hd;assumption
    ·cases hd
   refine⟨_,?_,zaH.int _ _,rfl⟩
   simp[convert,run_underlying hty,run_underlying hu,Conv.intToInt]
 ·rename_i p' l e
  injection e with e1 e2
  subst e1;subst e2
  obtain⟨h1,h2,h3⟩:=hp
  have hr:=hx h1
  obtain⟨rfl,_⟩:=zb4 hr
  exact⟨_,by simp[convert,run_underlying (zbh h2),run_underlying (zbh h3)],hr,rfl⟩
 ·rename_i p' v' h1 h2 e
  injection e with e1 e2
  subst e1;subst e2
  cases hn:zbO s 1 x with
  |none=>rw[hn] at hp;exact hp.elim
  |some xs =>
   rw[hn] at hp
   exact zpW hR hx hp.1 hn hp.2.1 hp.2.2.1 hp.2.2.2
end
end Go.Ab
