/- A part of the proof: lemmas and contracts of functions. -/
import Derived.Test.YtlcmnclbljedfaaGreatDoorAbJ4
import Derived.ChangeArms
import Derived.Deep.Slices
import Derived.Below
import Derived.Carry
import Derived.ChangeSame
import Derived.WalkKit
import Derived.ProofKit
import Derived.OpenShut
import Derived.JoinedCond
import Derived.Lib.LaidTab
import Derived.Lib.ItoaNum
set_option linter.all false
namespace Go.Ab
open Go Go.RowKit
variable [Amb]
theorem zvW{α:Type}:∀{n:Nat} {p:Nat→α→Prop},(∀i,i<n→∃x,p i x)→∃l:List α,l.length=n∧∀i x,l[i]?=some x→p i x
 |0,p,_=>⟨[],rfl,fun i x h=>by simp at h⟩
 |n+1,p,h=>by
  obtain⟨x,hx⟩:=h 0 (by omega)
  obtain⟨l,hl,hp⟩:=zvW (n:=n) (p:=fun i=>p (i+1)) (fun i hi=>h (i+1) (by omega))
  refine⟨x::l,by simp[hl],fun i y hy=>?_⟩
  cases i with
  |zero=>simp at hy;subst hy;exact hx
  |succ i=>simp at hy;exact hp i y hy
inductive KT where
 |b
 |i (k:IntKind)
 |s
 |sl (size:Nat) (e:KT)
 |st (fs:List KT)
mutual
def KT.size:KT→Nat
 |.st fs=>KT.sizes fs
 |_=>1
def KT.sizes:List KT→Nat
 |[]=>0
 |k::r=>k.size+KT.sizes r
end
def KT.has(P:Program):KT→TypeId→Prop
 |.b,t=>P.underlying t=some .bool
 |.i k,t=>P.underlying t=some (.int k)
 |.s,t=>P.underlying t=some .string
 |.sl size e,t=>∃te,P.underlying t=some (.slice te)∧P.cellsOf te=size∧e.size=size∧0<size∧KT.has P e te
 |.st ks,t=>∃fs:Array Field,P.underlying t=some (.struct fs)∧P.cellsOf t=KT.sizes ks∧hasAll fs.toList 0 ks
where hasAll:List Field→Nat→List KT→Prop
 |[],_,[]=>True
 |f::fs,off,k::ks=>f.offset=off∧P.cellsOf f.type=k.size∧KT.has P k f.type∧hasAll fs (off+k.size) ks
 |_,_,_=>False
def KT.fits:KT→List CV→Prop
 |.b,cs=>∃x,cs=[.bool x]
 |.i k,cs=>∃n,cs=[.int k n]∧(Lit.int k n).wf=true
 |.s,cs=>∃l,cs=[.str l]∧l.length≤maxLen
 |.sl size e,cs=>∃xs,cs=[.list size xs]∧∀x∈xs,e.fits x
 |.st ks,cs=>fitsAll ks cs
where fitsAll:List KT→List CV→Prop
 |[],cs=>cs=[]
 |k::ks,cs=>∃a b,cs=a++b∧k.fits a∧fitsAll ks b
def KT.zjE(B:Nat):KT→List CV→Prop
 |.b,cs=>∃x,cs=[.bool x]
 |.i k,cs=>∃n,cs=[.int k n]∧(Lit.int k n).wf=true
 |.s,cs=>∃l,cs=[.str l]∧l.length≤maxLen∧l.length≤B
 |.sl size e,cs=>∃xs,cs=[.list size xs]∧∀x∈xs,e.zjE B x
 |.st ks,cs=>fitsAllB ks cs
where fitsAllB:List KT→List CV→Prop
 |[],cs=>cs=[]
 |k::ks,cs=>∃a b,cs=a++b∧k.zjE B a∧fitsAllB ks b
section
variable {H:Type}{P:Program}
theorem zhz{p:Nat→Bool}{e:TypeId}:∀{l:List (DataW H)},(DataW.weightsAll P e l).all p=true→∀d∈l,(d.weights P e).all p=true
 |[],_,d,hd=>by cases hd
 |x::r,h,d,hd=>by
  rw[DataW.weightsAll,List.all_append,Bool.and_eq_true] at h
  rcases List.mem_cons.1 hd with rfl | hd
  ·exact h.1
  ·exact zhz h.2 d hd
theorem zhD{p:Nat→Bool}:∀{ts:List TypeId} {ds:List (DataW H)},(DataW.weightsEach P ts ds).all p=true→∀(i:Nat) t d,ts[i]?=some t→ds[i]?=some d→(d.weights P t).all p=true
 |[],_,_,i,t,d,ht,_=>by simp at ht
 |_::_,[],_,i,t,d,_,hd=>by simp at hd
 |a::ts,b::ds,h,i,t,d,ht,hd=>by
  rw[DataW.weightsEach,List.all_append,Bool.and_eq_true] at h
  cases i with
  |zero=>simp at ht hd;subst ht;subst hd;exact h.1
  |succ i=>exact zhD h.2 i t d (by simpa using ht) (by simpa using hd)
end
theorem zl4{α:Type}{size:Nat}(h0:0<size):∀{xs:List (List α)} (_:∀x∈xs,x.length=size) (j:Nat),xs.flatten[j]?=(xs[j / size]?).bind (·[j % size]?)
 |[],_,j=>by simp
 |x::r,h,j=>by
  have hx:x.length=size:=h x (by simp)
  simp only[List.flatten_cons]
  by_cases hj:j<size
  ·rw[List.getElem?_append_left (by omega),Nat.div_eq_of_lt hj,Nat.mod_eq_of_lt hj]
   rfl
  ·obtain⟨k,rfl⟩:∃k,j=k+size:=⟨j-size,by omega⟩
   rw[List.getElem?_append_right (by omega),hx,Nat.add_sub_cancel,zl4 h0 (fun y hy=>h y (by simp[hy])) k,Nat.add_div_right k h0,Nat.add_mod_right]
   rfl
theorem zbP.append{w:World}{S:Nat→Prop}{a b:List CV}{us vs:List Value}(h1:zbP w S a us)(h2:zbP w S b vs):zbP w S (a++b) (us++vs):=by
 refine⟨by simp[h1.1,h2.1],fun j c hj=>?_⟩
 by_cases hl:j<a.length
 ·rw[List.getElem?_append_left hl] at hj
  rw[List.getElem?_append_left (by rw[h1.1];exact hl)]
  exact h1.2 j c hj
 ·rw[List.getElem?_append_right (by omega)] at hj
  rw[List.getElem?_append_right (by rw[h1.1];omega),h1.1]
  exact h2.2 _ c hj
theorem zbP.one{w:World}{S:Nat→Prop}{c:CV}{v:Value}(h:zaH w S c v):zbP w S [c] [v]:=by
 refine⟨rfl,fun j d hj=>?_⟩
 cases j with
 |zero=>simp at hj;subst hj;exact⟨v,rfl,h⟩
 |succ j=>simp at hj
section
variable {H:Type}{enc:TypeId×Value→H}{P:Program}{w:World}{base:Nat}{spare:Nat→Bool}{held:Bool}
mutual
theorem KT.read:(k:KT)→∀(t:TypeId) (fuel:Nat) (cs:List Value) (x:DataW H×List MemPlace),k.has P t→DataW.trod enc P w base spare held fuel t cs=some x →
  ∃cvs:List CV,zbP w (fun b=>b<w.heap.size) cvs cs∧k.fits cvs∧cvs.length=k.size∧∀B,(x.1.weights P t).all (·≤B)=true→k.zjE B cvs
 |.b,t,fuel,cs,x,hk,h=>by
  obtain⟨b,rfl,_⟩:=DataW.trod_bool hk h
  exact⟨[.bool b],zbP.one (.bool b),⟨b,rfl⟩,rfl,fun _ _=>⟨b,rfl⟩⟩
 |.i k,t,fuel,cs,x,hk,h=>by
  obtain⟨n,rfl,_,hw⟩:=DataW.trod_int hk h
  exact⟨[.int k n],zbP.one (.int k n),⟨n,rfl,hw⟩,rfl,fun _ _=>⟨n,rfl,hw⟩⟩
 |.s,t,fuel,cs,x,hk,h=>by
  obtain⟨s,rfl,rfl,hs⟩:=DataW.trod_string hk h
  have hl:s.data.toList.length≤maxLen:=by simpa using hs
  exact⟨[.str s.data.toList],zbP.one (by simpa using zaH.str (w:=w) (S:=fun b=>b<w.heap.size) s.data.toList hl),⟨_,rfl,hl⟩,rfl,fun B hB=>⟨_,rfl,hl,by simpa[DataW.weights] using hB⟩⟩
 |.sl size e,t,fuel,cs,x,hk,h=>by
  obtain⟨te,ht,hc,hz,h0,he⟩:=hk
  rcases Go.Deep.open_slice ht h with⟨rfl,_⟩ | ⟨a,len,cap,m,n,D,Pl,rfl,hb,hl,hm,hmm,rfl,hx⟩
  ·exact⟨[.list size []],zbP.one (.list0 none 0 size (by decide) (fun _=>rfl)),⟨[],rfl,fun x hx=>(by cases hx)⟩,rfl,fun _ _=>⟨[],rfl,fun x hx=>(by cases hx)⟩⟩
  ·have hlm:len≤m:=by rw[hmm];split<;>omega
   obtain⟨xs,hlen,hxs⟩:=zvW (n:=len) (p:=fun i (cvs:List CV)=>∃cs',w.cells? base (a.add (i*size)) size=some cs'∧zbP w (fun b=>b<w.heap.size) cvs cs'∧e.fits cvs∧cvs.length=size∧∀B,((D i).weights P te).all (·≤B)=true→e.zjE B cvs) (fun i hi=>by
    obtain⟨cs',h1,h2⟩:=hx i (by omega)
    rw[hc] at h1
    obtain⟨cvs,h3,h4,h5,h6⟩:=KT.read e te n cs' _ he h2
    exact⟨cvs,cs',h1,h3,h4,by rw[h5,hz],h6⟩)
   have hsz:∀x∈xs,x.length=size:=fun x hx'=>by
    obtain⟨i,hi⟩:=List.getElem?_of_mem hx'
    obtain⟨_,_,_,_,h,_⟩:=hxs i x hi
    exact h
   refine⟨[.list size xs],zbP.one ?_,⟨xs,rfl,fun x hx'=>?_⟩,rfl,fun B hB=>⟨xs,rfl,fun x hx'=>?_⟩⟩
   ·have hcell:∀(j:Nat) (c:CV),xs.flatten[j]?=some c→∃u,w.cell? (a.add j)=some u∧zaH w (fun b=>b<w.heap.size) c u:=by
     intro j c hj
     rw[zl4 h0 hsz] at hj
     obtain⟨y,hy,hyc⟩:=Option.bind_eq_some_iff.1 hj
     obtain⟨cs',h1,h2,_,h4,_⟩:=hxs _ y hy
     obtain⟨u,hu,hr⟩:=h2.2 _ c hyc
     refine⟨u,?_,hr⟩
     unfold World.cells? at h1
     split at h1
     ·have:=mapM_some_get h1 (j % size) (j % size) (by simp[Nat.mod_lt _ h0])
      rw[hu,addr_add_add] at this
      have e2:j / size*size+j % size=j:=by rw[Nat.mul_comm];exact Nat.div_add_mod j size
      rw[e2] at this
      exact this
     ·cases h1
    cases xs with
    |nil =>
     simp at hlen
     subst hlen
     exact .list0 (some a) cap size hm (fun h=>by cases h)
    |cons y ys =>
     have hy:(y::ys).flatten[0]?≠none:=by
      have:=hsz y (by simp)
      simp only[List.flatten_cons]
      rw[List.getElem?_append_left (by omega),ne_eq,List.getElem?_eq_none_iff]
      omega
     obtain⟨c,hc0⟩:=Option.ne_none_iff_exists'.1 hy
     obtain⟨u,hu,_⟩:=hcell 0 c hc0
     have hsp:a.block<w.heap.size∧a.spot=none:=by
      have e0:a.add 0=a:=by simp[Addr.add]
      rw[e0] at hu
      unfold World.cell? at hu
      split at hu
      ·rename_i heq
       refine⟨(Array.getElem?_eq_some_iff.1 heq).1,?_⟩
       split at hu
       ·cases hu
       ·rename_i hns;simpa using hns
      ·cases hu
     rw[←hlen]
     refine .list a cap size (y::ys) (fun j=>(w.cell? (a.add j)).getD undef) hsp.1 hsp.2 (by omega) hm hsz (fun j c hj=>?_) (fun j c hj=>?_)
     ·obtain⟨u,hu,_⟩:=hcell j c hj
      rw[hu];rfl
     ·obtain⟨u,hu,hr⟩:=hcell j c hj
      rw[hu];exact hr
   ·obtain⟨i,hi⟩:=List.getElem?_of_mem hx'
    obtain⟨_,_,_,h,_⟩:=hxs i x hi
    exact h
   ·obtain⟨i,hi⟩:=List.getElem?_of_mem hx'
    obtain⟨_,_,_,_,_,h⟩:=hxs i x hi
    refine h B ?_
    have hil:i<len:=by rw[←hlen];exact(List.getElem?_eq_some_iff.1 hi).1
    simp only[DataW.weights,ht,List.all_cons,List.all_append,Bool.and_eq_true] at hB
    exact zhz hB.2.1 (D i) (List.mem_map.2 ⟨i,by simpa using hil,rfl⟩)
 |.st ks,t,fuel,cs,x,hk,h=>by
  obtain⟨fs,ht,hc,ha⟩:=hk
  obtain⟨xs,n,rfl,rfl,hl,hxl,hx⟩:=DataW.trod_struct ht h
  obtain⟨cvs,h1,h2,h3,h4⟩:=KT.readAll ks fs.toList 0 n cs (fun i=>(xs[i]?).getD (.nil,[])) ha (by rw[hl,hc];omega) (fun i f hf=>by
   have hf':fs[i]?=some f:=by simpa using hf
   rw[hx i f hf']
   have:i<xs.length:=by rw[hxl];exact(Array.getElem?_eq_some_iff.1 hf').1
   rw[List.getElem?_eq_getElem this];rfl)
  refine⟨cvs,by simpa using h1,h2,h3,fun B hB=>h4 B (fun i f hf=>?_)⟩
  have hf':fs[i]?=some f:=by simpa using hf
  have hi:i<xs.length:=by rw[hxl];exact(Array.getElem?_eq_some_iff.1 hf').1
  simp only[DataW.weights,ht] at hB
  refine zhD hB i f.type _ (by simp[hf']) ?_
  rw[List.getElem?_map,List.getElem?_eq_getElem hi];rfl
theorem KT.readAll:(ks:List KT)→∀(fs:List Field) (off n:Nat) (cs:List Value) (X:Nat→DataW H×List MemPlace),KT.has.hasAll P fs off ks→cs.length=off+KT.sizes ks →
  (∀(i:Nat) (f:Field),fs[i]?=some f→DataW.trod enc P w base spare held n f.type ((cs.drop f.offset).take (P.cellsOf f.type))=some (X i)) →
  ∃cvs:List CV,zbP w (fun b=>b<w.heap.size) cvs (cs.drop off)∧KT.fits.fitsAll ks cvs∧cvs.length=KT.sizes ks∧∀B,(∀(i:Nat) (f:Field),fs[i]?=some f→((X i).1.weights P f.type).all (·≤B)=true)→KT.zjE.fitsAllB B ks cvs
 |[],fs,off,n,cs,X,ha,hl,h=>by
  cases fs with
  |nil=>exact⟨[],⟨by simp[hl,KT.sizes],fun j c hj=>by simp at hj⟩,rfl,rfl,fun _ _=>rfl⟩
  |cons f fs=>exact ha.elim
 |k::ks,fs,off,n,cs,X,ha,hl,h=>by
  cases fs with
  |nil=>exact ha.elim
  |cons f fs =>
   obtain⟨ho,hc,hk,hr⟩:=ha
   have hx:=h 0 f rfl
   rw[ho,hc] at hx
   obtain⟨c1,h1,h2,h3,hb1⟩:=KT.read k f.type n _ _ hk hx
   obtain⟨c2,h4,h5,h6,hb2⟩:=KT.readAll ks fs (off+k.size) n cs (fun i=>X (i+1)) hr (by rw[hl];simp only[KT.sizes];omega) (fun i g hg=>h (i+1) g hg)
   refine⟨c1++c2,?_,⟨c1,c2,rfl,h2,h5⟩,by simp[h3,h6,KT.sizes],fun B hB=>⟨c1,c2,rfl,hb1 B (hB 0 f rfl),hb2 B (fun i g hg=>hB (i+1) g hg)⟩⟩
   have:=h1.append h4
   rw[←List.drop_drop,List.take_append_drop] at this
   exact this
end
end
end Go.Ab
namespace Go.Ab
open Go Go.RowKit Go.WideShapes Go.ChangeShapes
variable [Amb]
theorem zxQ{H:Type}{enc:TypeId×Value→H}{P:Program}{f:Func}{s:ChangeSpec}{fresh handsOn again:Bool}{W W':World}{args:Array Value}{v:Value}{ds gs:List (DataW H)}{before pa pv:List MemPlace}
  (hW:DataW.Whole enc P f.params.toList s.vars false W args.toList ds gs before)(hb:Below W.heap.size W W')
  (hres:∀(b:Nat) (sp:Nat→Bool) (hd:Bool),DataW.TrodAll enc P W' b sp hd f.resultTypes.toList (v.resultList f.resultTypes.size) (s.fn H (ds++gs)).results [])
  (hargs:∀sp:Nat→Bool,(∀p∈before,sp p.block=true)→DataW.TrodAll enc P W' 0 sp true f.params.toList args.toList (s.fn H (ds++gs)).args pa)
  (hvars:∀sp:Nat→Bool,(∀p∈before,sp p.block=true)→DataW.TrodVars enc P W' sp s.vars (s.fn H (ds++gs)).vars pv)
  (hps:before=pa++pv)(hok:∀(j:Nat) (t:TypeId) (r:Value),f.resultTypes[j]?=some t→(v.resultList f.resultTypes.size)[j]?=some r→Value.okWide P W' .any 0 t r) :
  s.post enc P f false fresh handsOn again W args v W':=by
 subst hps
 have old:∀p∈pa++pv,p.block<W.heap.size:=fun p hp=>hW.lt p hp
 have ha:=hargs (fun b=>decide (b<W.heap.size)) (fun p hp=>by simpa using old p hp)
 have hv:=hvars (fun b=>decide (b<W.heap.size)) (fun p hp=>by simpa using old p hp)
 refine⟨ds,gs,pa++pv,[],pa,pv,hW,hres _ _ _,ha,hv,World.keptBut_mono (fun p hp=>⟨hp,.inr (List.mem_append.1 hp)⟩) (hb.frame (·∈pa++pv)),fun _=>?_⟩
 obtain⟨_,_,_,_,_,hz,_⟩:=hW
 refine⟨hok,_,_,([]++pa)++pv,⟨[]++pa,pv,trodAll_append (hargs _ (fun _ _=>rfl)) (hres _ _ _),hvars _ (fun _ _=>rfl),rfl,fun b off hp=>?_,fun h=>(by cases h)⟩,fun p hp _=>by simpa using hp⟩
 have hin:MemPlace.cell b off∈pa++pv:=by simpa using hp
 rw[hb.frozen (old _ hin)]
 exact hz b off hin
end Go.Ab
namespace Go.Ab
open Go Go.RowKit
variable [Amb]
def zGY:CV→Option Value
 |.bool b=>some (.bool b)
 |.int k n=>some (.int k n)
 |.str l=>some (.string ⟨l.toArray⟩)
 |.atom v=>some v
 |_=>none
def zPE:XV→Option Value
 |.one c=>zGY c
 |_=>none
def zsl:List XV→Option (List Value)
 |[]=>some []
 |x::r=>match zPE x,zsl r with
  |some v,some vs=>some (v::vs)
  |_,_=>none
theorem zaH.zUM{w:World}{S:Nat→Prop}{c:CV}{v u:Value}(h:zaH w S c v)(hc:zGY c=some u):v=u:=by
 cases h<;>simp[zGY] at hc<;>exact hc
theorem zbL.zUM{w:World}{S:Nat→Prop}{x:XV}{v u:Value}(h:zbL w S x v)(hc:zPE x=some u):v=u:=by
 cases x with
 |one c=>exact zaH.zUM h hc
 |agg cs=>cases hc
theorem zoj{w:World}{S:Nat→Prop}:∀{args:List XV} {us vs:List Value},us.length=args.length→(∀(j:Nat) (x:XV),args[j]?=some x→∃u,us[j]?=some u∧zbL w S x u)→zsl args=some vs→us=vs
 |[],us,vs,hl,_,h=>by
  simp[zsl] at h;subst h
  exact List.eq_nil_of_length_eq_zero hl
 |x::r,us,vs,hl,hr,h=>by
  simp only[zsl] at h
  split at h
  ·rename_i v vs' e1 e2
   injection h with h
   subst h
   cases us with
   |nil=>simp at hl
   |cons u us =>
    obtain⟨u',hu,hrep⟩:=hr 0 x rfl
    simp at hu;subst hu
    have h2:=zoj (us:=us) (by simpa using hl) (fun j y hy=>by simpa using hr (j+1) y (by simpa using hy)) e2
    rw[hrep.zUM e1,h2]
  ·cases h
theorem zow{w:World}{S:Nat→Prop}{args:List XV}{vs:Array Value}(h:zcB w S args vs):∀x∈args,x.ok:=by
 intro x hx
 obtain⟨j,hj⟩:=List.getElem?_of_mem hx
 obtain⟨u,_,hr⟩:=h.2 j x hj
 exact hr.ok
theorem zAM{r:RV}{v:Value}(hr:∀w S,zkq w S r v):r.blk v=none:=by
 cases r with
 |own e z xs =>
  cases h:v.ownBlock with
  |none=>exact h
  |some b =>
   obtain⟨us,_,_,_,_,hB⟩:=hr default (fun _=>False)
   exact(hB b h).elim
 |_=>rfl
theorem zab.znw{P:Program}{f:FuncId}{args:List XV}{r:RV}(vs:List Value)(v:Value)(hc:zea P f)(ha:zsl args=some vs)(hr:∀w S,zkq w S r v)
  (h:(∀x∈args,x.ok)→∀w,Amb.holds w→Calls P f vs.toArray w fun e w'=>e=.returned v∧Below w.heap.size w w'):zab P f args r:=by
 refine⟨hc,fun w S us hS hargs=>?_⟩
 have e:us=vs.toArray:=by
  have:=zoj (us:=us.toList) (by rw[Array.length_toList];exact hargs.1) (fun j x hj=>by simpa using hargs.2 j x hj) ha
  rw[←this]
 subst e
 refine(h (zow hargs) w hS.amb).mono ?_
 rintro e w' ⟨rfl,hb⟩
 exact⟨v,rfl,hb,hr _ _,fun b hbb=>by rw[zAM hr] at hbb;cases hbb⟩
theorem zab.ztJ{P:Program}{f:FuncId}{args:List XV}{r:RV}(vs:List Value)(v:Value)(hc:zea P f)(ha:zsl args=some vs)(hr:∀w S,zkq w S r v)
  (h:(∀x∈args,x.ok)→∀w,Calls P f vs.toArray w fun e w'=>e=.returned v∧Below w.heap.size w w'):zab P f args r:=zab.znw vs v hc ha hr (fun hx w _=>h hx w)
theorem zpm{w:World}{S:Nat→Prop}(k:IntKind)(n:Int):zkq w S (.x (.one (.int k n))) (.int k n):=zaH.int k n
theorem zoU{w:World}{S:Nat→Prop}(l:List UInt8)(h:l.length≤maxLen):zkq w S (.x (.one (.str l))) (.string ⟨l.toArray⟩):=zaH.str l h
theorem zbm {P : Program} {f : FuncId} (fn : Func) (h : P.funcs[f]? = some fn) (hn : (fn.name == "runtime.NumGoroutine") = false) (hb : fn.body.isNone = false) : zea P f := ⟨fn, h, hn, hb⟩
@[simp]theorem zwL(n:Nat)(h:n≤65536):(n≤maxLen)=True:=by
 have:(65536:Nat)≤maxLen:=by decide
 exact propext ⟨fun _=>trivial,fun _=>Nat.le_trans h this⟩
theorem zxm{w:World}{S:Nat→Prop}{z:Nat}{v:Value}(h:zaH w S (.list z []) v):zaH w S .nil v∨zaH w S (.empty z) v:=by
 cases h with
 |list0 a cap _ h hn =>
  cases a with
  |none=>rw[hn rfl];exact .inl .nil
  |some a=>exact .inr (.empty a cap z h)
 |list ad cap _ _ U hs hsp hc hm=>exact .inr (.empty ad cap z hm)
theorem zab.zjP{P:Program}{f:FuncId}{pre post:List XV}{z:Nat}{r:RV}(h1:zab P f (pre++.one .nil::post) r)(h2:zab P f (pre++.one (.empty z)::post) r):zab P f (pre++.one (.list z [])::post) r:=by
 refine⟨h1.1,fun w S vs hS ha=>?_⟩
 obtain⟨u,hu,hr⟩:=ha.2 pre.length (.one (.list z [])) (by simp)
 have key:∀c:CV,zaH w S c u→zcB w S (pre++.one c::post) vs:=by
  intro c hc
  refine⟨by rw[ha.1];simp,fun j x hj=>?_⟩
  by_cases hj1:j=pre.length
  ·subst hj1
   simp at hj
   subst hj
   exact⟨u,hu,hc⟩
  ·refine ha.2 j x ?_
   rw[List.getElem?_append] at hj ⊢
   split at hj
   ·rename_i hlt;rw[if_pos hlt];exact hj
   ·rename_i hge
    rw[if_neg hge]
    obtain⟨m,hm⟩:∃m,j-pre.length=m+1:=⟨j-pre.length-1,by omega⟩
    rw[hm] at hj ⊢
    simpa using hj
 rcases zxm hr with h | h
 ·exact h1.2 w S vs hS (key _ h)
 ·exact h2.2 w S vs hS (key _ h)
end Go.Ab
namespace Go.Ab
open Go Go.RowKit Go.ChangeShapes Go.WideShapes Go.ChangeAt
variable [Amb]
def KT.zxR:KT→XV→Prop
 |.st ks,.agg cs=>KT.fits (.st ks) cs
 |.st _,_=>False
 |k,.one c=>k.fits [c]
 |_,_=>False
def KT.zyx(B:Nat):KT→XV→Prop
 |.st ks,.agg cs=>KT.zjE B (.st ks) cs
 |.st _,_=>False
 |k,.one c=>k.zjE B [c]
 |_,_=>False
def zoA(B:Nat):List KT→List XV→Prop
 |[],[]=>True
 |k::ks,x::xs=>k.zyx B x∧zoA B ks xs
 |_,_=>False
def zsR:List KT→List XV→Prop
 |[],[]=>True
 |k::ks,x::xs=>k.zxR x∧zsR ks xs
 |_,_=>False
def zsL(P:Program):List KT→List TypeId→Prop
 |[],[]=>True
 |k::ks,t::ts=>k.has P t∧zsL P ks ts
 |_,_=>False
section
variable {H:Type}{enc:TypeId×Value→H}{P:Program}{W:World}
theorem zIb{v u:Value}(h:v.cells.toList=[u])(hn:∀cs,v≠.agg cs):v=u:=by
 cases v<;>first | (exact absurd rfl (hn _)) | (simpa[Value.cells] using h)
theorem zAL(k:KT)(t:TypeId){v:Value}{d:DataW H}{p:List MemPlace}{base:Nat}{sp:Nat→Bool}{held:Bool}(hk:k.has P t)(hok:∃b,Value.okWide P W .any b t v)(h:DataW.Trod enc P W base sp held t v d p) :
  ∃x:XV,zbL W (fun b=>b<W.heap.size) x v∧k.zxR x∧∀B,(d.weights P t).all (·≤B)=true→k.zyx B x:=by
 obtain⟨fuel,hf⟩:=h
 obtain⟨b0,hok⟩:=hok
 obtain⟨cvs,hrep,hfit,hlen,hB⟩:=KT.read k t fuel _ _ hk hf
 unfold Value.okWide at hok
 have one:∀c,cvs=[c]→(∀cs,v≠.agg cs)→zbL W (fun b=>b<W.heap.size) (.one c) v:=by
  intro c hc hn
  subst hc
  obtain⟨h1,h2⟩:=hrep
  obtain⟨u,hu⟩:∃u,v.cells.toList=[u]:=List.length_eq_one_iff.1 h1
  obtain rfl:=zIb hu hn
  obtain⟨u',hu',hr⟩:=h2 0 c rfl
  rw[hu] at hu'
  simp at hu'
  rw[←hu'] at hr
  exact hr
 cases k with
 |b =>
  have ht:P.underlying t=some .bool:=hk
  obtain⟨x,rfl⟩:=hfit
  refine⟨.one (.bool x),one _ rfl (fun cs e=>?_),⟨x,rfl⟩,fun B h=>hB B h⟩
  subst e
  rw[ht] at hok
  simp[Cell.okWide,Cell.ok,ht] at hok
 |i q =>
  have ht:P.underlying t=some (.int q):=hk
  obtain⟨x,rfl,hw⟩:=hfit
  refine⟨.one (.int q x),one _ rfl (fun cs e=>?_),⟨x,rfl,hw⟩,fun B h=>hB B h⟩
  subst e
  rw[ht] at hok
  simp[Cell.okWide,Cell.ok,ht] at hok
 |s =>
  have ht:P.underlying t=some .string:=hk
  obtain⟨x,rfl,hw⟩:=hfit
  refine⟨.one (.str x),one _ rfl (fun cs e=>?_),⟨x,rfl,hw⟩,fun B h=>hB B h⟩
  subst e
  rw[ht] at hok
  simp[Cell.okWide,Cell.ok,ht] at hok
 |sl size e =>
  obtain⟨te,ht,_⟩:=hk
  obtain⟨x,rfl,hw⟩:=hfit
  refine⟨.one (.list size x),one _ rfl (fun cs e=>?_),⟨x,rfl,hw⟩,fun B h=>hB B h⟩
  subst e
  rw[ht] at hok
  simp[Cell.okWide,Cell.ok,ht] at hok
 |st ks =>
  obtain⟨fs,ht,_⟩:=hk
  rw[ht] at hok
  obtain⟨cs,rfl,_⟩:=hok
  exact⟨.agg cvs,⟨cs,rfl,hrep⟩,hfit,fun B h=>hB B h⟩
theorem zpM:∀(ks:List KT) (ts:List TypeId) (vs:List Value) (ds:List (DataW H)) (p:List MemPlace) {base:Nat} {sp:Nat→Bool} {held:Bool},zsL P ks ts →
  (∀(j:Nat) t v,ts[j]?=some t→vs[j]?=some v→∃b,Value.okWide P W .any b t v)→DataW.TrodAll enc P W base sp held ts vs ds p →
  ∃xs:List XV,zcB W (fun b=>b<W.heap.size) xs vs.toArray∧zsR ks xs∧∀B,(DataW.weightsEach P ts ds).all (·≤B)=true→zoA B ks xs
 |[],ts,vs,ds,p,_,_,_,hk,_,h=>by
  cases ts with
  |nil =>
   obtain⟨rfl,_,_⟩:=trodAll_nil h
   exact⟨[],⟨rfl,fun j x hj=>by simp at hj⟩,trivial,fun _ _=>trivial⟩
  |cons t ts=>exact hk.elim
 |k::ks,ts,vs,ds,p,_,_,_,hk,hok,h=>by
  cases ts with
  |nil=>exact hk.elim
  |cons t ts =>
   obtain⟨v,vs',d,ds',p',q',rfl,rfl,rfl,h0,hr⟩:=trodAll_cons h
   obtain⟨x,h1,h2,hB1⟩:=zAL k t hk.1 (hok 0 t v rfl rfl) h0
   obtain⟨xs,h3,h4,hB2⟩:=zpM ks ts vs' ds' q' hk.2 (fun j t v ht hv=>hok (j+1) t v (by simpa using ht) (by simpa using hv)) hr
   refine⟨x::xs,⟨by have:=h3.1;simp at this ⊢;exact this,fun j y hj=>?_⟩,⟨h2,h4⟩,fun B hB=>?_⟩
   rotate_left
   ·rw[DataW.weightsEach,List.all_append,Bool.and_eq_true] at hB
    exact⟨hB1 B hB.1,hB2 B hB.2⟩
   cases j with
   |zero=>simp at hj;subst hj;exact⟨v,by simp,h1⟩
   |succ j =>
    simp at hj
    obtain⟨u,hu,hr'⟩:=h3.2 j y hj
    exact⟨u,by simpa using hu,hr'⟩
theorem zqZ{W':World}(hl:laidOutB P=true):∀(ts:List TypeId) (vs:List Value) (ds:List (DataW H)) (p:List MemPlace) {base:Nat} {sp':Nat→Bool},(∀t∈ts,P.readableRec t=true∧t<P.types.size) →
  DataW.TrodAll enc P W base (fun _=>true) true ts vs ds p→(∀x∈p,W.sameAt W' x)→(∀x∈p,sp' x.block=true)→DataW.TrodAll enc P W' base sp' true ts vs ds p
 |[],vs,ds,p,_,_,_,h,_,_=>by
  obtain⟨rfl,rfl,rfl⟩:=trodAll_nil h
  exact trodAll_mk0
 |t::ts,vs,ds,p,_,_,ht,h,hs,hp=>by
  obtain⟨v,vs',d,ds',p',q',rfl,rfl,rfl,h0,hr⟩:=trodAll_cons h
  exact trodAll_cons_mk (WideElems.Trod_stays hl (ht t (by simp)).1 (ht t (by simp)).2 h0 (fun x hx=>hs x (by simp[hx])) (fun x hx=>hp x (by simp[hx])))
   (zqZ hl ts vs' ds' q' (fun t h=>ht t (by simp[h])) hr (fun x hx=>hs x (by simp[hx])) (fun x hx=>hp x (by simp[hx])))
end
theorem zpc{H:Type}{enc:TypeId×Value→H}{P:Program}{f:FuncId}{fn:Func}{s:ChangeSpec}{W:World}{args:Array Value}{ds gs:List (DataW H)}{before:List MemPlace}{tb:TypeId}{fresh handsOn again:Bool}
  (ks:List KT)(hks:zsL P ks fn.params.toList)(law:∀xs,zsR ks xs→zoA reachBytes ks xs→zab P f xs (.x (.one (.bool true))))
  (hl:laidOutB P=true)(hts:∀t∈fn.params.toList,P.readableRec t=true∧t<P.types.size)(hb:P.underlying tb=some .bool)(hres:fn.resultTypes=#[tb])(hvars:s.vars=[])
  (hsp:∀ds:List (DataW H),ds.length=ks.length→s.fn H ds={ results:=[.lit (.bool true)],args:=ds })
  (hval:∃base,∀(j:Nat) t v,fn.params[j]?=some t→args[j]?=some v→Value.okWide P W .any base t v)
  (hW:DataW.Whole enc P fn.params.toList s.vars false W args.toList ds gs before)(hamb:Amb.holds W)(hsz:∃(ds2 gs2:List (DataW H)) (before2:List MemPlace),DataW.Whole enc P fn.params.toList s.vars false W args.toList ds2 gs2 before2∧(DataW.weightsEach P fn.params.toList ds2).all (·≤reachBytes)=true) :
  Calls P f args W fun e W'=>∃v,e=.returned v∧s.post enc P fn false fresh handsOn again W args v W':=by
 have hW':=hW
 obtain⟨p,q,hA0,hV,rfl,hfz,hnd⟩:=hW
 have hA:DataW.TrodAll enc P W 0 (fun _=>true) true fn.params.toList args.toList ds p:=hA0
 rw[hvars] at hV
 obtain⟨rfl,rfl⟩:=trodVars_none hV
 obtain⟨base,hval⟩:=hval
 obtain⟨ds2,gs2,before2,hW2,hwt⟩:=hsz
 obtain⟨p2,q2,hA2,_⟩:=hW2
 have hA2':DataW.TrodAll enc P W 0 (fun _=>true) true fn.params.toList args.toList ds2 p2:=hA2
 obtain⟨xs,hrep,hfit,hfB⟩:=zpM ks _ _ _ _ hks (fun j t v ht hv=>⟨base,hval j t v (by simpa using ht) (by simpa using hv)⟩) hA2'
 have hlen:ds.length=ks.length:=by
  have l1:∀(ts:List TypeId) (vs:List Value) (ds:List (DataW H)) (p:List MemPlace),DataW.TrodAll enc P W 0 (fun _=>true) true ts vs ds p→ds.length=ts.length:=by
   intro ts
   induction ts with
   |nil=>intro vs ds p h;obtain⟨_,rfl,_⟩:=trodAll_nil h;rfl
   |cons t ts ih =>
    intro vs ds p h
    obtain⟨v,vs',d,ds',p',q',_,rfl,_,_,hr⟩:=trodAll_cons h
    simp[ih _ _ _ hr]
  have l2:∀(ks:List KT) (ts:List TypeId),zsL P ks ts→ks.length=ts.length:=by
   intro ks
   induction ks with
   |nil=>intro ts h;cases ts with | nil=>rfl | cons t ts=>exact h.elim
   |cons k ks ih=>intro ts h;cases ts with | nil=>exact h.elim | cons t ts=>simp[ih ts h.2]
  rw[l1 _ _ _ _ hA,l2 _ _ hks]
 have hc:=(law xs hfit (hfB _ hwt)).2 W (fun b=>b<W.heap.size) args ⟨fun b hb=>hb,fun _ h=>h.elim,fun _ _ h=>h.elim,hamb,fun _ _ h=>h.elim⟩ (by simpa using hrep)
 clear hA0
 refine hc.mono fun e W' ⟨u,he,hg,hr,_⟩=>?_
 subst he
 obtain rfl:u=.bool true:=by cases hr;rfl
 have hlt:∀x∈p,x.block<W.heap.size:=fun x hx=>by simpa using hW'.lt x (by simpa using hx)
 have hfn:s.fn H (ds++[])={ results:=[.lit (.bool true)],args:=ds }:=by rw[List.append_nil];exact hsp ds hlen
 refine⟨_,rfl,zxQ (pa:=p) (pv:=[]) hW' hg ?_ ?_ ?_ (by simp) ?_⟩
 ·intro _ _ _
  rw[hres,hfn]
  exact trodAll_cons_mk (shut_bool hb _) trodAll_mk0
 ·intro sp hsp
  rw[hfn]
  exact zqZ hl _ _ _ _ hts hA (fun x hx=>hg.same (hlt x hx)) (fun x hx=>hsp x (by simpa using hx))
 ·intro _ _
  rw[hfn,hvars]
  rfl
 ·exact ok_one hres rfl (okWide_bool_mk hb _)
end Go.Ab
namespace Go.Ab
open Go Go.RowKit
def Tabs(P:Program)(l:List (String×(Array Value→Prop)))(w:World):Prop:=∀x∈l,∃cs,w.var? P x.1=some cs∧x.2 cs
theorem zPs{P:Program}{w:World}{n:String}{cs:Array Value}{b:Nat}(h:w.var? P n=some cs)(hg:P.globalNamed n=some b):b<w.heap.size:=by
 unfold World.var? at h
 rw[hg] at h
 simp only[Option.bind_some] at h
 rcases Nat.lt_or_ge b w.heap.size with h' | h'
 ·exact h'
 ·rw[Array.getElem?_eq_none h'] at h;simp at h
theorem zzW{P:Program}{w w':World}{n:String}{cs:Array Value}(h:w.var? P n=some cs)(hk:∀b,P.globalNamed n=some b→w'.heap[b]?=w.heap[b]?):w'.var? P n=some cs:=by
 unfold World.var? at h ⊢
 cases hg:P.globalNamed n with
 |none=>rw[hg] at h;cases h
 |some b =>
  rw[hg] at h
  simp only[Option.bind_some] at h ⊢
  rw[hk b hg]
  exact h
@[reducible]def Amb.tabs(P:Program)(l:List (String×(Array Value→Prop))):Amb where
 holds:=Tabs P l
 at_:=fun b=>∃x∈l,P.globalNamed x.1=some b
 lt:=fun h ⟨x,hx,hg⟩=>let ⟨_,hc,_⟩:=h x hx;zPs hc hg
 keep:=fun h _ hk x hx=>let ⟨cs,hc,hp⟩:=h x hx;⟨cs,zzW hc (fun b hb=>hk b ⟨x,hx,hb⟩),hp⟩
theorem zp9{P:Program}{W:World}{x:String×DataW Unit}{rest:List (String×DataW Unit)}(h:laidMet P (x::rest) W):laidMet P rest W:=by
 obtain⟨ps,⟨g,t,cs,fuel,p,q,h1,h2,h3,h4,h5,rfl⟩,hn,hb⟩:=h
 refine⟨q,h5,(List.nodup_append.1 hn).2.1,fun b off hm=>hb b off (List.mem_append_right _ hm)⟩
theorem zsA{P:Program}{W:World}{name:String}{k:IntKind}{zs:List Int}{g:Nat}{t e:TypeId}{n:Nat}
  (hg:P.globalNamed name=some g)(hty:(P.globals[g]?).map (·.type)=some t)(ht:P.underlying t=some (.array n e))(he:P.underlying e=some (.int k))(hce:P.cellsOf e=1)(hct:P.cellsOf t=n) :
  ∀(j:Nat) {l:List (String×DataW Unit)},laidMet P l W→l[j]?=some (name,Lib.tabData k zs)→Lib.TabIs P W name k zs
 |0,[],_,hj=>by simp at hj
 |0,x::r,h,hj=>by
  simp at hj
  subst hj
  exact Lib.tabIs_of_head hg hty ht he hce hct h
 |j+1,[],_,hj=>by simp at hj
 |j+1,x::r,h,hj=>zsA hg hty ht he hce hct j (zp9 h) (by simpa using hj)
def zjW:Array Value:=(Lib.pow10Tab.map fun z=>Value.int .u64 z).toArray
@[reducible] def zWg (P : Program) : Amb := Amb.tabs P [("internal/strconv.uint64pow10", (· = zjW))]
class zal[Amb](P:Program):Prop where
 tab : ∀ w, Amb.holds w → Lib.TabIs P w "internal/strconv.uint64pow10" .u64 Lib.pow10Tab
def ztE(cs:Array Value):Prop:=∃te pe,cs[0]?=some (.iface te pe)
@[reducible] def zWh (P : Program) : Amb := Amb.tabs P [("internal/strconv.uint64pow10", (· = zjW)), ("strconv.ErrSyntax", ztE)]
class zDr[Amb](P:Program):Prop where
 err : ∀ w, Amb.holds w → ∃ cs, w.var? P "strconv.ErrSyntax" = some cs ∧ ztE cs
end Go.Ab
namespace Go.Ab
open Go Go.RowKit
variable [Amb]
section
variable {P:Program}{n:Nat}{s:St}
def zVO{α:Type}(P:Program)(rs:List ResultVar)(post:α→Prop)(r:α→RV)(outs:α→List AV)(e:Exit)(s:St):Prop:=
 (e=.normal∨e=.ret)∧∃x,post x∧zfZ P s rs (outs x) (r x)∧zcj (zd8 s rs (r x)) 0 (outs x)
@[congr]theorem zMs{α:Type}{P:Program}{rs:List ResultVar}{post:α→Prop}{r:α→RV}{outs:α→List AV}{e:Exit}{s s':St}(h:s=s'):zVO P rs post r outs e s=zVO P rs post r outs e s':=by rw[h]
end
end Go.Ab
