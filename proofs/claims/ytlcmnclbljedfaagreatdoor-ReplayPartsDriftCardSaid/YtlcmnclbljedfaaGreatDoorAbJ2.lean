/- A part of the proof: lemmas and contracts of functions. -/
import Derived.Test.YtlcmnclbljedfaaGreatDoorAbJ1
import Derived.Maps.AppendAt
import Derived.Laws.MakeOwn
import Derived.Lib.AppendZeros
set_option linter.all false
namespace Go.Ab
open Go Go.RowKit
variable [Amb]
section
variable {P:Program}{S0:Env}{w0 w:World}{n:Nat}{s:St}{a:Act}
theorem zmM(hR:Rel S0 w0 n s a w){o:Option Operand}{other b:Int}{q:Prop}(h:zaw s o other=(q,some b))(hq:q) :
  (o=none∧b=other)∨∃x k,o=some x∧a.eval x=.int k b:=by
 cases o with
 |none=>simp only[zaw,Prod.mk.injEq,Option.some.injEq] at h;exact .inl ⟨rfl,h.2.symm⟩
 |some x =>
  have hsv:=hR.sv x
  simp only[zaw] at h
  split at h
  ·rename_i p k m e
   simp only[Prod.mk.injEq,Option.some.injEq] at h
   obtain⟨h1,h2⟩:=h
   subst h1;subst h2
   rw[e] at hsv
   exact .inr ⟨x,k,rfl,zbg (hsv hq)⟩
  ·simp at h
theorem zaR(k:IntKind)(i:Int)(y:Nat)(code:BoundsCode)(h0:0≤i)(h1:i≤y) :
  (Instr.sliceBound (.int k i) y code).run P w=.ok i.toNat w:=run_sliceBound (P:=P) (w:=w) k i y code h0 h1
theorem zrT(l:List UInt8)(x y:Int) :
  (⟨l.toArray⟩:ByteArray).extract x.toNat y.toNat=⟨(cutAt l x y).toArray⟩:=by
 apply ByteArray.ext
 apply Array.ext'
 simp only[cutAt]
 rw[ByteArray.data_extract,Array.toList_extract,List.extract_eq_take_drop]
 simp only[List.drop_take]
theorem zaH.cut{S:Nat→Prop}{z:Nat}{xs:List (List CV)}{b:Option Addr}{c:Nat}(h:zaH w S (.list z xs) (.slice b xs.length c))(lo hi m:Nat)(h1:lo≤hi)(h2:hi≤m)(h3:m≤c)(h4:hi≤xs.length) :
  zaH w S (.list z ((xs.take hi).drop lo)) (.slice (if m=lo then b else b.map (·.add (lo*z))) (hi-lo) (m-lo)):=by
 generalize hv:Value.slice b xs.length c=v at h
 cases h with
 |list0 b' c' _ hm hn =>
  simp only[Value.slice.injEq] at hv
  obtain⟨rfl,_,rfl⟩:=hv
  have h4':hi=0:=by simpa using h4
  subst h4'
  have h1':lo=0:=by omega
  subst h1'
  simp only[List.take_nil,List.drop_nil,Nat.sub_self]
  exact .list0 _ _ _ (by omega) (fun hb=>by
   have hc:c=0:=by
    cases b with
    |none=>exact hn rfl
    |some b=>split at hb<;>simp at hb
   omega)
 |list ad cap _ _ U hs hsp hc hm hxl hU hrep =>
  simp only[Value.slice.injEq] at hv
  obtain⟨rfl,_,rfl⟩:=hv
  have hlen:((xs.take hi).drop lo).length=hi-lo:=by rw[List.length_drop,List.length_take];omega
  by_cases he:hi=lo
  ·have hnil:(xs.take hi).drop lo=[]:=List.eq_nil_of_length_eq_zero (by omega)
   rw[hnil]
   have:hi-lo=0:=by omega
   rw[this]
   exact .list0 _ _ _ (by omega) (fun hb=>by split at hb<;>simp at hb)
  ·rw[if_neg (by omega)]
   rw[←hlen]
   have hat:∀(j:Nat) (c:CV),((xs.take hi).drop lo).flatten[j]?=some c→xs.flatten[lo*z+j]?=some c:=by
    intro j c hj
    rw[zdF (fun x hx=>hxl x (List.mem_of_mem_take hx)),zcN hxl,List.getElem?_drop,List.getElem?_take] at hj
    split at hj
    ·exact hj
    ·cases hj
   refine .list (ad.add (lo*z)) _ _ _ (fun j=>U (lo*z+j)) (by rw[block_add];exact hs) (by unfold Addr.add;split<;>simp[hsp]) (by omega) (by omega) (fun x hx=>hxl x (List.mem_of_mem_take (List.mem_of_mem_drop hx))) ?_ ?_
   ·intro j c hj
    rw[addr_add_add]
    exact hU _ _ (hat j c hj)
   ·intro j c hj
    exact hrep _ _ (hat j c hj)
theorem zbw(hR:Rel S0 w0 n s a w)(isSlice:Bool)(len cap:Nat){lo hi mx:Option Operand}{x y z:Int}{q r u:Prop}(hlc:len≤cap)
  (hlo:zaw s lo 0=(q,some x))(hhi:zaw s hi len=(r,some y))(hmx:(mx=none∧u)∨(∃e,mx=some e∧zaw s mx len=(u,some z)))(hq:q)(hr:r)(hu:u)
  (h0:0≤x)(h1:x≤y)(h2:y≤len)(hz:mx≠none→y≤z∧z≤len)(hn:hi=none→mx=none) :
  (Instr.sliceBounds isSlice len cap (lo.map a.eval) (hi.map a.eval) (mx.map a.eval)).run P w=.ok (x.toNat,y.toNat,if mx=none then cap else z.toNat) w:=by
 have hl:=zmM hR hlo hq
 have hh:=zmM hR hhi hr
 rcases hmx with⟨rfl,_⟩ | ⟨e,rfl,hm⟩
 ·simp only[Option.map_none,if_true]
  rcases hl with⟨rfl,rfl⟩ | ⟨xl,kl,rfl,hel⟩<;>rcases hh with⟨rfl,hyy⟩ | ⟨xh,kh,rfl,heh⟩
  ·simp[Instr.sliceBounds,hyy]
  ·simp[Instr.sliceBounds,heh,zaR (P:=P) (w:=w) kh y cap _ (by omega) (by omega)]
  ·simp[Instr.sliceBounds,hel,hyy,zaR (P:=P) (w:=w) kl x len _ (by omega) (by omega)]
  ·simp[Instr.sliceBounds,hel,heh,zaR (P:=P) (w:=w) kh y cap _ (by omega) (by omega),zaR (P:=P) (w:=w) kl x y.toNat _ (by omega) (by omega)]
 ·obtain⟨hz1,hz2⟩:=hz (by simp)
  have hm':=zmM hR hm hu
  rcases hm' with⟨h,_⟩ | ⟨xm,km,he,hem⟩
  ·cases h
  injection he with he
  subst he
  rcases hh with⟨rfl,hyy⟩ | ⟨xh,kh,rfl,heh⟩
  ·have:=hn rfl;cases this
  rcases hl with⟨rfl,rfl⟩ | ⟨xl,kl,rfl,hel⟩
  ·simp[Instr.sliceBounds,heh,hem,zaR (P:=P) (w:=w) km z cap _ (by omega) (by omega),zaR (P:=P) (w:=w) kh y z.toNat _ (by omega) (by omega)]
  ·simp[Instr.sliceBounds,heh,hem,hel,zaR (P:=P) (w:=w) km z cap _ (by omega) (by omega),zaR (P:=P) (w:=w) kh y z.toNat _ (by omega) (by omega),zaR (P:=P) (w:=w) kl x y.toNat _ (by omega) (by omega)]
theorem zpT{t:TypeId}{x:Prop×AV}{lo hi mx:Option Operand}(hp:(zcc P s t x lo hi mx).1) :
  (∃l,x.2=.x (.one (.str l)))∨(∃z xs,x.2=.x (.one (.list z xs)))∨x.2=.x (.one .nil)∨(∃i e z xs,x.2=.alias i∧s i=.own e z xs)∨∃i lo len wh,x.2=.view i lo len wh:=by
 unfold zcc at hp
 split at hp
 ·exact .inl ⟨_,rfl⟩
 ·exact .inr (.inl ⟨_,_,rfl⟩)
 ·exact .inr (.inr (.inl rfl))
 ·split at hp
  ·rename_i h;exact .inr (.inr (.inr (.inl ⟨_,_,_,_,rfl,h⟩)))
  ·exact hp.elim
 ·exact .inr (.inr (.inr (.inr ⟨_,_,_,_,rfl⟩)))
 ·exact hp.elim
theorem ztw{s:St}{tm:Nat→Value}{i:Nat}{v:Value}{b:Option Addr}{len c lo0:Nat}{wh:Bool}(hv:v=.slice b len c)(hown:(s i).zaa=true)(hle:lo0+len≤(s i).len)(hcm:c≤maxLen)
  (hb:b=none→c=0)(hk:∀ad,b=some ad→∃g off,ad=⟨g,off,none⟩∧zaf (s i) (tm i)=some g∧(0<len→off=lo0*(s i).size)∧(wh=true→lo0=0∧∃l,(s i).valOf (tm i)=.slice (some ad) l c)){S:Nat→Prop}{B:Nat→Prop}{w:World}
  (lo hi m z:Nat)(hz:z=(s i).size)(h1:lo≤hi)(h2:hi≤m)(h3:m≤c)(h4:hi≤len){wh':Bool}(hwh:wh'=true→wh=true∧lo=0∧m=c) :
  zaQ w S B s tm (.view i (lo0+lo) (hi-lo) wh') (.slice (if m=lo then b else b.map (·.add (lo*z))) (hi-lo) (m-lo)):=by
 refine⟨hown,by omega,?_⟩
 cases b with
 |none =>
  have hc0:=hb rfl
  refine .inl ⟨?_,by omega⟩
  have e1:hi-lo=0:=by omega
  have e2:m-lo=0:=by omega
  simp[e1,e2]
 |some ad =>
  obtain⟨g,off,rfl,hg,ho,hw⟩:=hk ad rfl
  by_cases hml:m=lo
  ·refine .inr ⟨g,off,m-lo,by rw[if_pos hml],by omega,by omega,hg,fun h=>by omega,fun h=>?_⟩
   obtain⟨h5,h6,h7⟩:=hwh h
   obtain⟨h8,l,h9⟩:=hw h5
   exact⟨by omega,l,by rw[h9,h7,h6];rfl⟩
  ·refine .inr ⟨g,off+lo*z,m-lo,by rw[if_neg hml];simp[zaJ],by omega,by omega,hg,fun h=>by rw[ho (by omega),hz,Nat.add_mul],fun h=>?_⟩
   obtain⟨h5,h6,h7⟩:=hwh h
   obtain⟨h8,l,h9⟩:=hw h5
   refine⟨by omega,l,by rw[h9,h7,h6];simp⟩
theorem zw5{t:TypeId}{x:Prop×AV}{v:Value}{lo hi mx:Option Operand}(hR:Rel S0 w0 n s a w)(hx:Knows S0 w0 s a w x v)(hp:(zcc P s t x lo hi mx).1) :
  Yields P S0 w0 s a w (Instr.sliceAt t v (lo.map a.eval) (hi.map a.eval) (mx.map a.eval)) (zcc P s t x lo hi mx).2:=by
 have hsh:=zpT hp
 obtain⟨p,x⟩:=x
 dsimp only at hsh
 rcases hsh with⟨l,rfl⟩ | ⟨z,xs,rfl⟩ | rfl | ⟨i,e,z,xs,rfl,hs⟩ | ⟨i,lo0,len,wh,rfl⟩
 ·simp only[zcc] at hp ⊢
  split at hp
  ·rename_i q lo' r hi' e1 e2
   obtain⟨h1,h2,h3,h4,h5,h6,h7⟩:=hp
   obtain⟨rfl,hl⟩:=zb4 (hx h1)
   have hu:=zbh h4
   have hb:=zbw (P:=P) hR false l.length l.length (mx:=none) (u:=True) (z:=0) (Nat.le_refl _) e1 e2 (.inl ⟨rfl,trivial⟩) h2 h3 trivial h5 h6 h7 (by simp) (by simp)
   simp only[Option.map_none,if_true] at hb
   refine⟨.string ⟨(cutAt l lo' hi').toArray⟩,?_,zaH.str _ ?_,rfl⟩
   ·simp[Instr.sliceAt,Instr.slice,run_underlying hu,zi8,hb,zrT l lo' hi']
   ·simp only[cutAt,List.length_drop,List.length_take];omega
  ·exact hp.elim
 ·simp only[zcc] at hp ⊢
  split at hp
  ·rename_i e size q lo' r hi' u mx' hT e1 e2 e3
   obtain⟨h1,h2,h3,h4,rfl,h6,h7,h8,h9,h10⟩:=hp
   have hr:=hx h1
   obtain⟨i,hu,hinf,hsz,_⟩:=zbH hT
   have hform:∃b c,v=.slice b xs.length c∧xs.length≤c:=by
    cases hr with
    |list0 b c _ _ _=>exact⟨b,c,rfl,Nat.zero_le _⟩
    |list ad cap _ _ _ _ _ hc=>exact⟨_,cap,rfl,hc⟩
   obtain⟨b,c,rfl,hc⟩:=hform
   by_cases hmn:mx=none
   ·subst hmn
    have hb:=zbw (P:=P) hR true xs.length c (mx:=none) (u:=True) (z:=0) hc e1 e2 (.inl ⟨rfl,trivial⟩) h2 h3 trivial h6 h7 (by omega) (by simp) (by simp)
    simp only[Option.map_none,if_true] at hb
    refine⟨_,?_,hr.cut lo'.toNat hi'.toNat c (by omega) (by omega) (Nat.le_refl _) (by omega),rfl⟩
    simp[Instr.sliceAt,Instr.slice,run_underlying hu,hb,run_sizeOf hinf,hsz]
   ·obtain⟨em,rfl⟩:∃em,mx=some em:=Option.ne_none_iff_exists'.1 hmn
    have hb:=zbw (P:=P) hR true xs.length c (mx:=some em) (u:=u) (z:=mx') hc e1 e2 (.inr ⟨em,rfl,e3⟩) h2 h3 h4 h6 h7 (by omega) (fun _=>⟨h8,h9⟩) h10
    rw[if_neg hmn] at hb
    simp only[Option.map_some] at hb
    refine⟨_,?_,hr.cut lo'.toNat hi'.toNat mx'.toNat (by omega) (by omega) (by omega) (by omega),rfl⟩
    simp[Instr.sliceAt,Instr.slice,run_underlying hu,hb,run_sizeOf hinf,hsz]
  ·exact hp.elim
 ·simp only[zcc] at hp ⊢
  split at hp
  ·rename_i q lo' r hi' hT e1 e2
   obtain⟨h1,h2,h3,rfl,rfl⟩:=hp
   obtain rfl:=zdW (hx h1)
   obtain⟨i,hu,hinf,hsz,_⟩:=zbH hT
   have hb:=zbw (P:=P) hR true 0 0 (mx:=none) (u:=True) (z:=0) (Nat.le_refl _) e1 e2 (.inl ⟨rfl,trivial⟩) h2 h3 trivial (by omega) (by omega) (by omega) (by simp) (by simp)
   simp only[Option.map_none,if_true] at hb
   refine⟨_,?_,zaH.nil,rfl⟩
   simp[Instr.sliceAt,Instr.slice,run_underlying hu,hb,run_sizeOf hinf,hsz]
  ·exact hp.elim
 ·simp only[zcc,hs] at hp ⊢
  split at hp
  ·rename_i e' size q lo' r hi' u mx' hT e1 e2 e3
   obtain⟨h1,h2,h3,h4,rfl,h6,h7,h8,h9,h10⟩:=hp
   obtain⟨rfl,hown'⟩:=zaQ.zdO (hx h1) hs
   obtain⟨j,hu,hinf,hsz,_⟩:=zbH hT
   have hi:=hR.rep i
   rw[hs] at hi
   obtain⟨us,hown,_,_,hm,_⟩:=hi
   have hform:∃b c,zai a i=.slice b xs.length c∧xs.length≤c∧c≤maxLen∧(b=none→c=0)∧∀ad,b=some ad→∃g,ad=⟨g,0,none⟩∧zaf (s i) (zai a i)=some g:=by
    rcases hown.2 with⟨h,h0⟩ | ⟨g,cap,cur,hv,_,_,hc,hcm,_⟩
    ·exact⟨none,0,by rw[h,h0],by omega,by simp,fun _=>rfl,fun ad h=>(by cases h)⟩
    ·exact⟨_,cap,hv,hc,hcm,fun h=>(by cases h),fun ad h=>by injection h with h;subst h;exact⟨g,rfl,by rw[hs];show Value.ownBlock _=_;rw[hv];rfl⟩⟩
   obtain⟨b,c,hv,hlc,hcm,hbn,hbs⟩:=hform
   have hcut:=fun (m:Nat) (wh':Bool) h2 h3 (hwh:wh'=true→lo'.toNat=0∧m=c)=>ztw (s:=s) (tm:=zai a) (i:=i) (lo0:=0) (wh:=true) (S:=Shared S0 w0.heap.size w s (zai a)) (B:=OwnB S0 w0.heap.size) (w:=w) hv hown' (by rw[hs];simp[AV.len]) hcm hbn
    (fun ad had=>by obtain⟨g,h1,h2⟩:=hbs ad had;exact⟨g,0,h1,h2,fun _=>by simp,fun _=>⟨rfl,_,by rw[hs];exact(by rw[hv,had]:zai a i=_)⟩⟩) lo'.toNat hi'.toNat m z (by rw[hs];rfl) (by omega) h2 h3 (by omega) (wh':=wh') (fun h=>⟨rfl,hwh h⟩)
   have hval:a.eval (.tmp i)=zai a i:=rfl
   by_cases hmn:mx=none
   ·subst hmn
    have hb:=zbw (P:=P) hR true xs.length c (mx:=none) (u:=True) (z:=0) hlc e1 e2 (.inl ⟨rfl,trivial⟩) h2 h3 trivial h6 h7 (by omega) (by simp) (by simp)
    simp only[Option.map_none,if_true] at hb
    have:=hcut c (lo.isNone&&(none:Option Operand).isNone) (by omega) (Nat.le_refl _) (fun h=>⟨by
     have hl:lo=none:=by simpa using h
     subst hl
     simp[zaw] at e1
     rw[←e1.2];rfl,rfl⟩)
    rw[Nat.zero_add] at this
    refine⟨_,?_,this,rfl⟩
    rw[hv]
    simp[Instr.sliceAt,Instr.slice,run_underlying hu,hb,run_sizeOf hinf,hsz]
   ·obtain⟨em,rfl⟩:∃em,mx=some em:=Option.ne_none_iff_exists'.1 hmn
    have hb:=zbw (P:=P) hR true xs.length c (mx:=some em) (u:=u) (z:=mx') hlc e1 e2 (.inr ⟨em,rfl,e3⟩) h2 h3 h4 h6 h7 (by omega) (fun _=>⟨h8,h9⟩) h10
    rw[if_neg hmn] at hb
    simp only[Option.map_some] at hb
    have:=hcut mx'.toNat (lo.isNone&&(some em).isNone) (by omega) (by omega) (fun h=>by simp at h)
    rw[Nat.zero_add] at this
    refine⟨_,?_,this,rfl⟩
    rw[hv]
    simp[Instr.sliceAt,Instr.slice,run_underlying hu,hb,run_sizeOf hinf,hsz]
  ·exact hp.elim
 ·simp only[zcc] at hp ⊢
  split at hp
  ·rename_i e' size q lo' r hi' u mx' hT e1 e2 e3
   obtain⟨h1,h2,h3,h4,h5,h6,h7,h8,h9,h10⟩:=hp
   obtain⟨hown',hle,hvv⟩:=hx h1
   obtain⟨j,hu,hinf,hsz,_⟩:=zbH hT
   have hform:∃b c,v=.slice b len c∧len≤c∧c≤maxLen∧(b=none→c=0)∧∀ad,b=some ad→∃g off,ad=⟨g,off,none⟩∧zaf (s i) (zai a i)=some g∧(0<len→off=lo0*(s i).size)∧(wh=true→lo0=0∧∃l,(s i).valOf (zai a i)=.slice (some ad) l c):=by
    rcases hvv with⟨h,h0⟩ | ⟨g,off,cap,hv,hc,hcm,hk,hz,hw⟩
    ·exact⟨none,0,by rw[h,h0],by omega,by simp,fun _=>rfl,fun ad h=>(by cases h)⟩
    ·exact⟨_,cap,hv,hc,hcm,fun h=>(by cases h),fun ad h=>by injection h with h;subst h;exact⟨g,off,rfl,hk,hz,hw⟩⟩
   obtain⟨b,c,hv,hlc,hcm,hbn,hbs⟩:=hform
   have hcut:=fun (m:Nat) (wh':Bool) h2 h3 (hwh:wh'=true→wh=true∧lo'.toNat=0∧m=c)=>ztw (s:=s) (tm:=zai a) (i:=i) (lo0:=lo0) (wh:=wh) (S:=Shared S0 w0.heap.size w s (zai a)) (B:=OwnB S0 w0.heap.size) (w:=w) hv hown' hle hcm hbn
    hbs lo'.toNat hi'.toNat m size h5.symm (by omega) h2 h3 (by omega) (wh':=wh') hwh
   by_cases hmn:mx=none
   ·subst hmn
    have hb:=zbw (P:=P) hR true len c (mx:=none) (u:=True) (z:=0) hlc e1 e2 (.inl ⟨rfl,trivial⟩) h2 h3 trivial h6 h7 (by omega) (by simp) (by simp)
    simp only[Option.map_none,if_true] at hb
    have:=hcut c (wh&&(lo.isNone&&(none:Option Operand).isNone)) (by omega) (Nat.le_refl _) (fun h=>by
     rw[Bool.and_eq_true] at h
     have hl:lo=none:=by simpa using h.2
     subst hl
     simp[zaw] at e1
     exact⟨h.1,by rw[←e1.2];rfl,rfl⟩)
    refine⟨_,?_,this,rfl⟩
    rw[hv]
    simp[Instr.sliceAt,Instr.slice,run_underlying hu,hb,run_sizeOf hinf,hsz]
   ·obtain⟨em,rfl⟩:∃em,mx=some em:=Option.ne_none_iff_exists'.1 hmn
    have hb:=zbw (P:=P) hR true len c (mx:=some em) (u:=u) (z:=mx') hlc e1 e2 (.inr ⟨em,rfl,e3⟩) h2 h3 h4 h6 h7 (by omega) (fun _=>⟨h8,h9⟩) h10
    rw[if_neg hmn] at hb
    simp only[Option.map_some] at hb
    have:=hcut mx'.toNat (wh&&(lo.isNone&&(some em).isNone)) (by omega) (by omega) (fun h=>by simp at h)
    refine⟨_,?_,this,rfl⟩
    rw[hv]
    simp[Instr.sliceAt,Instr.slice,run_underlying hu,hb,run_sizeOf hinf,hsz]
  ·exact hp.elim
theorem map_mk{α β:Type}(f:α→β)(l:List α):Array.map f ⟨l⟩=⟨l.map f⟩:=by
 apply Array.ext';simp
theorem zhl{m:Sem Value}{v:Value}(h:m.run P w=.ok v w):((do pure (.value (←m)):Sem Next)).run P w=.ok (.value v) w:=by
 simp[h]
theorem zpD(hR:Rel S0 w0 n s a w):∀(l:List Operand) {p:Prop} {cs:List CV},zf3 (l.map (Ab.sv s))=(p,some cs)→p →
  l.length=cs.length∧∀(j:Nat) (c:CV),cs[j]?=some c→zaH w (Shared S0 w0.heap.size w s (zai a)) c (a.eval ((l[j]?).getD (.tmp 0)))
 |[],p,cs,h,_=>by
  simp only[List.map_nil,zf3,Prod.mk.injEq,Option.some.injEq] at h
  obtain⟨_,rfl⟩:=h
  exact⟨rfl,fun j c hj=>by simp at hj⟩
 |x::l,p,cs,h,hp=>by
  simp only[List.map_cons] at h
  have hsv:=hR.sv x
  generalize Ab.sv s x=q at h hsv
  obtain⟨q,v⟩:=q
  unfold zf3 at h
  split at h
  ·rename_i e;cases e
  ·rename_i q' c r e
   injection e with e1 e2
   injection e1 with e1 e3
   subst e1;subst e3;subst e2
   split at h
   ·rename_i q2 cs' e
    simp only[Prod.mk.injEq,Option.some.injEq] at h
    obtain⟨rfl,rfl⟩:=h
    obtain⟨h1,h2⟩:=zpD hR l e hp.2
    refine⟨by simp[h1],fun j c' hj=>?_⟩
    cases j with
    |zero=>simp at hj;subst hj;exact hsv hp.1
    |succ j=>simp at hj;simpa using h2 j c' hj
   ·simp at h
  ·simp at h
theorem zkZ(hR:Rel S0 w0 n s a w):∀(l:List Operand) {p:Prop} {cs:List (CV ⊕ (Nat×Nat))},ze1 (l.map (Ab.sv s))=(p,some cs)→p →
  l.length=cs.length∧∀(j:Nat) (c:CV ⊕ (Nat×Nat)),cs[j]?=some c→ziY w (Shared S0 w0.heap.size w s (zai a)) s (zai a) c (a.eval ((l[j]?).getD (.tmp 0)))
 |[],p,cs,h,_=>by
  simp only[List.map_nil,ze1,Prod.mk.injEq,Option.some.injEq] at h
  obtain⟨_,rfl⟩:=h
  exact⟨rfl,fun j c hj=>by simp at hj⟩
 |x::l,p,cs,h,hp=>by
  simp only[List.map_cons] at h
  have hsv:=hR.sv x
  generalize Ab.sv s x=q at h hsv
  obtain⟨q,v⟩:=q
  unfold ze1 at h
  split at h
  ·rename_i e;cases e
  ·rename_i q' c r e
   injection e with e1 e2
   injection e1 with e1 e3
   subst e1;subst e3;subst e2
   split at h
   ·rename_i q2 cs' e
    simp only[Prod.mk.injEq,Option.some.injEq] at h
    obtain⟨rfl,rfl⟩:=h
    obtain⟨h1,h2⟩:=zkZ hR l e hp.2
    refine⟨by simp[h1],fun j c' hj=>?_⟩
    cases j with
    |zero=>simp at hj;subst hj;exact hsv hp.1
    |succ j=>simp at hj;simpa using h2 j c' hj
   ·simp at h
  ·rename_i q' i off r e
   injection e with e1 e2
   injection e1 with e1 e3
   subst e1;subst e3;subst e2
   split at h
   ·rename_i q2 cs' e
    simp only[Prod.mk.injEq,Option.some.injEq] at h
    obtain⟨rfl,rfl⟩:=h
    obtain⟨h1,h2⟩:=zkZ hR l e hp.2.2
    refine⟨by simp[h1],fun j c' hj=>?_⟩
    cases j with
    |zero=>simp at hj;subst hj;rw[zbF,if_pos hp.2.1];exact hsv hp.1
    |succ j=>simp at hj;simpa using h2 j c' hj
   ·simp at h
  ·rename_i q' i off r e
   injection e with e1 e2
   injection e1 with e1 e3
   subst e1;subst e3;subst e2
   split at h
   ·rename_i q2 cs' e
    simp only[Prod.mk.injEq,Option.some.injEq] at h
    obtain⟨rfl,rfl⟩:=h
    obtain⟨h1,h2⟩:=zkZ hR l e hp.2
    refine⟨by simp[h1],fun j c' hj=>?_⟩
    cases j with
    |zero =>
     simp at hj;subst hj
     rw[zbF,if_neg (by simp),Nat.add_sub_cancel]
     exact hsv hp.1
    |succ j=>simp at hj;simpa using h2 j c' hj
   ·simp at h
  ·simp at h
theorem zpH{fn:Fn}{first captured:Array Operand}(hR:Rel S0 w0 n s a w)(hp:(zdc s fn first.toList captured.toList).1) :
  Yields P S0 w0 s a w (Instr.makeFunc fn (first.map a.eval) (captured.map a.eval)) (zdc s fn first.toList captured.toList).2:=by
 unfold zdc at hp ⊢
 split at hp
 ·rename_i f hf
  split at hp
  ·rename_i p cs e
   obtain⟨h1,h2⟩:=zpD hR captured.toList e hp
   have hfirst:first=#[]:=by cases first;simp_all
   subst hfirst
   refine⟨.func (.func f) #[] (captured.map a.eval),by simp[Instr.makeFunc],?_,rfl⟩
   have he:captured.map a.eval=((List.range cs.length).map fun j=>a.eval ((captured.toList[j]?).getD (.tmp 0))).toArray:=by
    apply Array.ext'
    rw[←h1]
    apply List.ext_getElem?
    intro j
    simp only[Array.toList_map,List.getElem?_map]
    by_cases hj:j<captured.toList.length
    ·have hj':j<captured.size:=by simpa using hj
     rw[List.getElem?_range hj,List.getElem?_eq_getElem hj];simp[hj']
    ·rw[List.getElem?_eq_none (by omega),List.getElem?_eq_none (by simp at hj ⊢;omega)];rfl
   rw[he]
   exact zaH.clo f cs _ h2
  ·split at hp
   ·rename_i p cs e
    obtain⟨h1,h2⟩:=zkZ hR captured.toList e hp
    have hfirst:first=#[]:=by cases first;simp_all
    subst hfirst
    refine⟨.func (.func f) #[] (captured.map a.eval),by simp[Instr.makeFunc],⟨_,rfl,by simpa using h1,fun j c hj=>?_⟩,rfl⟩
    have hlt:j<captured.toList.length:=by rw[h1];exact(List.getElem?_eq_some_iff.1 hj).1
    have hlt':j<captured.size:=by simpa using hlt
    have:=h2 j c hj
    rw[List.getElem?_eq_getElem hlt] at this
    refine⟨a.eval captured[j],by simp[hlt'],?_⟩
    simpa using this
   ·exact hp.elim
 ·exact hp.elim
theorem zAu(op:BinOp)(t:TypeId)(x y:Operand)(hR:Rel S0 w0 n s a w)(hp:(zkK P s op t x y).1) :
  Yields P S0 w0 s a w (do eqGuard op t x y (a.eval x) (a.eval y);binOp op t (a.eval x) (a.eval y)) (zkK P s op t x y).2:=by
 unfold zkK at hp ⊢
 cases hy:zpI y with
 |true =>
  obtain rfl:=zxq hy
  rw[hy,cond_true] at hp
  exact zAI op t x (hR.sv x) hp
 |false =>
  rw[hy,cond_false] at hp
  exact zBW op t x y (hR.sv x) (hR.sv y) hp
theorem zHl(hR:Rel S0 w0 n s a w)(o:Oper)(hp:(zdP P s o.op).1) :
  ∃v,(execOp a.eval o).run P w=.ok (.value v) w∧zgd S0 w0 s a w (zdP P s o.op).2 v∧(zdP P s o.op).2.zaa=false:=by
 obtain⟨dst,op,type,pos,after,guard⟩:=o
 dsimp only at hp ⊢
 cases op with
 |move x=>exact⟨_,rfl,hR.sv x hp,hR.zlO x⟩
 |assign x=>exact⟨_,rfl,hR.look x,ziO x⟩
 |pick c x y =>
  obtain⟨v,h1,h2,h3⟩:=zBg (P:=P) (hR.sv c) (hR.sv x) (hR.sv y) hp
  refine⟨v,?_,h2,h3⟩
  simp only[execOp]
  cases hb:(asBool (a.eval c)).run P w with
  |ok b w' =>
   simp only[Sem.run_bind,hb,Result.andThen_ok,Sem.run_pure] at h1 ⊢
   injection h1 with h1 h4
   rw[h1,h4]
  |halt e w'=>simp only[Sem.run_bind,hb,Result.andThen_halt] at h1;cases h1
 |load t x =>
  by_cases hind:∃p i off,Ab.sv s x=(p,.ptr2 i off)
  ·obtain⟨p,i,off,e⟩:=hind
   have hsv:=hR.sv x
   simp only[zdP,zhU,e] at hp hsv ⊢
   cases hk:tk P t with
   |one =>
    rw[hk] at hp
    obtain⟨b1,b,hv,hS,hc,hb⟩:=hsv hp
    refine⟨.pointer (some ⟨b,off,none⟩),?_,⟨b,rfl,hb⟩,rfl⟩
    simp only[execOp,hv]
    refine zhl ?_
    simp[Instr.loadAt,Instr.sureAddr,loadVar,ztg (w:=w) hk,hc]
   |_=>rw[hk] at hp;exact hp.elim
  have hload:zhU P s t (Ab.sv s x)=za0 s (Ab.sv s x).2 (zeD (tk P t) (zbp P t) (Ab.sv s x).1 (Ab.mem s (Ab.sv s x).2)):=by
   unfold zhU
   split
   ·rename_i e;exact absurd ⟨_,_,_,e⟩ hind
   ·rfl
  have hp':(zeD (tk P t) (zbp P t) (Ab.sv s x).1 (Ab.mem s (Ab.sv s x).2)).1:=by
   simp only[zdP,hload] at hp
   rcases zex s (Ab.sv s x).2 (zeD (tk P t) (zbp P t) (Ab.sv s x).1 (Ab.mem s (Ab.sv s x).2)) with e | ⟨p,i,off,d,e1,_,_,e4⟩
   ·rw[e] at hp;exact hp
   ·rw[e4] at hp;rw[e1];exact hp
  obtain⟨v,h1,h2,h3⟩:=zsY (P:=P) (t:=t) (fun hp cs hm=>hR.mem (hR.sv x hp) hm) hp'
  simp only[zdP,hload]
  rcases zex s (Ab.sv s x).2 (zeD (tk P t) (zbp P t) (Ab.sv s x).1 (Ab.mem s (Ab.sv s x).2)) with e | ⟨p,i,off,d,e1,e2,e3,e4⟩
  ·rw[e];exact⟨v,zhl h1,h2,h3⟩
  ·rw[e4]
   refine⟨v,zhl h1,?_,rfl⟩
   have hl:=hR.rep (LK i off)
   rw[e3] at hl
   obtain⟨ho,cs,b,k1,k2,k3,k4⟩:=hl
   refine⟨?_,ho⟩
   have hk:tk P t=.one:=by
    have h0:=congrArg Prod.snd e1
    cases hm:Ab.mem s (Ab.sv s x).2 with
    |none=>rw[hm] at h0;cases h0
    |some cs =>
     rw[hm] at h0
     simp only[zeD] at h0
     cases hk:tk P t with
     |one=>rfl
     |agg m=>rw[hk] at h0;simp[znl,zJZ] at h0
     |bad=>rw[hk] at h0;simp[znl,zJZ] at h0
   have hsv:zgd S0 w0 s a w (Ab.sv s x).2 (a.eval x):=by
    refine hR.sv x ?_
    cases hm:Ab.mem s (Ab.sv s x).2 with
    |none=>rw[hm] at hp';exact hp'.elim
    |some cs =>
     rw[hm,hk] at hp'
     simp only[zeD] at hp'
     cases cs with
     |nil=>simp only[znl] at hp';split at hp'<;>exact hp'.elim
     |cons c cs=>exact hp'
   rw[e2] at hsv
   obtain⟨b',hv',hb'⟩:=hsv
   rw[k3] at hb'
   injection hb' with hb'
   subst hb'
   rw[hv'] at h1
   simp[Instr.loadAt,Instr.sureAddr,loadVar,ztg (w:=w) hk,k4] at h1
   rw[←h1]
   simp[zai]
 |nilCheck x =>
  simp only[zdP] at hp ⊢
  have hsv:=hR.sv x
  have hno:=hR.zlO x
  cases hpt:zGo (Ab.sv s x).2 with
  |false=>rw[hpt] at hp;exact hp.elim
  |true =>
   rw[hpt] at hp
   have hr:=hsv hp
   refine⟨a.eval x,?_,hr,hno⟩
   have hptr:∃ad,a.eval x=.pointer (some ad):=by
    cases hx:(Ab.sv s x).2 with
    |ptr i off=>rw[hx] at hr;obtain⟨b,h,_⟩:=hr;exact⟨_,h⟩
    |eptr i k off=>rw[hx] at hr;obtain⟨b,h,_⟩:=hr;exact⟨_,h⟩
    |elem cs=>rw[hx] at hr;obtain⟨ad,h,_⟩:=hr;exact⟨_,h⟩
    |_=>rw[hx] at hpt;cases hpt
   obtain⟨ad,had⟩:=hptr
   simp only[execOp,had]
   rfl
 |binOp op t x y yt =>
  obtain⟨v,h1,h2,h3⟩:=zAu (P:=P) op t x y hR hp
  exact⟨v,zhl h1,h2,h3⟩
 |unOp op t x =>
  obtain⟨v,h1,h2,h3⟩:=zBC (P:=P) (hR.sv x) hp
  exact⟨v,zhl h1,h2,h3⟩
 |convert src dst x =>
  obtain⟨v,h1,h2,h3⟩:=zr8 (P:=P) hR (hR.sv x) hp
  exact⟨v,zhl h1,h2,h3⟩
 |slice t x lo hi mx =>
  obtain⟨v,h1,h2,h3⟩:=zw5 (P:=P) hR (hR.sv x) hp
  exact⟨v,zhl h1,h2,h3⟩
 |fieldAddr t x f =>
  obtain⟨v,h1,h2,h3⟩:=zok (P:=P) (hR.sv x) hp
  exact⟨v,zhl h1,h2,h3⟩
 |field t x f =>
  obtain⟨v,h1,h2,h3⟩:=zvJ (P:=P) (hR.sv x) hp
  exact⟨v,zhl h1,h2,h3⟩
 |indexAddr t x i =>
  obtain⟨v,h1,h2,h3⟩:=zoY (P:=P) hR (hR.sv x) (hR.sv i) hp
  exact⟨v,zhl h1,h2,h3⟩
 |index t x i =>
  obtain⟨v,h1,h2,h3⟩:=zyP (P:=P) (hR.sv x) (hR.sv i) hp
  exact⟨v,zhl h1,h2,h3⟩
 |makeFunc fn first captured =>
  obtain⟨v,h1,h2,h3⟩:=zpH (P:=P) hR hp
  exact⟨v,zhl h1,h2,h3⟩
 |lookup t x k ok =>
  obtain⟨v,h1,h2,h3⟩:=ztX (P:=P) hR (hR.sv x) (hR.sv k) hp
  exact⟨v,zhl h1,h2,h3⟩
 |extract x i =>
  obtain⟨v,h1,h2,h3⟩:=zsp (P:=P) (hR.sv x) hp
  exact⟨v,zhl h1,h2,h3⟩
 |call c =>
  obtain⟨callee,⟨args⟩,⟨argTypes⟩⟩:=c
  simp only[zdP] at hp ⊢
  unfold zc4 at hp ⊢
  split at hp
  ·split at hp
   ·obtain⟨v,h1,h2,h3⟩:=zIk (P:=P) (ty:=type) hR (hR.sv _) hp
    refine⟨v,?_,h2,h3⟩
    simp only[execOp,resolve,Sem.run_bind,Sem.run_pure,Result.andThen_ok,invoke,builtin,map_mk,List.map_cons,List.map_nil]
    exact congrArg (fun r=>Result.andThen r fun (a:Value) w'=>Result.ok (Next.value a) w') h1
   ·exact hp.elim
  ·split at hp
   ·obtain⟨v,h1,h2,h3⟩:=zGH (P:=P) (ty:=type) (hR.sv _) hp
    refine⟨v,?_,h2,h3⟩
    simp only[execOp,resolve,Sem.run_bind,Sem.run_pure,Result.andThen_ok,invoke,builtin,map_mk,List.map_cons,List.map_nil]
    exact congrArg (fun r=>Result.andThen r fun (a:Value) w'=>Result.ok (Next.value a) w') h1
   ·exact hp.elim
  ·split at hp
   ·obtain⟨v,h1,h2,h3⟩:=zHs (P:=P) (ts:=⟨argTypes⟩) (ty:=type) (hR.sv _) (hR.sv _) hp
    refine⟨v,?_,h2,h3⟩
    simp only[execOp,resolve,Sem.run_bind,Sem.run_pure,Result.andThen_ok,invoke,builtin,map_mk,List.map_cons,List.map_nil]
    exact congrArg (fun r=>Result.andThen r fun (a:Value) w'=>Result.ok (Next.value a) w') h1
   ·exact hp.elim
  ·split at hp
   ·obtain⟨v,h1,h2,h3⟩:=zHh (P:=P) (ts:=⟨argTypes⟩) (ty:=type) (hR.sv _) (hR.sv _) hp
    refine⟨v,?_,h2,h3⟩
    simp only[execOp,resolve,Sem.run_bind,Sem.run_pure,Result.andThen_ok,invoke,builtin,map_mk,List.map_cons,List.map_nil]
    exact congrArg (fun r=>Result.andThen r fun (a:Value) w'=>Result.ok (Next.value a) w') h1
   ·exact hp.elim
  ·exact hp.elim
 |_=>exact hp.elim
end
end Go.Ab
namespace Go.Ab
open Go Go.RowKit
variable [Amb]
section
variable {P:Program}{S0:Env}{w0 w:World}{n:Nat}{s:St}{a:Act}
theorem zlU{S:Nat→Prop}{us:List Value}(h:us.all zcr=true):zbP w S (us.map zhp) us:=by
 refine⟨by simp,fun j c hj=>?_⟩
 rw[List.getElem?_map] at hj
 cases hu:us[j]? with
 |none=>rw[hu] at hj;cases hj
 |some u =>
  rw[hu] at hj
  injection hj with hj
  subst hj
  exact⟨u,rfl,zfv (List.all_eq_true.1 h u (List.mem_of_getElem? hu))⟩
def zeroOf(P:Program)(t:TypeId):Option (List CV):=
 match P.info? t with
 |some i=>match i.zero with
  |some z=>if z.cells.toList.all zcr then some (z.cells.toList.map zhp) else none
  |none=>none
 |none=>none
theorem zmg{t:TypeId}{cs:List CV}(h:zeroOf P t=some cs)(S:Nat→Prop):∃z,(zeroValue t).run P w=.ok z w∧zbP w S cs z.cells.toList:=by
 unfold zeroOf at h
 split at h
 ·rename_i i hi
  split at h
  ·rename_i z hz
   split at h
   ·rename_i hall
    injection h with h
    subst h
    exact⟨z,by simp[zeroValue,typeInfo,hi,hz],zlU hall⟩
   ·cases h
  ·cases h
 ·cases h
def XV.cells:XV→List CV
 |.one c=>[c]
 |.agg cs=>cs
theorem zbL.cells{S:Nat→Prop}{x:XV}{v:Value}(h:zbL w S x v):zbP w S x.cells v.cells.toList:=by
 cases x with
 |one c =>
  have h1:v.cells=#[v]:=by
   have:=zaH.oneCell h
   cases v<;>first | rfl | (simp[Value.oneCell'] at this)
  rw[h1]
  refine⟨rfl,fun j c' hj=>?_⟩
  cases j with
  |zero=>simp[XV.cells] at hj;subst hj;exact⟨v,rfl,h⟩
  |succ j=>simp[XV.cells] at hj
 |agg cs=>obtain⟨us,rfl,hl⟩:=h;exact hl
theorem zbP.zeJ{S:Nat→Prop}{cs:List CV}{us:List Value}(h:zbP w S cs us):∀u∈us,u.oneCell'=true:=by
 intro u hu
 obtain⟨j,hj⟩:=List.getElem?_of_mem hu
 have hlt:j<cs.length:=by have:=(List.getElem?_eq_some_iff.1 hj).1;have:=h.1;omega
 obtain⟨u',hu',hr⟩:=h.2 j cs[j] (List.getElem?_eq_getElem hlt)
 rw[hj] at hu'
 injection hu' with hu'
 subst hu'
 exact hr.oneCell
theorem zkn{b:Nat}(o:Obj)(h:Shared S0 w0.heap.size w s (zai a) b):Shared S0 w0.heap.size (w.alloc o) s (zai a) b∧b≠w.heap.size:=
 ⟨⟨h.1,by have:=h.2.1;simp;omega,h.2.2⟩,by have:=h.2.1;omega⟩
theorem Rel.zQO{d i off b:Nat}{t:TypeId}(hR:Rel S0 w0 n s a w)(hd:S0.m≤d∧d<n)(hb:zaf (s i) (zai a i)=some b) :
  Rel S0 w0 n (Ab.put s d (.ptr2 i off)) (a.put (some d) (.pointer (some ⟨w.heap.size,0,none⟩))) (w.alloc (.cells #[.pointer (some ⟨b,off,none⟩)] t)):=by
 have hlt:∀k c,zaf (s k) (zai a k)=some c→c<w.heap.size:=fun k c hc=>((hR.rep k).zbk hc).2
 have ho:(s i).zaa=true:=by
  cases ho:(s i).zaa with
  |true=>rfl
  |false=>rw[zao ho] at hb;cases hb
 refine hR.put hd (World.grownBy_alloc w _ none) (fun j h=>?_) ⟨w.heap.size,b,rfl,⟨.inr (.inl hR.below.size),by simp,fun k hk=>?_⟩,?_,hb⟩ (fun c hc=>by cases hc) (fun c hc=>by cases hc)
 ·obtain rfl:i=j:=by simpa[AV.refs] using h
  exact ho
 ·have:=hlt k _ hk;omega
 ·rw[cell_of_row _ w.heap.size 0 _ t (0,0) (heap_alloc_new w _)]
  rfl
theorem Rel.zx1{d:Nat}{cs:List CV}{arr:Array Value}{t:TypeId}(hR:Rel S0 w0 n s a w)(hd:S0.m≤d∧d<n)(hl:zbP w (Shared S0 w0.heap.size w s (zai a)) cs arr.toList) :
  Rel S0 w0 n (Ab.put s d (.box cs)) (a.put (some d) (.pointer (some ⟨w.heap.size,0,none⟩))) (w.alloc (.cells arr t)):=by
 have hb:∀b,Shared S0 w0.heap.size w s (zai a) b→(w.alloc (.cells arr t)).heap[b]?=w.heap[b]?:=fun b hb=>Below.heap_alloc w _ b hb.2.1
 refine hR.put hd (World.grownBy_alloc w _ none) (fun j h=>by cases h) ⟨_,arr,t,rfl,heap_alloc_new w _,hl.mono (fun b hb=>(zkn _ hb).1) hb,.inl hR.below.size⟩ ?_ ?_
 ·intro b hb
  have:w.heap.size=b:=by simpa[zaf] using hb
  omega
 ·intro b hbb
  have:w.heap.size=b:=by simpa[zaf] using hbb
  subst this
  exact⟨_,arr,t,rfl,heap_alloc_new w _,hl.mono (fun b hb=>zkn _ hb) hb,.inl hR.below.size⟩
theorem Rel.zoc{d e size:Nat}{xs:List (List CV)}{v:Value}{us:List Value}{w':World}(hR:Rel S0 w0 n s a w)(hd:S0.m≤d∧d<n)
  (hg:w.grownBy w' none)(hown:w'.zdS 0 e size v xs.length us)(hl:zbP w (Shared S0 w0.heap.size w s (zai a)) xs.flatten us)(hx:∀x∈xs,x.length=size)(hm:xs.length≤maxLen)
  (hf:∀b,v.ownBlock=some b→w.heap.size≤b) :
  Rel S0 w0 n (Ab.put s d (.own e size xs)) (a.put (some d) v) w':=by
 have hb:∀b,Shared S0 w0.heap.size w s (zai a) b→w'.heap[b]?=w.heap[b]?:=fun b hb=>hg.block b hb.2.1 (by simp)
 have hsub:∀b,Shared S0 w0.heap.size w s (zai a) b→Shared S0 w0.heap.size w' s (zai a) b:=fun b hb=>⟨hb.1,Nat.lt_of_lt_of_le hb.2.1 hg.size,hb.2.2⟩
 refine hR.put hd hg (fun j h=>by cases h) ⟨us,hown,hl.mono hsub hb,hx,hm,fun b hb=>.inl (Nat.le_trans hR.below.size (hf b hb))⟩ hf ?_
 intro b hbb
 have:=hf b hbb
 exact⟨us,hown,hl.mono (fun b' hb'=>⟨hsub b' hb',by have:=hb'.2.1;omega⟩) hb,hx,hm,fun b hb=>.inl (Nat.le_trans hR.below.size (hf b hb))⟩
def zae{α:Type}(cs:List α)(off:Nat)(vs:List α):List α:=cs.take off++vs++cs.drop (off+vs.length)
theorem zbP.zae{S:Nat→Prop}{cs vs:List CV}{us ws:List Value}(h:zbP w S cs us)(k:zbP w S vs ws)(off:Nat):zbP w S (zae cs off vs) (zae us off ws):=by
 have h1:=h.1
 have k1:=k.1
 refine⟨by simp only[Ab.zae,List.length_append,List.length_take,List.length_drop,h1,k1],fun j c hj=>?_⟩
 simp only[Ab.zae,List.append_assoc] at hj ⊢
 rw[List.getElem?_append] at hj ⊢
 simp only[List.length_take,h1] at hj ⊢
 split at hj
 ·rename_i hlt
  rw[if_pos hlt]
  rw[List.getElem?_take] at hj ⊢
  split at hj
  ·rename_i hlt2;rw[if_pos hlt2];exact h.2 _ _ hj
  ·cases hj
 ·rename_i hge
  rw[if_neg hge]
  rw[List.getElem?_append] at hj ⊢
  rw[k1]
  split at hj
  ·rename_i hlt;rw[if_pos hlt];exact k.2 _ _ hj
  ·rename_i hge2
   rw[if_neg hge2]
   rw[List.getElem?_drop] at hj ⊢
   exact h.2 _ _ hj
theorem Rel.write{i:Nat}{r:AV}{b:Nat}{w':World}(hR:Rel S0 w0 n s a w)(hb:zaf (s i) (zai a i)=some b)(hg:w.grownBy w' (some b))(hsz:w'.heap.size=w.heap.size)
  (hbr:zaf r (zai a i)=some b)(hro:r.zaa=true)(hrs:r.size=(s i).size)(hrl:r.len=(s i).len)(hrv:r.valOf=(s i).valOf)
  (hr:∀(s':St),zaQ w' (Shared S0 w0.heap.size w s (zai a)) (OwnB S0 w0.heap.size) s' (zai a) r (zai a i))
  (hnl:∀j off d cs,(s j).zco i off d→(s i).zfQ=some cs→(∃cs',r.zfQ=some cs'∧cs'[off]?=cs[off]?)∧w'.cell? ⟨b,off,none⟩=w.cell? ⟨b,off,none⟩) :
  Rel S0 w0 n (fun j=>if j=i then r else s j) a w':=by
 have hso:(s i).zaa=true:=by
  cases h:(s i).zaa with
  |true=>rfl
  |false=>rw[zao h] at hb;cases hb
 have hblk:∀j c,zaf (if j=i then r else s j) (zai a j)=some c→zaf (s j) (zai a j)=some c:=by
  intro j c hc
  by_cases hj:j=i
  ·subst hj
   rw[if_pos rfl,hbr] at hc
   rw[hb];exact hc
  ·rw[if_neg hj] at hc;exact hc
 have hsub:∀c,Shared S0 w0.heap.size w s (zai a) c→Shared S0 w0.heap.size w' (fun j=>if j=i then r else s j) (zai a) c:=
  fun c hc=>⟨hc.1,by rw[hsz];exact hc.2.1,fun j hj=>hc.2.2 j (hblk j c hj)⟩
 have hsame:∀c,Shared S0 w0.heap.size w s (zai a) c→w'.heap[c]?=w.heap[c]?:=by
  intro c hc
  refine hg.block c hc.2.1 (fun e=>?_)
  injection e with e
  exact hc.2.2 i (by rw[hb,e])
 refine⟨hR.defers,hR.size,?_,hR.lt,?_,?_,?_,?_,hR.pin⟩
 ·exact hR.below.grown hg (fun k hk=>by injection hk with hk;subst hk;exact((hR.rep i).zbk hb).1)
 ·intro j
  by_cases hj:j=i
  ·subst hj
   simp only[if_pos]
   exact(hr (fun k=>if k=j then r else s k)).mono hsub (fun _ _=>rfl) (fun _ _=>rfl) (fun k hk=>⟨rfl,fun h=>⟨h,rfl,rfl,rfl⟩,fun c hc=>hc⟩)
    (fun i' off d cs b' hl _ _=>by have:=zaP (AV.zaO hl).1;rw[hro] at this;cases this)
  ·simp only[if_neg hj]
   refine(hR.rep j).mono hsub hsame (fun c hc=>?_) (fun k hk=>⟨rfl,fun h=>?_,fun c hc=>?_⟩) (fun i' off d cs b' hl hs' hb'=>?_)
   rotate_right
   ·by_cases hi':i'=i
    ·subst hi'
     obtain rfl:b'=b:=by rw[hb] at hb';injection hb' with hb';exact hb'.symm
     obtain⟨⟨cs',k1,k2⟩,k3⟩:=hnl j off d cs hl hs'
     exact⟨⟨cs',by rw[if_pos rfl];exact k1,k2⟩,k3⟩
    ·refine⟨⟨cs,by rw[if_neg hi'];exact hs',rfl⟩,World.cell?_of_block (hg.block b' ((hR.rep i').zbk hb').2 (fun e=>?_))⟩
     injection e with e
     subst e
     exact hi' (hR.inj i' i _ hb' hb)
   ·refine hg.block c ((hR.rep j).zbk hc).2 (fun e=>?_)
    injection e with e
    subst e
    exact hj (hR.inj j i c hc hb)
   ·by_cases hk':k=i
    ·subst hk';simp only[if_pos];exact⟨hro,hrs,hrl,hrv⟩
    ·simp only[if_neg hk'];exact⟨h,trivial,trivial,trivial⟩
   ·by_cases hk':k=i
    ·subst hk'
     simp only[if_pos]
     rw[hb] at hc
     injection hc with hc
     subst hc
     exact hbr
    ·simp only[if_neg hk'];exact hc
 ·intro j k c hj hk
  exact hR.inj j k c (hblk j c hj) (hblk k c hk)
 ·intro j hj
  by_cases hji:j=i
  ·subst hji
   have h3:r.valOf (.bool true)=r.valOf (.bool false):=by
    rcases zlV (hR.out j hj) hso with⟨v,e,z,xs,h⟩ | ⟨v,e,z,xs,h⟩ <;>
     (rw[h] at hrv
      have h1:=congrFun hrv (.bool true)
      have h2:=congrFun hrv (.bool false)
      exact h1.trans h2.symm)
   simp only[if_pos]
   cases r<;>first | rfl | (simp[AV.valOf] at h3;done)
  ·simp only[if_neg hji];exact hR.out j hj
 ·intro j k hjk
  have hjk':(s j).refs k=true:=by
   by_cases hj:j=i
   ·subst hj
    simp only[if_pos] at hjk
    have:=zaP hjk
    rw[hro] at this;cases this
   ·simpa only[if_neg hj] using hjk
  have:=hR.wf j k hjk'
  by_cases hk:k=i
  ·simp only[if_pos hk];exact hro
  ·simp only[if_neg hk];exact this
theorem Rel.forget{s':St}(hR:Rel S0 w0 n s a w)(h:∀i,s' i=s i∨s' i=.dead)(hrf:∀i j,(s' i).refs j=true→s' j=s j):Rel S0 w0 n s' a w:=by
 have hblk:∀j c,zaf (s' j) (zai a j)=some c→zaf (s j) (zai a j)=some c:=by
  intro j c hc
  rcases h j with e | e<;>rw[e] at hc
  ·exact hc
  ·cases hc
 have hsub:∀c,Shared S0 w0.heap.size w s (zai a) c→Shared S0 w0.heap.size w s' (zai a) c:=fun c hc=>⟨hc.1,hc.2.1,fun j hj=>hc.2.2 j (hblk j c hj)⟩
 refine⟨hR.defers,hR.size,hR.below,hR.lt,fun i=>?_,fun i j b hi hj=>hR.inj i j b (hblk i b hi) (hblk j b hj),fun i hi=>?_,fun i j hij=>?_,hR.pin⟩
 ·rcases h i with e | e
  ·rw[e]
   refine(hR.rep i).mono hsub (fun _ _=>rfl) (fun _ _=>rfl) (fun k hk=>?_) ?_
   have:=hrf i k (by rw[e];exact AV.zaL hk)
   exact⟨rfl,fun h=>by rw[this];exact⟨h,rfl,rfl,rfl⟩,fun c hc=>by rw[this];exact hc⟩
   exact fun i' off d cs b hl hs' _=>⟨⟨cs,by rw[hrf i i' (by rw[e];exact(AV.zaO hl).1)];exact hs',rfl⟩,rfl⟩
  ·rw[e];trivial
 ·rcases h i with e | e
  ·rw[e];exact hR.out i hi
  ·rw[e];rfl
 ·rw[hrf i j hij]
  rcases h i with e | e<;>rw[e] at hij
  ·exact hR.wf i j hij
  ·cases hij
def zcW:AV→AV
 |.own _ size xs=>.x (.one (.list size xs))
 |.box cs=>.elem cs
 |a=>a
def zbu:AV→AV→AV
 |.box cs,.ptr _ off=>.elem (cs.drop off)
 |.box cs,.cloR f [.inr (_,0)]=>.x (.one (.clo f [.ref cs]))
 |_,_=>.dead
theorem zcQ(a x:AV):zbu a x=.dead∨(∃cs i off,a=.box cs∧x=.ptr i off∧zbu a x=.elem (cs.drop off))∨∃cs f i,a=.box cs∧x=.cloR f [.inr (i,0)]∧zbu a x=.x (.one (.clo f [.ref cs])):=by
 unfold zbu
 split
 ·exact .inr (.inl ⟨_,_,_,rfl,rfl,rfl⟩)
 ·exact .inr (.inr ⟨_,_,_,rfl,rfl,rfl⟩)
 ·exact .inl rfl
theorem zfU(a x:AV):(zbu a x).zaa=false:=by
 rcases zcQ a x with e | ⟨_,_,_,_,_,e⟩ | ⟨_,_,_,_,_,e⟩<;>rw[e]<;>rfl
theorem zcL(a x:AV)(j:Nat):(zbu a x).refs j=false:=by
 rcases zcQ a x with e | ⟨_,_,_,_,_,e⟩ | ⟨_,_,_,_,_,e⟩<;>rw[e]<;>rfl
theorem zqV{a:AV}(x:AV)(h:∀cs,a≠.box cs):zbu a x=.dead:=by
 rcases zcQ a x with e | ⟨cs,_,_,e,_⟩ | ⟨cs,_,_,e,_⟩
 ·exact e
 ·exact absurd e (h cs)
 ·exact absurd e (h cs)
theorem zpd(a:AV){x:AV}(h:x.apart=true):(zbu a x).apart=true:=by
 rcases zcQ a x with e | ⟨_,_,_,_,e,_⟩ | ⟨_,_,_,_,e,_⟩
 ·rw[e];rfl
 ·rw[e] at h;cases h
 ·rw[e] at h;cases h
def freeze(s:St)(i:Nat):St:=fun j=>if j=i then zcW (s i) else if (s j).refs i then zbu (s i) (s j) else s j
theorem zg8{S:Nat→Prop}{B e size:Nat}{v:Value}{xs:List (List CV)}{us:List Value}(hown:w.zdS B e size v xs.length us)(hl:zbP w S xs.flatten us)(hx:∀x∈xs,x.length=size)(hm:xs.length≤maxLen)
  (hS:∀b,v.ownBlock=some b→S b):zaH w S (.list size xs) v:=by
 rcases hown.2 with⟨rfl,h0⟩ | ⟨g,cap,cur,hv,hb,hh,hn,hcm,hcs,ht⟩
 ·have:xs=[]:=List.eq_nil_of_length_eq_zero h0
  subst this
  exact .list0 _ _ _ (by simp) (fun _=>rfl)
 ·have hblk:v.ownBlock=some g:=by rw[hv];rfl
  subst hv
  refine .list ⟨g,0,none⟩ cap size xs (fun j=>us.getD j undef) (hS g hblk) rfl hn hcm hx (fun j c hj=>?_) (fun j c hj=>?_)
  ·obtain⟨u,hu,_⟩:=hl.2 j c hj
   have:=hown.cells hblk j u hu
   rw[this,List.getD_eq_getElem?_getD,hu]
   rfl
  ·obtain⟨u,hu,hr⟩:=hl.2 j c hj
   simp only[List.getD_eq_getElem?_getD,hu,Option.getD_some]
   exact hr
theorem zfA{S:Nat→Prop}{b:Nat}{arr:Array Value}{t:TypeId}{cs:List CV}(hh:w.heap[b]?=some (.cells arr t (0,0)))(hl:zbP w S cs arr.toList):∀(off j:Nat) (c:CV),(cs.drop off)[j]?=some c→∃u,w.cell? ((⟨b,off,none⟩:Addr).add j)=some u∧zaH w S c u:=by
 intro off j c hj
 rw[List.getElem?_drop] at hj
 obtain⟨u,hu,hr⟩:=hl.2 _ c hj
 refine⟨u,?_,hr⟩
 rw[zaJ,cell_of_row w b (off+j) arr t (0,0) hh]
 simpa using hu
theorem Rel.freeze{i:Nat}(hR:Rel S0 w0 n s a w)(hi:(∃e size xs,s i=.own e size xs)∨∃cs,s i=.box cs):Rel S0 w0 n (Ab.freeze s i) a w:=by
 have hfi:(Ab.freeze s i i).zaa=false∧∀j,(Ab.freeze s i i).refs j=false:=by
  rcases hi with⟨e,size,xs,hi⟩ | ⟨cs,hi⟩<;>simp[Ab.freeze,hi,zcW,AV.zaa,AV.refs]
 have hfo:∀j,j≠i→Ab.freeze s i j=s j∨((s j).refs i=true∧Ab.freeze s i j=zbu (s i) (s j)):=by
  intro j hj
  unfold Ab.freeze
  by_cases hr:(s j).refs i=true
  ·exact .inr ⟨hr,by simp[hj,hr]⟩
  ·exact .inl (by simp[hj,hr])
 have hblk:∀j c,zaf (Ab.freeze s i j) (zai a j)=some c→j≠i∧zaf (s j) (zai a j)=some c:=by
  intro j c hc
  by_cases hj:j=i
  ·subst hj;rw[zao hfi.1] at hc;cases hc
  ·rcases hfo j hj with e | ⟨_,e⟩<;>rw[e] at hc
   ·exact⟨hj,hc⟩
   ·rw[zao (zfU _ _)] at hc;cases hc
 have hsub:∀c,Shared S0 w0.heap.size w s (zai a) c→Shared S0 w0.heap.size w (Ab.freeze s i) (zai a) c:=fun c hc=>⟨hc.1,hc.2.1,fun j hj=>hc.2.2 j (hblk j c hj).2⟩
 refine⟨hR.defers,hR.size,hR.below,hR.lt,fun j=>?_,fun j k b hj hk=>hR.inj j k b (hblk j b hj).2 (hblk k b hk).2,fun j hj=>?_,fun j k hjk=>?_,hR.pin⟩
 ·by_cases hj:j=i
  ·subst hj
   have h:=hR.rep j
   rcases hi with⟨e,size,xs,hi⟩ | ⟨cs,hi⟩
   ·have hfe:Ab.freeze s j j=.x (.one (.list size xs)):=by simp[Ab.freeze,hi,zcW]
    rw[hfe]
    rw[hi] at h
    obtain⟨us,hown,hl,hx,hm,hO⟩:=h
    refine zg8 hown (hl.mono hsub (fun _ _=>rfl)) hx hm (fun b hb=>?_)
    have hlt:=hown.lt b hb
    refine⟨.inr (hO b hb),hlt.2,fun k hk=>?_⟩
    obtain⟨hkj,hkb⟩:=hblk k b hk
    exact hkj (hR.inj k j b hkb (by rw[hi];exact hb))
   ·have hfe:Ab.freeze s j j=.elem cs:=by simp[Ab.freeze,hi,zcW]
    rw[hfe]
    rw[hi] at h
    obtain⟨b,arr,t,hv,hh,hl,hO⟩:=h
    refine⟨⟨b,0,none⟩,hv,rfl,⟨.inr hO,(Array.getElem?_eq_some_iff.1 hh).1,fun k hk=>?_⟩,fun j' c hj'=>?_⟩
    ·obtain⟨hkj,hkb⟩:=hblk k b hk
     exact hkj (hR.inj k j b hkb (by rw[hi,hv];rfl))
    ·obtain⟨u,hu,hr⟩:=zfA hh hl 0 j' c (by simpa using hj')
     exact⟨u,hu,zaH.mono hr hsub (fun _ _=>rfl)⟩
  ·rcases hfo j hj with e | ⟨hjr,e⟩
   ·rw[e]
    have hown:∀k,(s j).refs k=true→(s k).zaa=true→Ab.freeze s i k=s k:=by
     intro k hjk ho
     have hki:k≠i:=by
      rintro rfl
      have e':zbu (s k) (s j)=s j:=by
       have e':=e
       unfold Ab.freeze at e'
       simpa[hj,hjk] using e'
      have h2:=zcL (s k) (s j) k
      rw[e',hjk] at h2
      cases h2
     rcases hfo k hki with e' | ⟨hr,_⟩
     ·exact e'
     ·rw[zaP hr] at ho;cases ho
    refine(hR.rep j).mono hsub (fun _ _=>rfl) (fun _ _=>rfl) (fun k hk=>?_) (fun i' off d cs b hl hs' _=>⟨⟨cs,by rw[hown i' (AV.zaO hl).1 (AV.zba hs')];exact hs',rfl⟩,rfl⟩)
    have hki:k≠i:=by
     rintro rfl
     have:=AV.zaL hk
     have e':zbu (s k) (s j)=s j:=by
      have e':=e
      unfold Ab.freeze at e'
      simpa[hj,this] using e'
     have h2:=zcL (s k) (s j) k
     rw[e',this] at h2
     cases h2
    have hown:(s k).zaa=true→Ab.freeze s i k=s k:=by
     intro ho
     rcases hfo k hki with e' | ⟨hr,_⟩
     ·exact e'
     ·rw[zaP hr] at ho;cases ho
    refine⟨rfl,fun h=>by rw[hown h];exact⟨h,rfl,rfl,rfl⟩,fun c hc=>?_⟩
    have ho:(s k).zaa=true:=by
     cases h:(s k).zaa with
     |true=>rfl
     |false=>rw[zao h] at hc;cases hc
    rw[hown ho];exact hc
   ·rw[e]
    rcases zcQ (s i) (s j) with e2 | ⟨cs,i',off,hbx,hpt,e2⟩ | ⟨cs,f,i',hbx,hpt,e2⟩
    ·rw[e2];trivial
    ·rw[e2]
     have hii:i'=i:=by rw[hpt] at hjr;simpa[AV.refs] using hjr
     subst hii
     have hp:=hR.rep j
     rw[hpt] at hp
     obtain⟨b0,hv0,hb0⟩:=hp
     have hbi:=hR.rep i'
     rw[hbx] at hbi
     obtain⟨b,arr,t,hv,hh,hl,hO⟩:=hbi
     have hbb:b=b0:=by
      have hvt:zai a i'=.pointer (some ⟨b,0,none⟩):=hv
      rw[hbx,hvt] at hb0
      have:some b=some b0:=hb0
      injection this
     subst hbb
     refine⟨⟨b,off,none⟩,hv0,rfl,⟨.inr hO,(Array.getElem?_eq_some_iff.1 hh).1,fun k hk=>?_⟩,fun j' c hj'=>?_⟩
     ·obtain⟨hkj,hkb⟩:=hblk k b hk
      exact hkj (hR.inj k i' b hkb (by rw[hbx];exact(by rw[show zai a i'=.pointer (some ⟨b,0,none⟩) from hv];rfl)))
     ·obtain⟨u,hu,hr⟩:=zfA hh hl off j' c hj'
      exact⟨u,hu,zaH.mono hr hsub (fun _ _=>rfl)⟩
    ·rw[e2]
     have hii:i'=i:=by rw[hpt] at hjr;simpa[AV.refs,zcK] using hjr
     subst hii
     have hp:=hR.rep j
     rw[hpt] at hp
     obtain⟨us,hv0,hsz,hcap⟩:=hp
     obtain⟨u,hu,b0,hub,hb0⟩:=hcap 0 (.inr (i',0)) rfl
     have hbi:=hR.rep i'
     rw[hbx] at hbi
     obtain⟨b,arr,t,hv,hh,hl,hO⟩:=hbi
     have hbb:b=b0:=by
      have hvt:zai a i'=.pointer (some ⟨b,0,none⟩):=hv
      rw[hbx,hvt] at hb0
      have:some b=some b0:=hb0
      injection this
     subst hbb
     have hus:us=#[u]:=by
      have h1:us.size=1:=hsz
      apply Array.ext
      ·simp[h1]
      ·intro k h1' h2'
       have hk:k=0:=by omega
       subst hk
       have:=(Array.getElem?_eq_some_iff.1 hu).2
       simpa using this
     have href:zaH w (Shared S0 w0.heap.size w (Ab.freeze s i') (zai a)) (.ref cs) u:=by
      rw[hub]
      refine .ref ⟨b,0,none⟩ cs (fun j'=>(w.cell? ((⟨b,0,none⟩:Addr).add j')).getD undef) ⟨.inr hO,(Array.getElem?_eq_some_iff.1 hh).1,fun k hk=>?_⟩ rfl (fun j' c hj'=>?_) (fun j' c hj'=>?_)
      ·obtain⟨hkj,hkb⟩:=hblk k b hk
       exact hkj (hR.inj k i' b hkb (by rw[hbx];exact(by rw[show zai a i'=.pointer (some ⟨b,0,none⟩) from hv];rfl)))
      ·obtain⟨u',hu',_⟩:=zfA hh hl 0 j' c (by simpa using hj');rw[hu'];rfl
      ·obtain⟨u',hu',hr⟩:=zfA hh hl 0 j' c (by simpa using hj');rw[hu'];exact zaH.mono hr hsub (fun _ _=>rfl)
     show zaH w _ (.clo f [.ref cs]) (zai a j)
     rw[show zai a j=.func (.func f) #[] us from hv0,hus]
     exact .clo f [.ref cs] (fun _=>u) (fun j' c hj'=>by
      cases j' with
      |zero=>simp at hj';subst hj';exact href
      |succ j'=>simp at hj')
 ·by_cases hji:j=i
  ·subst hji
   have:=hR.out j hj
   rcases hi with⟨_,_,_,hi⟩ | ⟨_,hi⟩<;>(rw[hi] at this;cases this)
  ·rcases hfo j hji with e | ⟨hr,e⟩
   ·rw[e];exact hR.out j hj
   ·rw[e];exact zpd _ (hR.out j hj)
 ·by_cases hj:j=i
  ·subst hj;rw[hfi.2] at hjk;cases hjk
  ·rcases hfo j hj with e | ⟨_,e⟩
   ·rw[e] at hjk
    have hko:=hR.wf j k hjk
    have hki:k≠i:=by
     rintro rfl
     have:Ab.freeze s k j=zbu (s k) (s j):=by unfold Ab.freeze;simp[hj,hjk]
     have h2:=zcL (s k) (s j) k
     rw[←this,e,hjk] at h2;cases h2
    rcases hfo k hki with e' | ⟨hr,_⟩
    ·rw[e'];exact hko
    ·rw[zaP hr] at hko;cases hko
   ·rw[e,zcL] at hjk;cases hjk
theorem Rel.take{i d:Nat}{r:AV}{v:Value}{w':World}(hR:Rel S0 w0 n s a w)(hd:S0.m≤d∧d<n)(hi:(s i).zaa=true)
  (hg:w.grownBy w' (zaf (s i) (zai a i)))
  (hbr:∀b,zaf r v=some b→zaf (s i) (zai a i)=some b∨w.heap.size≤b)
  (hrf:∀j,r.refs j=false)
  (hr:∀(s':St) (tm':Nat→Value) (S:Nat→Prop),(∀c,Shared S0 w0.heap.size w s (zai a) c→S c)→zaQ w' S (OwnB S0 w0.heap.size) s' tm' r v) :
  Rel S0 w0 n (Ab.put (Ab.put s i .dead) d r) (a.put (some d) v) w':=by
 have hdt:d<a.tmps.size:=by rw[hR.size];exact hd.2
 have htmo:∀j,j≠d→zai (a.put (some d) v) j=zai a j:=fun j hj=>by rw[zfC a d v hdt,if_neg hj]
 have htmd:zai (a.put (some d) v) d=v:=by rw[zfC a d v hdt,if_pos rfl]
 have h1i:Ab.put s i .dead i=.dead:=zbb rfl
 have h1:∀j,Ab.put s i .dead j=s j∧j≠i∧(s j).refs i=false∨Ab.put s i .dead j=.dead:=by
  intro j
  by_cases hj:j=i
  ·subst hj;exact .inr h1i
  ·cases hr:(s j).refs i with
   |true =>
    refine .inr ?_
    unfold Ab.put
    rw[hi]
    simp[hj,hr]
   |false=>exact .inl ⟨zio hj hr,hj,rfl⟩
 have h2d:Ab.put (Ab.put s i .dead) d r d=r:=zbb (hrf d)
 have h2:∀j,j≠d→(Ab.put (Ab.put s i .dead) d r j=s j∧j≠i∧(s j).refs i=false∧((s d).zaa=true→d≠i→(s j).refs d=false))∨Ab.put (Ab.put s i .dead) d r j=.dead:=by
  intro j hj
  rcases zbK (s:=Ab.put s i .dead) (v:=r) hj with e | ⟨_,_,e⟩
  ·rcases h1 j with⟨e1,hji,hjr⟩ | e1
   ·by_cases hsd:(s d).zaa=true∧d≠i
    ·cases hjd:(s j).refs d with
     |false=>exact .inl ⟨by rw[e,e1],hji,hjr,fun _ _=>rfl⟩
     |true =>
      refine .inr ?_
      have hd1:(Ab.put s i .dead d).zaa=true:=by rw[zbn hsd.2 hsd.1];exact hsd.1
      exact zfg hj hd1 (by rw[e1];exact hjd)
    ·exact .inl ⟨by rw[e,e1],hji,hjr,fun a b=>absurd ⟨a,b⟩ hsd⟩
   ·exact .inr (by rw[e,e1])
  ·exact .inr e
 have hblk:∀j b,zaf (Ab.put (Ab.put s i .dead) d r j) (zai (a.put (some d) v) j)=some b→(j=d∧zaf r v=some b)∨(j≠d∧j≠i∧zaf (s j) (zai a j)=some b):=by
  intro j b hb
  by_cases hj:j=d
  ·subst hj;rw[htmd,h2d] at hb;exact .inl ⟨rfl,hb⟩
  ·rw[htmo j hj] at hb
   rcases h2 j hj with⟨e,hji,_⟩ | e<;>rw[e] at hb
   ·exact .inr ⟨hj,hji,hb⟩
   ·cases hb
 have hold:∀c,Shared S0 w0.heap.size w s (zai a) c→w'.heap[c]?=w.heap[c]?:=fun c hc=>hg.block c hc.2.1 (fun e=>hc.2.2 i e.symm)
 have hsub:∀c,Shared S0 w0.heap.size w s (zai a) c→Shared S0 w0.heap.size w' (Ab.put (Ab.put s i .dead) d r) (zai (a.put (some d) v)) c:=by
  intro c hc
  refine⟨hc.1,Nat.lt_of_lt_of_le hc.2.1 hg.size,fun j hj=>?_⟩
  rcases hblk j c hj with⟨_,h⟩ | ⟨_,_,h⟩
  ·rcases hbr c h with h' | h'
   ·exact hc.2.2 i h'
   ·have:=hc.2.1;omega
  ·exact hc.2.2 j h
 refine⟨hR.defers,by simp[Act.put,hR.size],?_,hR.lt,?_,?_,?_,za3 (za3 hR.wf (fun j h=>by cases h)) (fun j h=>by rw[hrf j] at h;cases h),fun j hj=>by rw[htmo j (by omega)];exact hR.pin j hj⟩
 ·exact hR.below.grown hg (fun k hk=>((hR.rep i).zbk hk).1)
 ·intro j
  by_cases hj:j=d
  ·subst hj
   rw[htmd,h2d]
   exact hr _ _ _ hsub
  ·rw[htmo j hj]
   rcases h2 j hj with⟨e,hji,hjr,hjd⟩ | e
   ·rw[e]
    have hks:∀k,(s j).refs k=true→(s k).zaa=true→k≠i∧Ab.put (Ab.put s i .dead) d r k=s k:=by
     intro k hkr hko
     have hki:k≠i:=by rintro rfl;rw[hkr] at hjr;cases hjr
     have hkd:k≠d:=by
      rintro rfl
      rw[hjd hko hki] at hkr;cases hkr
     refine⟨hki,?_⟩
     have h3:Ab.put s i .dead k=s k:=zbn hki hko
     have h4:Ab.put (Ab.put s i .dead) d r k=Ab.put s i .dead k:=zbn hkd (by rw[h3];exact hko)
     rw[h4,h3]
    refine(hR.rep j).mono hsub hold (fun c hc=>?_) (fun k hk=>?_) (fun i' off d' cs b hl hs' hb'=>?_)
    rotate_right
    ·obtain⟨k1,k2⟩:=hks i' (AV.zaO hl).1 (AV.zba hs')
     exact⟨⟨cs,by rw[k2];exact hs',rfl⟩,World.cell?_of_block (hg.block b ((hR.rep i').zbk hb').2 (fun h=>k1 (hR.inj i' i b hb' h.symm)))⟩
    ·exact hg.block c ((hR.rep j).zbk hc).2 (fun h=>hji (hR.inj j i c hc h.symm))
    ·have hkr:=AV.zaL hk
     have hki:k≠i:=by rintro rfl;rw[hkr] at hjr;cases hjr
     have hko:=(hR.rep j).leads hk
     have hkd:k≠d:=by
      rintro rfl
      rw[hjd hko hki] at hkr;cases hkr
     have hks:=(hks k hkr hko).2
     exact⟨htmo k hkd,fun h=>by rw[hks];exact⟨h,rfl,rfl,rfl⟩,fun c hc=>by rw[hks];exact hc⟩
   ·rw[e];trivial
 ·intro j k b hj hk
  rcases hblk j b hj with⟨hj',h3⟩ | ⟨hj',hji,h3⟩<;>rcases hblk k b hk with⟨hk',h4⟩ | ⟨hk',hki,h4⟩
  ·rw[hj',hk']
  ·exfalso
   rcases hbr b h3 with h5 | h5
   ·exact hki (hR.inj k i b h4 h5)
   ·have:=((hR.rep k).zbk h4).2;omega
  ·exfalso
   rcases hbr b h4 with h5 | h5
   ·exact hji (hR.inj j i b h3 h5)
   ·have:=((hR.rep j).zbk h3).2;omega
  ·exact hR.inj j k b h3 h4
 ·intro j hj
  have hjd:j≠d:=by omega
  rcases h2 j hjd with⟨e,_⟩ | e
  ·rw[e];exact hR.out j hj
  ·rw[e];rfl
def zf6(s:St)(j g:Nat)(v:Value)(e z:Nat)(xs:List (List CV)):St:=fun k=>if k=j then .x (.one (.atom v)) else if k=g then .gown v e z xs else if (s k).refs j then .dead else s k
theorem Rel.name{j g e z:Nat}{xs:List (List CV)}(hR:Rel S0 w0 n s a w)(hj:s j=.own e z xs)(hn:n≤g)(hg:(s g).free=true):Rel S0 w0 n (zf6 s j g (zai a j) e z xs) a w:=by
 have hgj:g≠j:=by rintro rfl;rw[hj] at hg;cases hg
 have hjn:j<n:=by
  rcases Nat.lt_or_ge j n with h | h
  ·exact h
  ·have:=hR.out j h;rw[hj] at this;cases this
 have hat:∀k,zf6 s j g (zai a j) e z xs k=if k=j then .x (.one (.atom (zai a j))) else if k=g then .gown (zai a j) e z xs else if (s k).refs j then .dead else s k:=fun _=>rfl
 generalize zf6 s j g (zai a j) e z xs=S at hat
 have hSj:S j=.x (.one (.atom (zai a j))):=by rw[hat,if_pos rfl]
 have hSg:S g=.gown (zai a j) e z xs:=by rw[hat,if_neg hgj,if_pos rfl]
 have hSo:∀k,k≠j→k≠g→S k=.dead∨S k=s k:=by
  intro k h1 h2
  rw[hat,if_neg h1,if_neg h2]
  split
  ·exact .inl rfl
  ·exact .inr rfl
 have hown:∀k,(s k).zaa=true→k≠j→k≠g∧S k=s k:=by
  intro k hk h1
  have h2:k≠g:=by rintro rfl;rw[zcS hg] at hk;cases hk
  refine⟨h2,?_⟩
  rw[hat,if_neg h1,if_neg h2,if_neg]
  intro hr
  rw[zaP hr] at hk;cases hk
 have hblk:∀k b,zaf (S k) (zai a k)=some b→(k=g∧zaf (s j) (zai a j)=some b)∨(k≠g∧k≠j∧zaf (s k) (zai a k)=some b):=by
  intro k b hb
  by_cases h1:k=j
  ·subst h1;rw[hSj] at hb;cases hb
  ·by_cases h2:k=g
   ·subst h2;rw[hSg] at hb;rw[hj];exact .inl ⟨rfl,hb⟩
   ·rcases hSo k h1 h2 with h | h<;>rw[h] at hb
    ·cases hb
    ·exact .inr ⟨h2,h1,hb⟩
 have hsub:∀c,Shared S0 w0.heap.size w s (zai a) c→Shared S0 w0.heap.size w S (zai a) c:=by
  intro c hc
  refine⟨hc.1,hc.2.1,fun k hk=>?_⟩
  rcases hblk k c hk with⟨_,h⟩ | ⟨_,_,h⟩
  ·exact hc.2.2 j h
  ·exact hc.2.2 k h
 have hrj:=hR.rep j
 rw[hj] at hrj
 obtain⟨us,ho,hl,hx,hm,hB⟩:=hrj
 refine⟨hR.defers,hR.size,hR.below,hR.lt,fun k=>?_,fun k m b hk hm'=>?_,fun k hk=>?_,fun k m hkm=>?_,hR.pin⟩
 ·by_cases h1:k=j
  ·subst h1
   rw[hSj]
   refine zaH.atom _ ?_
   rcases ho.2 with⟨h,_⟩ | ⟨_,_,_,h,_⟩<;>rw[h]<;>rfl
  ·by_cases h2:k=g
   ·subst h2
    rw[hSg]
    exact⟨us,ho,hl.mono hsub (fun _ _=>rfl),hx,hm,hB⟩
   ·rcases hSo k h1 h2 with h | h
    ·rw[h];trivial
    ·rw[h]
     have href:∀m,(s k).refs m=true→(s m).zaa=true∧S m=s m:=by
      intro m hm'
      have hmo:=hR.wf k m hm'
      have hmj:m≠j:=by
       rintro rfl
       have:S k=.dead:=by rw[hat,if_neg h1,if_neg h2,if_pos hm']
       rw[h] at this;rw[this] at hm';cases hm'
      exact⟨hmo,(hown m hmo hmj).2⟩
     refine(hR.rep k).mono hsub (fun _ _=>rfl) (fun _ _=>rfl) (fun m hm'=>?_) (fun i' off d' cs b hl' hs' _=>?_)
     ·have:=(href m (AV.zaL hm')).2
      exact⟨rfl,fun h=>by rw[this];exact⟨h,rfl,rfl,rfl⟩,fun c hc=>by rw[this];exact hc⟩
     ·exact⟨⟨cs,by rw[(href i' (AV.zaO hl').1).2];exact hs',rfl⟩,rfl⟩
 ·rcases hblk k b hk with⟨h1,h2⟩ | ⟨h1,h1',h2⟩<;>rcases hblk m b hm' with⟨h3,h4⟩ | ⟨h3,h3',h4⟩
  ·rw[h1,h3]
  ·exact absurd (hR.inj m j b h4 h2) h3'
  ·exact absurd (hR.inj k j b h2 h4) h1'
  ·exact hR.inj k m b h2 h4
 ·by_cases h1:k=j
  ·omega
  ·by_cases h2:k=g
   ·subst h2;rw[hSg];rfl
   ·rcases hSo k h1 h2 with h | h<;>rw[h]
    ·rfl
    ·exact hR.out k hk
 ·by_cases h1:k=j
  ·subst h1;rw[hSj] at hkm;cases hkm
  ·by_cases h2:k=g
   ·subst h2;rw[hSg] at hkm;cases hkm
   ·have hk':(s k).refs m=true∧S k=s k:=by
     rcases hSo k h1 h2 with h | h<;>rw[h] at hkm
     ·cases hkm
     ·exact⟨hkm,h⟩
    have hmo:=hR.wf k m hk'.1
    have hmj:m≠j:=by
     rintro rfl
     have:S k=.dead:=by rw[hat,if_neg h1,if_neg h2,if_pos hk'.1]
     rw[this] at hkm;cases hkm
    rw[(hown m hmo hmj).2]
    exact hmo
def AV.isG:AV→Bool
 |.gown _ _ _ _=>true
 |_=>false
def zmt(s:St):AV→Bool
 |.ptr i _=>(s i).isG
 |.ptr2 i _=>(s i).isG
 |.eptr i _ _=>(s i).isG
 |.alias i=>(s i).isG
 |.view i _ _ _=>(s i).isG
 |.cloR _ _=>true
 |.cond _ v=>zmt s v
 |.link i _ d=>(s i).isG || (s d).isG
 |_=>false
theorem zoL{m:Nat}(hm:(s m).isG=true):∀{v:AV},v.refs m=true→zmt s v=true
 |.ptr i _,h=>by obtain rfl:i=m:=by simpa[AV.refs] using h
                 exact hm
 |.ptr2 i _,h=>by obtain rfl:i=m:=by simpa[AV.refs] using h
                  exact hm
 |.eptr i _ _,h=>by obtain rfl:i=m:=by simpa[AV.refs] using h
                    exact hm
 |.alias i,h=>by obtain rfl:i=m:=by simpa[AV.refs] using h
                 exact hm
 |.view i _ _ _,h=>by obtain rfl:i=m:=by simpa[AV.refs] using h
                      exact hm
 |.cloR _ _,_=>rfl
 |.cond _ v,h=>zoL hm (v:=v) h
 |.link i _ d,h=>by
  simp only[AV.refs,Bool.or_eq_true,beq_iff_eq] at h
  rcases h with rfl | rfl
  ·simp[zmt,hm]
  ·simp[zmt,hm]
def zoq(s:St)(i:Nat)(c:Nat)(bs:List Nat)(es:List (XV×XV)):St:=fun k=>if k=i then .mp c bs es else if (s k).isG || zmt s (s k) then .dead else s k
def zzY(s:St)(es es':List (XV×XV)):Prop:=es'.length=es.length∧∀(j:Nat) (x y:XV×XV),es[j]?=some x→es'[j]?=some y→x.1=y.1∧(x.2=y.2∨∃v g e z xs,x.2=.one (.atom v)∧s g=.gown v e z xs∧y.2=.one (.list z xs))
theorem zqi(c c':Nat)(bs bs':List Nat)(es es':List (XV×XV))(v:Value):zaf (.mp c bs es) v=zaf (.mp c' bs' es') v:=by
 cases v with
 |map r=>cases r<;>rfl
 |_=>rfl
theorem Rel.zoq{i c:Nat}{bs:List Nat}{es es':List (XV×XV)}(hR:Rel S0 w0 n s a w)(hi:s i=.mp c bs es)(he:zzY s es es'):Rel S0 w0 n (zoq s i c bs es') a w:=by
 have hat:∀k,Ab.zoq s i c bs es' k=if k=i then .mp c bs es' else if (s k).isG || zmt s (s k) then .dead else s k:=fun _=>rfl
 generalize Ab.zoq s i c bs es'=S at hat
 have hSi:S i=.mp c bs es':=by rw[hat,if_pos rfl]
 have hSo:∀k,k≠i→S k=.dead∨((s k).isG=false∧zmt s (s k)=false∧S k=s k):=by
  intro k h1
  rw[hat,if_neg h1]
  cases h2:(s k).isG with
  |true=>exact .inl (by simp)
  |false =>
   cases h3:zmt s (s k) with
   |true=>exact .inl (by simp)
   |false=>exact .inr ⟨rfl,rfl,by simp⟩
 have hblk:∀k b,zaf (S k) (zai a k)=some b→(s k).isG=false∧zaf (s k) (zai a k)=some b:=by
  intro k b hb
  by_cases h1:k=i
  ·subst h1;rw[hSi] at hb;rw[hi];exact⟨rfl,by rw[zqi c c bs bs es es'];exact hb⟩
  ·rcases hSo k h1 with h | ⟨h2,_,h⟩<;>rw[h] at hb
   ·cases hb
   ·exact⟨h2,hb⟩
 have hsub:∀c,Shared S0 w0.heap.size w s (zai a) c→Shared S0 w0.heap.size w S (zai a) c:=fun c hc=>⟨hc.1,hc.2.1,fun k hk=>hc.2.2 k (hblk k c hk).2⟩
 have hkeep:∀m,(s m).zaa=true→(s m).isG=false→m≠i→S m=s m:=by
  intro m hmo hmg hmi
  rw[hat,if_neg hmi,hmg]
  have:zmt s (s m)=false:=by cases h:s m<;>rw[h] at hmo<;>first | rfl | cases hmo
  simp[this]
 refine⟨hR.defers,hR.size,hR.below,hR.lt,fun k=>?_,fun k m b hk hm'=>hR.inj k m b (hblk k b hk).2 (hblk m b hm').2,fun k hk=>?_,fun k m hkm=>?_,hR.pin⟩
 ·by_cases h1:k=i
  ·subst h1
   rw[hSi]
   have hr:=hR.rep k
   rw[hi] at hr
   obtain⟨b,ents,hv,hh,hB,hE⟩:=hr
   refine⟨b,ents,hv,hh,hB,hE.1.trans he.1.symm,hE.2.1.trans he.1.symm,fun j y hj=>?_⟩
   have hlt:j<es.length:=by rw[←he.1];exact(List.getElem?_eq_some_iff.1 hj).1
   obtain⟨x,hx⟩:∃x,es[j]?=some x:=⟨_,List.getElem?_eq_getElem hlt⟩
   obtain⟨m,k1,k2,k3,k4⟩:=hE.2.2 j x hx
   obtain⟨e1,e2⟩:=he.2 j x y hx hj
   refine⟨m,k1,k2,by rw[←e1];exact zbL.mono k3 hsub (fun _ _=>rfl),?_⟩
   rcases e2 with e2 | ⟨v,g,e,z,xs,e2,e3,e4⟩
   ·rw[←e2];exact zbL.mono k4 hsub (fun _ _=>rfl)
   ·rw[e4]
    rw[e2] at k4
    have k4:zaH w _ (.atom v) m.val:=k4
    have ev:m.val=v:=by cases k4;rfl
    rw[ev]
    have hg:=hR.rep g
    rw[e3] at hg
    obtain⟨us,ho,hl,hx,hm,hB'⟩:=hg
    refine zg8 ho (hl.mono hsub (fun _ _=>rfl)) hx hm (fun b hb=>⟨.inr (hB' b hb),(ho.lt b hb).2,fun k' hk'=>?_⟩)
    obtain⟨h2,h3⟩:=hblk k' b hk'
    have:=hR.inj k' g b h3 (by rw[e3];exact hb)
    subst this
    rw[e3] at h2;cases h2
  ·rcases hSo k h1 with h | ⟨h2,h3,h⟩
   ·rw[h];trivial
   ·rw[h]
    have href:∀m,(s k).refs m=true→((∀x,S m=.mp c bs x→m=i→(s m).zaa=true)∧(m=i∨S m=s m)):=by
     intro m hm'
     refine⟨fun _ _ _=>hR.wf k m hm',?_⟩
     by_cases hmi:m=i
     ·exact .inl hmi
     ·refine .inr (hkeep m (hR.wf k m hm') ?_ hmi)
      cases hG:(s m).isG with
      |false=>rfl
      |true=>rw[zoL hG hm'] at h3;cases h3
    refine(hR.rep k).mono hsub (fun _ _=>rfl) (fun _ _=>rfl) (fun m hm'=>?_) (fun i' off d' cs b hl' hs' _=>?_)
    ·rcases (href m (AV.zaL hm')).2 with e | e
     ·subst e
      rw[hSi,hi]
      exact⟨rfl,fun _=>⟨rfl,rfl,rfl,rfl⟩,fun c' hc=>by rw[zqi c c bs bs es' es];exact hc⟩
     ·exact⟨rfl,fun h=>by rw[e];exact⟨h,rfl,rfl,rfl⟩,fun c hc=>by rw[e];exact hc⟩
    ·rcases (href i' (AV.zaO hl').1).2 with e | e
     ·subst e;rw[hi] at hs';cases hs'
     ·exact⟨⟨cs,by rw[e];exact hs',rfl⟩,rfl⟩
 ·by_cases h1:k=i
  ·subst h1
   have:=hR.out k hk
   rw[hi] at this;cases this
  ·rcases hSo k h1 with h | ⟨_,_,h⟩<;>rw[h]
   ·rfl
   ·exact hR.out k hk
 ·by_cases h1:k=i
  ·subst h1;rw[hSi] at hkm;cases hkm
  ·rcases hSo k h1 with h | ⟨_,h3,h⟩<;>rw[h] at hkm
   ·cases hkm
   ·have hmo:=hR.wf k m hkm
    by_cases hmi:m=i
    ·subst hmi;rw[hSi];rfl
    ·rw[hkeep m hmo (by cases hG:(s m).isG with
      |false=>rfl
      |true=>rw[zoL hG hkm] at h3;cases h3) hmi]
     exact hmo
def zb7(s:St)(j g e z:Nat)(xs:List (List CV)):St:=fun k=>if k=j then .own e z xs else if k=g then .dead else if (s k).refs g then .dead else s k
theorem Rel.zOb{j g e z:Nat}{v:Value}{xs:List (List CV)}(hR:Rel S0 w0 n s a w)(hj:s j=.x (.one (.atom v)))(hg:s g=.gown v e z xs):Rel S0 w0 n (zb7 s j g e z xs) a w:=by
 have hgj:g≠j:=by rintro rfl;rw[hj] at hg;cases hg
 have hjn:j<n:=by
  rcases Nat.lt_or_ge j n with h | h
  ·exact h
  ·have:=hR.out j h;rw[hj] at this;cases this
 have hv:zai a j=v:=by
  have h:=hR.rep j
  rw[hj] at h
  have h:zaH w _ (.atom v) (zai a j):=h
  generalize zai a j=u at h
  cases h;rfl
 have hat:∀k,zb7 s j g e z xs k=if k=j then .own e z xs else if k=g then .dead else if (s k).refs g then .dead else s k:=fun _=>rfl
 generalize zb7 s j g e z xs=S at hat
 have hSj:S j=.own e z xs:=by rw[hat,if_pos rfl]
 have hSg:S g=.dead:=by rw[hat,if_neg hgj,if_pos rfl]
 have hSo:∀k,k≠j→k≠g→S k=.dead∨((s k).refs g=false∧S k=s k):=by
  intro k h1 h2
  rw[hat,if_neg h1,if_neg h2]
  cases h:(s k).refs g with
  |true=>exact .inl (by simp)
  |false=>exact .inr ⟨rfl,by simp⟩
 have hown:∀k,(s k).zaa=true→k≠g→k≠j∧S k=s k:=by
  intro k hk h1
  have h2:k≠j:=by rintro rfl;rw[hj] at hk;cases hk
  refine⟨h2,?_⟩
  rw[hat,if_neg h2,if_neg h1,if_neg]
  intro hr
  rw[zaP hr] at hk;cases hk
 have hblk:∀k b,zaf (S k) (zai a k)=some b→(k=j∧zaf (s g) (zai a g)=some b)∨(k≠g∧k≠j∧zaf (s k) (zai a k)=some b):=by
  intro k b hb
  by_cases h1:k=j
  ·subst h1;rw[hSj,hv] at hb;rw[hg];exact .inl ⟨rfl,hb⟩
  ·by_cases h2:k=g
   ·subst h2;rw[hSg] at hb;cases hb
   ·rcases hSo k h1 h2 with h | ⟨_,h⟩<;>rw[h] at hb
    ·cases hb
    ·exact .inr ⟨h2,h1,hb⟩
 have hsub:∀c,Shared S0 w0.heap.size w s (zai a) c→Shared S0 w0.heap.size w S (zai a) c:=by
  intro c hc
  refine⟨hc.1,hc.2.1,fun k hk=>?_⟩
  rcases hblk k c hk with⟨_,h⟩ | ⟨_,_,h⟩
  ·exact hc.2.2 g h
  ·exact hc.2.2 k h
 have hrg:=hR.rep g
 rw[hg] at hrg
 obtain⟨us,ho,hl,hx,hm,hB⟩:=hrg
 refine⟨hR.defers,hR.size,hR.below,hR.lt,fun k=>?_,fun k m b hk hm'=>?_,fun k hk=>?_,fun k m hkm=>?_,hR.pin⟩
 ·by_cases h1:k=j
  ·subst h1
   rw[hSj,hv]
   exact⟨us,ho,hl.mono hsub (fun _ _=>rfl),hx,hm,hB⟩
  ·by_cases h2:k=g
   ·subst h2;rw[hSg];trivial
   ·rcases hSo k h1 h2 with h | ⟨h3,h⟩
    ·rw[h];trivial
    ·rw[h]
     have href:∀m,(s k).refs m=true→(s m).zaa=true∧S m=s m:=by
      intro m hm'
      have hmo:=hR.wf k m hm'
      have hmg:m≠g:=by rintro rfl;rw[h3] at hm';cases hm'
      exact⟨hmo,(hown m hmo hmg).2⟩
     refine(hR.rep k).mono hsub (fun _ _=>rfl) (fun _ _=>rfl) (fun m hm'=>?_) (fun i' off' d' cs b hl' hs' _=>?_)
     ·have:=(href m (AV.zaL hm')).2
      exact⟨rfl,fun h=>by rw[this];exact⟨h,rfl,rfl,rfl⟩,fun c hc=>by rw[this];exact hc⟩
     ·exact⟨⟨cs,by rw[(href i' (AV.zaO hl').1).2];exact hs',rfl⟩,rfl⟩
 ·rcases hblk k b hk with⟨h1,h2⟩ | ⟨h1,h1',h2⟩<;>rcases hblk m b hm' with⟨h3,h4⟩ | ⟨h3,h3',h4⟩
  ·rw[h1,h3]
  ·exact absurd (hR.inj m g b h4 h2) h3
  ·exact absurd (hR.inj k g b h2 h4) h1
  ·exact hR.inj k m b h2 h4
 ·by_cases h1:k=j
  ·omega
  ·by_cases h2:k=g
   ·subst h2;rw[hSg];rfl
   ·rcases hSo k h1 h2 with h | ⟨_,h⟩<;>rw[h]
    ·rfl
    ·exact hR.out k hk
 ·by_cases h1:k=j
  ·subst h1;rw[hSj] at hkm;cases hkm
  ·by_cases h2:k=g
   ·subst h2;rw[hSg] at hkm;cases hkm
   ·rcases hSo k h1 h2 with h | ⟨h3,h⟩<;>rw[h] at hkm
    ·cases hkm
    ·have hmo:=hR.wf k m hkm
     have hmg:m≠g:=by rintro rfl;rw[h3] at hkm;cases hkm
     rw[(hown m hmo hmg).2]
     exact hmo
def zgY(s:St)(j g b c:Nat)(bs:List Nat)(es:List (XV×XV)):St:=fun k=>if k=j then .x (.one (.atom (.map (some b)))) else if k=g then .gmap b c bs es else if (s k).refs j then .dead else s k
theorem Rel.zmq{j g c:Nat}{bs:List Nat}{es:List (XV×XV)}(hR:Rel S0 w0 n s a w)(hj:s j=.mp c bs es)(hn:n≤g)(hg:(s g).free=true):∃b,Rel S0 w0 n (zgY s j g b c bs es) a w:=by
 have hgj:g≠j:=by rintro rfl;rw[hj] at hg;cases hg
 have hjn:j<n:=by
  rcases Nat.lt_or_ge j n with h | h
  ·exact h
  ·have:=hR.out j h;rw[hj] at this;cases this
 have hrj:=hR.rep j
 rw[hj] at hrj
 obtain⟨b,ents,hv,hh,hB,hE⟩:=hrj
 refine⟨b,?_⟩
 have hat:∀k,zgY s j g b c bs es k=if k=j then .x (.one (.atom (.map (some b)))) else if k=g then .gmap b c bs es else if (s k).refs j then .dead else s k:=fun _=>rfl
 generalize zgY s j g b c bs es=S at hat
 have hSj:S j=.x (.one (.atom (.map (some b)))):=by rw[hat,if_pos rfl]
 have hSg:S g=.gmap b c bs es:=by rw[hat,if_neg hgj,if_pos rfl]
 have hSo:∀k,k≠j→k≠g→S k=.dead∨S k=s k:=by
  intro k h1 h2
  rw[hat,if_neg h1,if_neg h2]
  split
  ·exact .inl rfl
  ·exact .inr rfl
 have hown:∀k,(s k).zaa=true→k≠j→k≠g∧S k=s k:=by
  intro k hk h1
  have h2:k≠g:=by rintro rfl;rw[zcS hg] at hk;cases hk
  refine⟨h2,?_⟩
  rw[hat,if_neg h1,if_neg h2,if_neg]
  intro hr
  rw[zaP hr] at hk;cases hk
 have hbj:zaf (s j) (zai a j)=some b:=by rw[hj,hv];rfl
 have hblk:∀k b',zaf (S k) (zai a k)=some b'→(k=g∧zaf (s j) (zai a j)=some b')∨(k≠g∧k≠j∧zaf (s k) (zai a k)=some b'):=by
  intro k b' hb
  by_cases h1:k=j
  ·subst h1;rw[hSj] at hb;cases hb
  ·by_cases h2:k=g
   ·subst h2;rw[hSg] at hb
    have:b=b':=by simpa[zaf] using hb
    subst this
    exact .inl ⟨rfl,hbj⟩
   ·rcases hSo k h1 h2 with h | h<;>rw[h] at hb
    ·cases hb
    ·exact .inr ⟨h2,h1,hb⟩
 have hsub:∀c,Shared S0 w0.heap.size w s (zai a) c→Shared S0 w0.heap.size w S (zai a) c:=by
  intro c hc
  refine⟨hc.1,hc.2.1,fun k hk=>?_⟩
  rcases hblk k c hk with⟨_,h⟩ | ⟨_,_,h⟩
  ·exact hc.2.2 j h
  ·exact hc.2.2 k h
 refine⟨hR.defers,hR.size,hR.below,hR.lt,fun k=>?_,fun k m b hk hm'=>?_,fun k hk=>?_,fun k m hkm=>?_,hR.pin⟩
 ·by_cases h1:k=j
  ·subst h1
   rw[hSj,hv]
   exact zaH.atom _ rfl
  ·by_cases h2:k=g
   ·subst h2
    rw[hSg]
    exact⟨ents,hh,hB,hE.mono hsub (fun _ _=>rfl)⟩
   ·rcases hSo k h1 h2 with h | h
    ·rw[h];trivial
    ·rw[h]
     have href:∀m,(s k).refs m=true→(s m).zaa=true∧S m=s m:=by
      intro m hm'
      have hmo:=hR.wf k m hm'
      have hmj:m≠j:=by
       rintro rfl
       have:S k=.dead:=by rw[hat,if_neg h1,if_neg h2,if_pos hm']
       rw[h] at this;rw[this] at hm';cases hm'
      exact⟨hmo,(hown m hmo hmj).2⟩
     refine(hR.rep k).mono hsub (fun _ _=>rfl) (fun _ _=>rfl) (fun m hm'=>?_) (fun i' off d' cs b hl' hs' _=>?_)
     ·have:=(href m (AV.zaL hm')).2
      exact⟨rfl,fun h=>by rw[this];exact⟨h,rfl,rfl,rfl⟩,fun c hc=>by rw[this];exact hc⟩
     ·exact⟨⟨cs,by rw[(href i' (AV.zaO hl').1).2];exact hs',rfl⟩,rfl⟩
 ·rcases hblk k b hk with⟨h1,h2⟩ | ⟨h1,h1',h2⟩<;>rcases hblk m b hm' with⟨h3,h4⟩ | ⟨h3,h3',h4⟩
  ·rw[h1,h3]
  ·exact absurd (hR.inj m j b h4 h2) h3'
  ·exact absurd (hR.inj k j b h2 h4) h1'
  ·exact hR.inj k m b h2 h4
 ·by_cases h1:k=j
  ·omega
  ·by_cases h2:k=g
   ·subst h2;rw[hSg];rfl
   ·rcases hSo k h1 h2 with h | h<;>rw[h]
    ·rfl
    ·exact hR.out k hk
 ·by_cases h1:k=j
  ·subst h1;rw[hSj] at hkm;cases hkm
  ·by_cases h2:k=g
   ·subst h2;rw[hSg] at hkm;cases hkm
   ·have hk':(s k).refs m=true∧S k=s k:=by
     rcases hSo k h1 h2 with h | h<;>rw[h] at hkm
     ·cases hkm
     ·exact⟨hkm,h⟩
    have hmo:=hR.wf k m hk'.1
    have hmj:m≠j:=by
     rintro rfl
     have:S k=.dead:=by rw[hat,if_neg h1,if_neg h2,if_pos hk'.1]
     rw[this] at hkm;cases hkm
    rw[(hown m hmo hmj).2]
    exact hmo
def partAt(a:Bool)(v:Value)(i:Nat):Value:=match a,v with
 |true,.agg us=>us.getD i v
 |_,v=>v
theorem ziQ{A:Bool}{cs:List CV}{v:Value}{S:Nat→Prop}(h:zbL w S (zm8 A cs) v)(hl:A=true∨cs.length=1):zBH A ((List.range cs.length).map (partAt A v)) v∧∀(i:Nat) (c:CV),cs[i]?=some c→zaH w S c (partAt A v i):=by
 cases A with
 |true =>
  obtain⟨us,rfl,hr⟩:=(h:zbL w S (.agg cs) v)
  have hlen:us.size=cs.length:=by have:=hr.1;simpa using this
  refine⟨?_,fun i c hc=>?_⟩
  ·show Value.agg us=.agg _
   congr 1
   apply Array.ext
   ·simp[hlen]
   ·intro i h1 h2
    simp[partAt,h1]
  ·obtain⟨u,hu,hru⟩:=hr.2 i c hc
   have:us[i]?=some u:=by simpa using hu
   simp only[partAt,Array.getD_eq_getD_getElem?,this,Option.getD_some]
   exact hru
 |false =>
  obtain⟨c,rfl⟩:=List.length_eq_one_iff.1 (hl.resolve_left (by simp))
  have h:zaH w S c v:=h
  refine⟨rfl,fun i c' hc=>?_⟩
  match i,hc with
  |0,hc=>cases hc;exact h
  |i+1,hc=>simp at hc
theorem zzE{S:Nat→Prop}{b c:Nat}{bs:List Nat}{ents:Array MapEntry}{ka va:Bool}{ks vs:List (List CV)}(hs:S b)(hh:w.heap[b]?=some (.map ents c))(he:zvw w S bs (mvE ka va ks vs) ents.toList)(hlen:vs.length=ks.length)
  (hk:ka=true∨∀k∈ks,k.length=1)(hv:va=true∨∀k∈vs,k.length=1):zaH w S (.mapv ka va ks vs) (.map (some b)):=by
 have hml:(mvE ka va ks vs).length=ks.length:=by simp[mvE,hlen]
 have hen:ents.size=ks.length:=by have:=he.1;rw[hml] at this;simpa using this
 have hat:∀(j:Nat) (k v:List CV),ks[j]?=some k→vs[j]?=some v→∃e,ents.toList[j]?=some e∧zbL w S (zm8 ka k) e.key∧zbL w S (zm8 va v) e.val:=by
  intro j k v h1 h2
  obtain⟨e,e1,_,e3,e4⟩:=he.2.2 j (zm8 ka k,zm8 va v) (by
   unfold mvE
   rw[List.getElem?_map]
   have:(ks.zip vs)[j]?=some (k,v):=by rw[List.getElem?_zip_eq_some];exact⟨h1,h2⟩
   rw[this];rfl)
  exact⟨e,e1,e3,e4⟩
 have hks:∀(j:Nat) (k:List CV),ks[j]?=some k→∃e,ents.toList[j]?=some e∧zbL w S (zm8 ka k) e.key:=by
  intro j k h1
  have hj:=(List.getElem?_eq_some_iff.1 h1).1
  obtain⟨e,e1,e2,_⟩:=hat j k _ h1 (List.getElem?_eq_getElem (by omega))
  exact⟨e,e1,e2⟩
 have hvs:∀(j:Nat) (v:List CV),vs[j]?=some v→∃e,ents.toList[j]?=some e∧zbL w S (zm8 va v) e.val:=by
  intro j k h1
  have hj:=(List.getElem?_eq_some_iff.1 h1).1
  obtain⟨e,e1,_,e2⟩:=hat j _ k (List.getElem?_eq_getElem (by omega)) h1
  exact⟨e,e1,e2⟩
 have hget:∀(j:Nat) (e d:MapEntry),ents.toList[j]?=some e→ents.toList.getD j d=e:=by
  intro j e d h
  rw[List.getD_eq_getElem?_getD,h];rfl
 have hkl:∀k∈ks,ka=true∨k.length=1:=fun k hk'=>hk.imp id (fun h=>h k hk')
 have hvl:∀k∈vs,va=true∨k.length=1:=fun k hk'=>hv.imp id (fun h=>h k hk')
 refine .mapv b c ents ka va ks vs (fun j=>partAt ka (ents.toList.getD j ⟨undef,undef,0⟩).key) (fun j=>partAt va (ents.toList.getD j ⟨undef,undef,0⟩).val) hs hh hen hlen (fun j k h1=>?_) (fun j k h1=>?_) (fun j k i c h1 h2=>?_) (fun j k i c h1 h2=>?_)
 ·obtain⟨e,e1,e2⟩:=hks j k h1
  refine⟨e,e1,?_⟩
  rw[hget j e _ e1]
  exact(ziQ e2 (hkl k (List.mem_of_getElem? h1))).1
 ·obtain⟨e,e1,e2⟩:=hvs j k h1
  refine⟨e,e1,?_⟩
  rw[hget j e _ e1]
  exact(ziQ e2 (hvl k (List.mem_of_getElem? h1))).1
 ·obtain⟨e,e1,e2⟩:=hks j k h1
  rw[hget j e _ e1]
  exact(ziQ e2 (hkl k (List.mem_of_getElem? h1))).2 i c h2
 ·obtain⟨e,e1,e2⟩:=hvs j k h1
  rw[hget j e _ e1]
  exact(ziQ e2 (hvl k (List.mem_of_getElem? h1))).2 i c h2
end
end Go.Ab
namespace Go.Ab
open Go Go.RowKit
variable [Amb]
theorem zlK{s:St}{tm:Nat→Value}{i e size:Nat}{xs:List (List CV)}{S S':Nat→Prop}{B:Nat→Prop}{w:World}{lo len:Nat}{wh:Bool}{v:Value}{us:List Value}(hs:s i=.own e size xs)(h:zaQ w S' B s tm (.view i lo len wh) v)
  (hown:w.zdS 0 e size (tm i) xs.length us)(hl:zbP w S xs.flatten us)(hx:∀x∈xs,x.length=size)(hS:∀b,(tm i).ownBlock=some b→S b):zaH w S (.list size ((xs.drop lo).take len)) v:=by
 obtain⟨_,hle,hv⟩:=h
 rw[hs] at hle
 have hle':lo+len≤xs.length:=hle
 have hwl:((xs.drop lo).take len).length=len:=by rw[List.length_take,List.length_drop];omega
 rcases hv with⟨rfl,h0⟩ | ⟨b,off,cap,rfl,hc,hm,hk,hz,_⟩
 ·have:(xs.drop lo).take len=[]:=List.eq_nil_of_length_eq_zero (by omega)
  rw[this]
  exact .list0 none 0 size (by simp) (fun _=>rfl)
 ·by_cases h0:len=0
  ·have:(xs.drop lo).take len=[]:=List.eq_nil_of_length_eq_zero (by omega)
   rw[this,h0]
   exact .list0 (some _) cap size hm (fun h=>by cases h)
  ·have hoff:=hz (by omega)
   rw[hs] at hk hoff
   have hb:(tm i).ownBlock=some b:=hk
   have hoff':off=lo*size:=hoff
   have hat:∀(j:Nat) (c:CV),((xs.drop lo).take len).flatten[j]?=some c→xs.flatten[lo*size+j]?=some c:=by
    intro j c hj
    rw[zcN (fun x hx'=>hx x (List.mem_of_mem_drop hx')),zdF hx,List.getElem?_take,List.getElem?_drop] at hj
    split at hj
    ·exact hj
    ·cases hj
   have hcell:∀(j:Nat) (c:CV),xs.flatten[j]?=some c→∃u,us[j]?=some u∧zaH w S c u∧w.cell? ⟨b,j,none⟩=some u:=by
    intro j c hj
    obtain⟨u,hu,hr⟩:=hl.2 j c hj
    have:=hown.cells hb j u hu
    rw[zaJ,Nat.zero_add] at this
    exact⟨u,hu,hr,this⟩
   rw[show Value.slice (some ⟨b,off,none⟩) len cap=Value.slice (some ⟨b,off,none⟩) ((xs.drop lo).take len).length cap by rw[hwl]]
   refine .list ⟨b,off,none⟩ cap size ((xs.drop lo).take len) (fun j=>us.getD (lo*size+j) undef) (hS b hb) rfl (by omega) hm (fun x hx'=>hx x (List.mem_of_mem_drop (List.mem_of_mem_take hx'))) (fun j c hj=>?_) (fun j c hj=>?_)
   ·obtain⟨u,hu,_,hc⟩:=hcell _ c (hat j c hj)
    rw[zaJ,hoff',List.getD_eq_getElem?_getD,hu]
    exact hc
   ·obtain⟨u,hu,hr,_⟩:=hcell _ c (hat j c hj)
    simp only[List.getD_eq_getElem?_getD,hu,Option.getD_some]
    exact hr
theorem zjX{s:St}{tm:Nat→Value}{i e size:Nat}{xs:List (List CV)}{S S':Nat→Prop}{B:Nat→Prop}{w:World}{lo len:Nat}{v:Value}{us:List Value}(hs:s i=.own e size xs)(h:zaQ w S' B s tm (.view i lo len true) v)
  (hown:w.zdS 0 e size (tm i) xs.length us)(hl:zbP w S xs.flatten us)(hx:∀x∈xs,x.length=size) :
  w.zdS 0 e size v (xs.take len).length (us.take (len*size))∧(∀b,v.ownBlock=some b→(tm i).ownBlock=some b)∧zbP w S (xs.take len).flatten (us.take (len*size))∧len≤xs.length:=by
 obtain⟨_,hle,hvv⟩:=h
 rw[hs] at hle
 have hle':lo+len≤xs.length:=hle
 have hul:us.length=xs.length*size:=hown.1
 have hmul:len*size≤xs.length*size:=Nat.mul_le_mul_right _ (by omega)
 have htl:(xs.take len).length=len:=by rw[List.length_take];omega
 have hlt:zbP w S (xs.take len).flatten (us.take (len*size)):=by
  rw[zcN hx len]
  refine⟨by simp only[List.length_take,hul,zbv hx],fun j c hj=>?_⟩
  rw[List.getElem?_take] at hj ⊢
  split at hj
  ·rename_i hlt;rw[if_pos hlt];exact hl.2 _ _ hj
  ·cases hj
 rw[htl]
 rcases hvv with⟨h1,h0⟩ | ⟨bb,off,cap,h1,hc,hmm,hk',_,hw⟩
 ·subst h0;rw[h1];exact⟨by simpa using World.zfk w 0 e size,fun b h=>(by cases h),hlt,by omega⟩
 ·obtain⟨_,l,htm⟩:=hw rfl
  rw[hs] at htm
  have htm:tm i=_:=htm
  rw[h1]
  rcases hown.2 with⟨hn,_⟩ | ⟨g,cap',cur,hv',_,hh,hnc,hcm,hcs,htake⟩
  ·rw[htm] at hn;cases hn
  ·rw[htm] at hv'
   simp only[Value.slice.injEq,Option.some.injEq,Addr.mk.injEq] at hv'
   obtain⟨⟨rfl,rfl,_⟩,rfl,rfl⟩:=hv'
   refine⟨⟨by rw[List.length_take,hul];omega,.inr ⟨bb,cap,cur,rfl,Nat.zero_le _,hh,hc,hmm,hcs,?_⟩⟩,fun b h=>by rw[htm];exact h,hlt,by omega⟩
   rw[←htake,List.take_take]
   congr 1;omega
def zMW(s:St):CV ⊕ (Nat×Nat)→Option CV
 |.inl c=>some c
 |.inr (i,off)=>match s i with
  |.box cs=>bif decide (off<1000000) then some (.ref (cs.drop off)) else none
  |_=>none
def zhm(s:St):List (CV ⊕ (Nat×Nat))→Option (List CV)
 |[]=>some []
 |c::r=>match zMW s c,zhm s r with
  |some x,some xs=>some (x::xs)
  |_,_=>none
def zcq:CV ⊕ (Nat×Nat)→Option Nat
 |.inl _=>none
 |.inr p=>some p.1
def argX(s:St)(x:Operand):Prop×Option XV:=
 match sv s x with
 |(p,.x xv)=>(p,some xv)
 |(p,.alias i)=>match s i with
  |.own _ size xs=>(p,some (.one (.list size xs)))
  |_=>(False,none)
 |(p,.view i lo len _)=>match s i with
  |.own _ size xs=>(p,some (.one (.list size ((xs.drop lo).take len))))
  |_=>(False,none)
 |(p,.elem cs)=>(p,some (.one (.ref cs)))
 |(p,.cloR f caps)=>match zhm s caps with
  |some cs=>(p,some (.one (.clo f cs)))
  |none=>(False,none)
 |_=>(False,none)
section
variable {P:Program}{S0:Env}{w0 w:World}{n:Nat}{s:St}{a:Act}
def zvv(S0:Env)(B:Nat)(w:World):Nat→Prop:=fun b=>(S0.rd b∨OwnB S0 B b)∧b<w.heap.size
theorem zsy{S S' B:Nat→Prop}{tm:Nat→Value}{cs:List CV}{v:Value}(h:zaQ w S B s tm (.elem cs) v)(hS:∀b,S b→S' b):zaH w S' (.ref cs) v:=by
 obtain⟨ad,rfl,hsp,hs,hc⟩:=h
 refine .ref ad cs (fun j=>(w.cell? (ad.add j)).getD undef) (hS _ hs) hsp (fun j c hj=>?_) (fun j c hj=>?_)
 ·obtain⟨u,hu,_⟩:=hc j c hj;rw[hu];rfl
 ·obtain⟨u,hu,hr⟩:=hc j c hj;rw[hu];exact hr.mono hS (fun _ _=>rfl)
theorem zof(hR:Rel S0 w0 n s a w){S:Nat→Prop}(hS:∀b,Shared S0 w0.heap.size w s (zai a) b→S b):∀{caps:List (CV ⊕ (Nat×Nat))} {cs:List CV} {us:List Value},(∀i,i∈caps.filterMap zcq→∀b,zaf (s i) (zai a i)=some b→S b)→zhm s caps=some cs→us.length=caps.length →
  (∀(j:Nat) (c:CV ⊕ (Nat×Nat)),caps[j]?=some c→∃u,us[j]?=some u∧ziY w (Shared S0 w0.heap.size w s (zai a)) s (zai a) c u)→zbP w S cs us∧cs.length=caps.length
 |[],cs,us,_,h,hl,_=>by
  simp[zhm] at h;subst h
  exact⟨⟨by simpa using hl,fun j c hj=>by simp at hj⟩,rfl⟩
 |c::r,cs,us,hb,h,hl,hc=>by
  simp only[zhm] at h
  split at h
  ·rename_i x xs e1 e2
   injection h with h
   subst h
   cases us with
   |nil=>simp at hl
   |cons u us =>
    obtain⟨u',hu',hcu⟩:=hc 0 c rfl
    simp at hu'
    subst hu'
    have hsub:∀i,i∈r.filterMap zcq→i∈(c::r).filterMap zcq:=by
     intro i hi
     rw[List.filterMap_cons]
     split
     ·exact hi
     ·exact List.mem_cons_of_mem _ hi
    obtain⟨h1,h2⟩:=zof hR hS (us:=us) (fun i hi=>hb i (hsub i hi)) e2 (by simpa using hl) (fun j c' hj=>by simpa using hc (j+1) c' (by simpa using hj))
    have hx:zaH w S x u:=by
     cases c with
     |inl c0 =>
      simp only[zMW] at e1
      injection e1 with e1
      subst e1
      exact zaH.mono hcu hS (fun _ _=>rfl)
     |inr q =>
      obtain⟨i,off⟩:=q
      simp only[zMW] at e1
      split at e1
      ·rename_i bs hs
       by_cases hoff:off<1000000
       case neg=>simp[hoff] at e1
       simp only[hoff,decide_true,cond_true] at e1
       injection e1 with e1
       subst e1
       rw[zbF,if_pos hoff] at hcu
       obtain⟨b,hub,hbk⟩:=hcu
       subst hub
       have hi:=hR.rep i
       rw[hs] at hi
       obtain⟨b',arr,ty,hv,hh,hrl,hO⟩:=hi
       have hbb:b'=b:=by
        rw[hs,hv] at hbk
        simpa[zaf] using hbk
       subst hbb
       have hin:=hb i (by rw[List.filterMap_cons];simp[zcq]) b' hbk
       refine .ref ⟨b',off,none⟩ (bs.drop off) (fun j=>(w.cell? ((⟨b',off,none⟩:Addr).add j)).getD undef) hin rfl (fun j c hj=>?_) (fun j c hj=>?_)
       ·obtain⟨v,hv',_⟩:=zfA hh hrl off j c hj;rw[hv'];rfl
       ·obtain⟨v,hv',hr'⟩:=zfA hh hrl off j c hj;rw[hv'];exact hr'.mono hS (fun _ _=>rfl)
      ·cases e1
    refine⟨⟨by simp[h1.1],fun j c' hj=>?_⟩,by simp[h2]⟩
    cases j with
    |zero=>simp at hj;subst hj;exact⟨u,rfl,hx⟩
    |succ j=>simp at hj;simpa using h1.2 j c' hj
  ·cases h
theorem zaH.zEF{S:Nat→Prop}{f:FuncId}{cs:List CV}{us:Array Value}(h:zbP w S cs us.toList):zaH w S (.clo f cs) (.func (.func f) #[] us):=by
 have e:us=((List.range cs.length).map fun j=>us.toList.getD j undef).toArray:=by
  have hl:us.toList.length=cs.length:=h.1
  apply Array.ext'
  apply List.ext_getElem?
  intro j
  simp only[List.getElem?_map]
  rcases Nat.lt_or_ge j cs.length with hj | hj
  ·rw[List.getElem?_range hj]
   simp[List.getD_eq_getElem?_getD,show j<us.size by simpa using (hl▸hj:j<us.toList.length)]
  ·rw[List.getElem?_eq_none (by rw[hl];exact hj),List.getElem?_eq_none (by simpa using hj)]
   rfl
 rw[e]
 refine .clo f cs _ (fun j c hj=>?_)
 obtain⟨u,hu,hr⟩:=h.2 j c hj
 rw[List.getD_eq_getElem?_getD,hu]
 exact hr
theorem zxD(hR:Rel S0 w0 n s a w){x:Operand}{p:Prop}{xv:XV}(h:argX s x=(p,some xv))(hp:p):zbL w (zvv S0 w0.heap.size w) xv (a.eval x):=by
 have hsv:=hR.sv x
 unfold argX at h
 split at h
 ·rename_i q xv' e
  simp only[Prod.mk.injEq,Option.some.injEq] at h
  obtain⟨rfl,rfl⟩:=h
  rw[e] at hsv
  exact zbL.mono (hsv hp) (fun b hb=>⟨hb.1,hb.2.1⟩) (fun _ _=>rfl)
 ·rename_i q i e
  split at h
  ·rename_i e' size xs hs
   simp only[Prod.mk.injEq,Option.some.injEq] at h
   obtain⟨rfl,rfl⟩:=h
   rw[e] at hsv
   obtain⟨hv,_⟩:=zaQ.zdO (hsv hp) hs
   have hi:=hR.rep i
   rw[hs] at hi
   obtain⟨us,hown,hl,hx,hm,hO⟩:=hi
   rw[hv]
   exact zg8 hown (hl.mono (fun b hb=>⟨hb.1,hb.2.1⟩) (fun _ _=>rfl)) hx hm (fun b hb=>⟨.inr (hO b hb),(hown.lt b hb).2⟩)
  ·simp at h
 ·rename_i q i lo len wh e
  split at h
  ·rename_i e' size xs hs
   simp only[Prod.mk.injEq,Option.some.injEq] at h
   obtain⟨rfl,rfl⟩:=h
   rw[e] at hsv
   have hi:=hR.rep i
   rw[hs] at hi
   obtain⟨us,hown,hl,hx,hm,hO⟩:=hi
   exact zlK hs (hsv hp) hown (hl.mono (fun b hb=>⟨hb.1,hb.2.1⟩) (fun _ _=>rfl)) hx (fun b hb=>⟨.inr (hO b hb),(hown.lt b hb).2⟩)
  ·simp at h
 ·rename_i q cs e
  simp only[Prod.mk.injEq,Option.some.injEq] at h
  obtain⟨rfl,rfl⟩:=h
  rw[e] at hsv
  exact zsy (hsv hp) (fun b hb=>⟨hb.1,hb.2.1⟩)
 ·rename_i q f caps e
  split at h
  ·rename_i cs hcs
   simp only[Prod.mk.injEq,Option.some.injEq] at h
   obtain⟨rfl,rfl⟩:=h
   rw[e] at hsv
   obtain⟨us,hv,hsz,hcap⟩:=hsv hp
   rw[hv]
   refine zaH.zEF (zof hR (fun b hb=>⟨hb.1,hb.2.1⟩) (fun i _ b hb=>?_) hcs (by simpa using hsz) (fun j c hj=>by simpa using hcap j c hj)).1
   exact⟨.inr ((hR.rep i).zbk hb).1,((hR.rep i).zbk hb).2⟩
  ·simp at h
 ·simp at h
def zj6(s:St)(i o:Nat)(c:CV):CV:=
 match c with
 |.any=>match s (LK i o) with
  |.link i' o' d=>match i'==i&&o'==o with
   |true=>match s d with
    |.own _ z xs=>.list z xs
    |_=>.any
   |false=>.any
  |_=>.any
 |c=>c
def zca(s:St)(i:Nat):Nat→List CV→List CV
 |_,[]=>[]
 |o,c::r=>zj6 s i o c::zca s i (o+1) r
theorem zgW{s:St}{i:Nat}:∀{cs:List CV} {o j:Nat} {c:CV},(zca s i o cs)[j]?=some c→∃c',cs[j]?=some c'∧c=zj6 s i (o+j) c'
 |[],o,j,c,h=>by simp[zca] at h
 |x::r,o,0,c,h=>by simp[zca] at h;subst h;exact⟨x,rfl,rfl⟩
 |x::r,o,j+1,c,h=>by
  simp only[zca,List.getElem?_cons_succ] at h
  obtain⟨c',h1,h2⟩:=zgW h
  exact⟨c',by simpa using h1,by rw[h2];congr 1;omega⟩
theorem zzK(s:St)(i o:Nat)(c:CV):zj6 s i o c=c∨∃d e z xs,c=.any∧s (LK i o)=.link i o d∧s d=.own e z xs∧zj6 s i o c=.list z xs:=by
 unfold zj6
 split
 ·split
  ·rename_i i' o' d hs
   split
   ·rename_i h
    simp only[Bool.and_eq_true,beq_iff_eq] at h
    obtain⟨rfl,rfl⟩:=h
    split
    ·rename_i e z xs hd
     exact .inr ⟨d,e,z,xs,rfl,hs,hd,rfl⟩
    ·exact .inl rfl
   ·exact .inl rfl
  ·exact .inl rfl
 ·exact .inl rfl
theorem zAi(hR:Rel S0 w0 n s a w){i o b:Nat}{cs:List CV}{arr:Array Value}{t:TypeId}{c:CV}{u:Value}(hs:s i=.box cs)(hv:zai a i=.pointer (some ⟨b,0,none⟩))(hh:w.heap[b]?=some (.cells arr t (0,0)))(hu:arr[o]?=some u)(hr:zaH w (Shared S0 w0.heap.size w s (zai a)) c u) :
  zaH w (zvv S0 w0.heap.size w) (zj6 s i o c) u:=by
 rcases zzK s i o c with e | ⟨d,e',z,xs,e1,e2,e3,e4⟩
 ·rw[e];exact zaH.mono hr (fun b hb=>⟨hb.1,hb.2.1⟩) (fun _ _=>rfl)
 ·rw[e4]
  have hl:=hR.rep (LK i o)
  rw[e2] at hl
  obtain⟨_,cs2,b2,k1,_,k3,k4⟩:=hl
  rw[hs,hv] at k3
  have:b2=b:=by
   have:some b=some b2:=k3
   injection this with this;exact this.symm
  subst this
  rw[cell_of_row w b2 o arr t (0,0) hh,hu] at k4
  injection k4 with k4
  have hd:=hR.rep d
  rw[e3] at hd
  obtain⟨us,hown,hl,hx,hm,hO⟩:=hd
  rw[e3] at k4
  have k4:u=zai a d:=k4
  rw[k4]
  exact zg8 hown (hl.mono (fun b hb=>⟨hb.1,hb.2.1⟩) (fun _ _=>rfl)) hx hm (fun b hb=>⟨.inr (hO b hb),(hown.lt b hb).2⟩)
def zo9(s:St)(x:Operand):Bool:=
 match (sv s x).2 with
 |.ptr i _=>!(s i).told
 |_=>false
def zNv(s:St)(x:Operand):Prop×Option XV:=
 match sv s x with
 |(p,.ptr i off)=>match s i with
  |.box cs=>(p,some (.one (.ref (zca s i off (cs.drop off)))))
  |_=>(False,none)
 |_=>argX s x
theorem zHF(hR:Rel S0 w0 n s a w){x:Operand}{p:Prop}{xv:XV}(h:zNv s x=(p,some xv))(hp:p):zbL w (zvv S0 w0.heap.size w) xv (a.eval x):=by
 unfold zNv at h
 split at h
 ·rename_i q i off e
  split at h
  ·rename_i cs hs
   simp only[Prod.mk.injEq,Option.some.injEq] at h
   obtain⟨rfl,rfl⟩:=h
   have hsv:=hR.sv x (by rw[e];exact hp)
   rw[e] at hsv
   obtain⟨b,hv,hk⟩:=hsv
   have hi:=hR.rep i
   rw[hs] at hi hk
   obtain⟨b',arr,t,hv',hh,hl,hB⟩:=hi
   rw[hv'] at hk
   obtain rfl:b'=b:=by simpa[zaf] using hk
   rw[hv]
   refine zaH.ref ⟨b',off,none⟩ _ (fun j=>(w.cell? ((⟨b',off,none⟩:Addr).add j)).getD undef) ⟨.inr hB,(Array.getElem?_eq_some_iff.1 hh).1⟩ rfl (fun j c hj=>?_) (fun j c hj=>?_)
   ·obtain⟨c',h1,_⟩:=zgW hj
    obtain⟨u,hu,_⟩:=zfA hh hl off j c' h1
    rw[hu];rfl
   ·obtain⟨c',h1,h2⟩:=zgW hj
    rw[List.getElem?_drop] at h1
    obtain⟨u,hu,hr⟩:=hl.2 _ _ h1
    have hu':arr[off+j]?=some u:=by simpa using hu
    have hcell:w.cell? ((⟨b',off,none⟩:Addr).add j)=some u:=by
     rw[zaJ,cell_of_row w b' (off+j) arr t (0,0) hh];exact hu'
    rw[hcell,h2]
    exact zAi hR hs hv' hh hu' hr
  ·simp at h
 ·exact zxD hR h hp
theorem zgz{a:AV}:((∃e size xs,a=.own e size xs)∨∃cs,a=.box cs)∨zcW a=a:=by
 cases a with
 |own e size xs=>exact .inl (.inl ⟨e,size,xs,rfl⟩)
 |box cs=>exact .inl (.inr ⟨cs,rfl⟩)
 |_=>exact .inr rfl
theorem zt8(hR:Rel S0 w0 n s a w)(i:Nat):Rel S0 w0 n (freeze s i) a w:=by
 rcases zgz (a:=s i) with hs | hs
 ·exact hR.freeze hs
 ·have hi:freeze s i i=s i:=by unfold freeze;simp[hs]
  have ho:∀j,j≠i→(s j).refs i=false→freeze s i j=s j:=by intro j hj hr;unfold freeze;simp[hj,hr]
  have hnb:∀cs,s i≠.box cs:=fun cs e=>by rw[e] at hs;cases hs
  have hk:∀j,j≠i→(s j).refs i=true→freeze s i j=.dead:=by intro j hj hr;unfold freeze;simp[hj,hr,zqV _ hnb]
  refine hR.forget (fun j=>?_) (fun j k hjk=>?_)
  ·by_cases hj:j=i
   ·subst hj;exact .inl hi
   ·cases hr:(s j).refs i with
    |true=>exact .inr (hk j hj hr)
    |false=>exact .inl (ho j hj hr)
  ·by_cases hki:k=i
   ·subst hki;exact hi
   ·have hsj:freeze s i j=s j:=by
     by_cases hj:j=i
     ·subst hj;exact hi
     ·cases hr:(s j).refs i with
      |true=>rw[hk j hj hr] at hjk;cases hjk
      |false=>exact ho j hj hr
    rw[hsj] at hjk
    have hko:=hR.wf j k hjk
    refine ho k hki ?_
    cases hr:(s k).refs i with
    |true=>rw[zaP hr] at hko;cases hko
    |false=>rfl
def zib:AV→List Nat
 |.alias i=>[i]
 |.view i _ _ _=>[i]
 |.cloR _ caps=>caps.filterMap zcq
 |_=>[]
def zaX(s:St):List Operand→List Nat
 |[]=>[]
 |x::r=>zib (sv s x).2++zaX s r
def ztr:AV→List Nat
 |.cloR _ caps=>caps.filterMap zcq
 |_=>[]
def zhQ(s:St):List Operand→List Nat
 |[]=>[]
 |x::r=>ztr (sv s x).2++zhQ s r
def zx2:AV→List Nat
 |.ptr i 0=>[i]
 |_=>[]
def zsv(s:St):List Operand→List Nat
 |[]=>[]
 |x::r=>zx2 (sv s x).2++zsv s r
def outOf(l m:List Nat):List Nat:=m.filter fun i=>!l.contains i
def ziA(s:St)(l:List Operand):List Nat:=outOf (zsv s l) (zhQ s l)
def zas(s:St):List Nat→St
 |[]=>s
 |i::r=>zas (freeze s i) r
def znn(s:St)(l:List Nat)(k:St→Prop):Prop:=k (zas s l)
theorem zb3:∀(l:List Nat) (s:St),Rel S0 w0 n s a w→Rel S0 w0 n (zas s l) a w
 |[],_,h=>h
 |i::r,_,h=>zb3 r _ (zt8 h i)
theorem zq3{i k:Nat}(h:(freeze s i k).zaa=true):freeze s i k=s k:=by
 unfold freeze at h ⊢
 by_cases hk:k=i
 ·subst hk
  simp only[if_pos] at h ⊢
  rcases zgz (a:=s k) with (⟨e,size,xs,hs⟩ | ⟨cs,hs⟩) | hs
  ·rw[hs] at h;cases h
  ·rw[hs] at h;cases h
  ·exact hs
 ·simp only[if_neg hk] at h ⊢
  cases hr:(s k).refs i with
  |true=>rw[hr] at h;simp only[if_true] at h;rw[zfU] at h;cases h
  |false=>rfl
theorem zc0:∀(l:List Nat) (s:St) (k:Nat),(zas s l k).zaa=true→zas s l k=s k
 |[],_,_,_=>rfl
 |i::r,s,k,h=>by
  have h1:=zc0 r (freeze s i) k h
  simp only[zas] at h ⊢
  rw[h1] at h ⊢
  exact zq3 h
theorem zdE:∀(l:List Nat) (s:St) (i:Nat),((∃e size xs,s i=.own e size xs)∨∃cs,s i=.box cs)→i∈l→(zas s l i).zaa=false
 |[],_,_,_,h=>by cases h
 |j::r,s,i,hs,hm=>by
  simp only[zas]
  by_cases hij:i=j
  ·subst hij
   cases ho:(zas (freeze s i) r i).zaa with
   |false=>rfl
   |true =>
    have:=zc0 r _ _ ho
    rw[this] at ho
    unfold freeze at ho
    rcases hs with⟨e,size,xs,hs⟩ | ⟨cs,hs⟩<;>simp[hs,zcW,AV.zaa] at ho
  ·refine zdE r _ i ?_ (by simpa[hij] using hm)
   unfold freeze
   rcases hs with⟨e,size,xs,hs⟩ | ⟨cs,hs⟩
   ·exact .inl ⟨e,size,xs,by simp[hij,hs,AV.refs]⟩
   ·exact .inr ⟨cs,by simp[hij,hs,AV.refs]⟩
theorem zhO(hR:Rel S0 w0 n s a w){x:Operand}{p:Prop}{xv:XV}(h:argX s x=(p,some xv))(hp:p)(l:List Nat)(hl:∀i∈zib (sv s x).2,i∈l) :
  zbL w (Shared S0 w0.heap.size w (zas s l) (zai a)) xv (a.eval x):=by
 have hsv:=hR.sv x
 have hblk:∀k b,zaf (zas s l k) (zai a k)=some b→(zas s l k).zaa=true∧zaf (s k) (zai a k)=some b:=by
  intro k b hb
  have ho:(zas s l k).zaa=true:=by
   cases ho:(zas s l k).zaa with
   |true=>rfl
   |false=>rw[zao ho] at hb;cases hb
  rw[zc0 l s k ho] at hb
  exact⟨ho,hb⟩
 have hsub:∀b,Shared S0 w0.heap.size w s (zai a) b→Shared S0 w0.heap.size w (zas s l) (zai a) b:=fun b hb=>⟨hb.1,hb.2.1,fun k hk=>hb.2.2 k (hblk k b hk).2⟩
 unfold argX at h
 split at h
 ·rename_i q xv' e
  simp only[Prod.mk.injEq,Option.some.injEq] at h
  obtain⟨rfl,rfl⟩:=h
  rw[e] at hsv
  exact zbL.mono (hsv hp) hsub (fun _ _=>rfl)
 ·rename_i q i e
  split at h
  ·rename_i e' size xs hs
   simp only[Prod.mk.injEq,Option.some.injEq] at h
   obtain⟨rfl,rfl⟩:=h
   have hil:=hl i (by rw[e];exact List.mem_cons_self)
   rw[e] at hsv
   obtain⟨hv,_⟩:=zaQ.zdO (hsv hp) hs
   have hi:=hR.rep i
   rw[hs] at hi
   obtain⟨us,hown,hlr,hx,hm,hO⟩:=hi
   rw[hv]
   refine zg8 hown (hlr.mono hsub (fun _ _=>rfl)) hx hm (fun b hb=>⟨.inr (hO b hb),(hown.lt b hb).2,fun k hk=>?_⟩)
   obtain⟨ho,hkb⟩:=hblk k b hk
   have hki:=hR.inj k i b hkb (by rw[hs];exact hb)
   subst hki
   rw[zdE l s k (.inl ⟨_,_,_,hs⟩) hil] at ho
   cases ho
  ·simp at h
 ·rename_i q i lo len wh e
  split at h
  ·rename_i e' size xs hs
   simp only[Prod.mk.injEq,Option.some.injEq] at h
   obtain⟨rfl,rfl⟩:=h
   have hil:=hl i (by rw[e];exact List.mem_cons_self)
   rw[e] at hsv
   have hi:=hR.rep i
   rw[hs] at hi
   obtain⟨us,hown,hlr,hx,hm,hO⟩:=hi
   refine zlK hs (hsv hp) hown (hlr.mono hsub (fun _ _=>rfl)) hx (fun b hb=>⟨.inr (hO b hb),(hown.lt b hb).2,fun k hk=>?_⟩)
   obtain⟨ho,hkb⟩:=hblk k b hk
   have hki:=hR.inj k i b hkb (by rw[hs];exact hb)
   subst hki
   rw[zdE l s k (.inl ⟨_,_,_,hs⟩) hil] at ho
   cases ho
  ·simp at h
 ·rename_i q cs e
  simp only[Prod.mk.injEq,Option.some.injEq] at h
  obtain⟨rfl,rfl⟩:=h
  rw[e] at hsv
  exact zsy (hsv hp) hsub
 ·rename_i q f caps e
  split at h
  ·rename_i cs hcs
   simp only[Prod.mk.injEq,Option.some.injEq] at h
   obtain⟨rfl,rfl⟩:=h
   have hl':∀i∈caps.filterMap zcq,i∈l:=fun i hi=>hl i (by rw[e];exact hi)
   rw[e] at hsv
   obtain⟨us,hv,hsz,hcap⟩:=hsv hp
   rw[hv]
   refine zaH.zEF (zof hR hsub (fun i hi b hb=>?_) hcs (by simpa using hsz) (fun j c hj=>by simpa using hcap j c hj)).1
   refine⟨.inr ((hR.rep i).zbk hb).1,((hR.rep i).zbk hb).2,fun k hk=>?_⟩
   obtain⟨ho,hkb⟩:=hblk k b hk
   have hki:=hR.inj k i b hkb hb
   subst hki
   have hbox:(∃e size xs,s k=.own e size xs)∨∃cs,s k=.box cs:=by
    have:∀{caps:List (CV ⊕ (Nat×Nat))} {cs:List CV},zhm s caps=some cs→k∈caps.filterMap zcq→∃bs,s k=.box bs:=by
     intro caps
     induction caps with
     |nil=>intro cs _ h;cases h
     |cons c r ih =>
      intro cs h hm
      simp only[zhm] at h
      split at h
      ·rename_i x xs e1 e2
       rw[List.filterMap_cons] at hm
       cases c with
       |inl c0=>exact ih e2 (by simpa[zcq] using hm)
       |inr q =>
        simp only[zcq,List.mem_cons] at hm
        rcases hm with hm | hm
        ·subst hm
         simp only[zMW] at e1
         split at e1
         ·rename_i bs hs;exact⟨bs,hs⟩
         ·cases e1
        ·exact ih e2 hm
      ·cases h
    exact .inr (this hcs hi)
   rw[zdE l s k hbox (hl' k hi)] at ho
   cases ho
  ·simp at h
 ·simp at h
def uv(s:St)(x:Operand):Prop×AV:=
 match argX s x with
 |(p,some xv)=>(p,.x xv)
 |_=>(False,.dead)
theorem zjh{s:St}{x:Operand}{i:Nat}:∀{l:List Operand},x∈l→i∈zib (sv s x).2→i∈zaX s l
 |y::r,hx,h=>by
  simp only[zaX,List.mem_append]
  rcases List.mem_cons.1 hx with rfl | hx
  ·exact .inl h
  ·exact .inr (zjh hx h)
theorem zBF(hR:Rel S0 w0 n s a w)(l:List Operand){x:Operand}(hx:x∈l)(hp:(uv s x).1):zgd S0 w0 (zas s (zaX s l)) a w (uv s x).2 (a.eval x):=by
 unfold uv at hp ⊢
 split at hp
 ·rename_i p xv e
  exact zhO hR e hp _ (fun i hi=>zjh hx hi)
 ·exact hp.elim
theorem zzt{s:St}{x:Operand}{p:Prop}{xv:XV}(h:sv s x=(p,.x xv)):uv s x=(p,.x xv)∧zaX s [x]=[]:=by
 unfold uv argX
 simp only[h,zaX,zib]
 exact⟨trivial,rfl⟩
end
end Go.Ab
namespace Go.Ab
open Go Go.RowKit
variable [Amb]
theorem zho(off:Nat):∀(l:List Value) (k:Nat) (cells:Array Value),off+k+l.length≤cells.size →
  ((l.zipIdx k).foldl (fun (cs:Array Value) (x:Value×Nat)=>cs.setIfInBounds (off+x.2) x.1) cells).toList=zae cells.toList (off+k) l:=by
 intro l
 induction l with
 |nil=>intro k cells _;simp[zae]
 |cons v l ih =>
  intro k cells h
  simp only[List.zipIdx_cons,List.foldl_cons]
  rw[ih (k+1) _ (by simp at h ⊢;omega)]
  simp only[zae,Array.toList_setIfInBounds,List.length_cons]
  have hlt:off+k<cells.toList.length:=by simp at h ⊢;omega
  rw[List.drop_set_of_lt (by omega)]
  have e1:off+(k+1)=(off+k)+1:=by omega
  rw[e1,List.take_succ_eq_append_getElem (by simpa using hlt)]
  rw[List.take_set_of_le (by omega)]
  simp only[List.getElem_set_self,List.append_assoc,List.cons_append,List.nil_append]
  congr 3
  congr 1
  omega
section
variable {P:Program}{S0:Env}{w0 w:World}{n:Nat}{s:St}{a:Act}
def zd1(P:Program)(t:TypeId):Option (List CV×List (Nat×Nat)):=
 match P.info? t,P.underlying t with
 |some it,some (.struct fields)=>match it.zero,fields.toList.mapM (fun f=>(P.info? f.type).map fun i=>(f.offset,i.size)) with
  |some z,some places=>if z.cells.toList.all zcr then some (z.cells.toList.map zhp,places) else none
  |_,_=>none
 |_,_=>none
def zhn(places:List (Nat×Nat)):List CV→List (Nat×(Prop×AV))→Prop×List CV
 |cells,[]=>(True,cells)
 |cells,(i,(p,.x xv))::r=>match places[i]? with
  |some (off,size)=>(p∧xv.cells.length=size∧off+size≤cells.length∧(zhn places (zae cells off xv.cells) r).1,(zhn places (zae cells off xv.cells) r).2)
  |none=>(False,cells)
 |cells,_=>(False,cells)
def zev(P:Program)(f:Operand→Prop×AV)(t:TypeId)(parts:List (Nat×Operand)):Prop×AV:=
 match zd1 P t with
 |some (cs,places)=>((zhn places cs (parts.map fun x=>(x.1,f x.2))).1,.x (.agg (zhn places cs (parts.map fun x=>(x.1,f x.2))).2))
 |none=>(False,.dead)
theorem zbM{α:Type}(cs vs:List α)(off:Nat)(h:off+vs.length≤cs.length):(zae cs off vs).length=cs.length:=by
 simp only[zae,List.length_append,List.length_take,List.length_drop];omega
theorem zGg{f:Operand→Prop×AV}(places:List (Nat×Nat)):∀(parts:List (Nat×Operand)) (cs:List CV) (arr:Array Value),(∀x∈parts,Knows S0 w0 s a w (f x.2) (a.eval x.2))→zbP w (Shared S0 w0.heap.size w s (zai a)) cs arr.toList →
  (zhn places cs (parts.map fun x=>(x.1,f x.2))).1 →
  ∃arr',Instr.fill (places.toArray[·]?) arr (parts.map fun x=>(x.1,a.eval x.2))=some arr'∧zbP w (Shared S0 w0.heap.size w s (zai a)) (zhn places cs (parts.map fun x=>(x.1,f x.2))).2 arr'.toList:=by
 intro parts
 induction parts with
 |nil=>intro cs arr _ h _;exact⟨arr,rfl,h⟩
 |cons x parts ih =>
  intro cs arr hf h hp
  obtain⟨i,x⟩:=x
  have hsv:=hf _ List.mem_cons_self
  dsimp only at hsv
  simp only[List.map_cons] at hp ⊢
  generalize f x=sx at hp hsv ⊢
  obtain⟨p,r⟩:=sx
  cases r with
  |x xv =>
   simp only[zhn] at hp ⊢
   cases hpl:places[i]? with
   |none=>rw[hpl] at hp;exact hp.elim
   |some os =>
    obtain⟨off,size⟩:=os
    rw[hpl] at hp
    obtain⟨h1,h2,h3,h4⟩:=hp
    have hrep:=zbL.cells (hsv h1)
    have hsz:(a.eval x).cells.size=size:=by
     have:=hrep.1
     simp only[Array.length_toList] at this
     rw[this,h2]
    have hcl:arr.size=cs.length:=by have:=h.1;simpa using this
    have hfold:((a.eval x).cells.zipIdx.foldl (fun cs (c,j)=>cs.setIfInBounds (off+j) c) arr).toList=zae arr.toList off (a.eval x).cells.toList:=by
     have:=zho off (a.eval x).cells.toList 0 arr (by simp;omega)
     rw[←Array.foldl_toList,Array.toList_zipIdx]
     exact this
    have hnext:=h.zae hrep off
    rw[←hfold] at hnext
    obtain⟨arr',hf,hr⟩:=ih _ _ (fun y hy=>hf y (List.mem_cons_of_mem _ hy)) hnext h4
    refine⟨arr',?_,hr⟩
    have hat:places.toArray[i]?=some (off,size):=by simpa using hpl
    simp only[Instr.fill,hat,hsz,ne_eq,not_true_eq_false,Bool.false_or,decide_false]
    rw[if_neg (by simp;omega)]
    exact hf
  |_=>exact hp.elim
theorem zqK{f:Operand→Prop×AV}{t:TypeId}{parts:Array (Nat×Operand)}(hf:∀x∈parts.toList,Knows S0 w0 s a w (f x.2) (a.eval x.2))(hp:(zev P f t parts.toList).1) :
  ∃v,(Instr.build t (parts.map fun (i,x)=>(i,a.eval x))).run P w=.ok v w∧zgd S0 w0 s a w (zev P f t parts.toList).2 v∧(zev P f t parts.toList).2.zaa=false:=by
 unfold zev at hp ⊢
 split at hp
 ·rename_i cs places hb
  unfold zd1 at hb
  split at hb
  ·rename_i it fields hi hu
   split at hb
   ·rename_i z places' hz hpl
    split at hb
    ·rename_i hall
     injection hb with hb
     injection hb with hb1 hb2
     subst hb1;subst hb2
     obtain⟨arr',hf,hr⟩:=zGg places' parts.toList _ z.cells hf (zlU hall) hp
     refine⟨.agg arr',run_build (P:=P) w t _ arr' ?_,⟨arr',rfl,hr⟩,rfl⟩
     simp only[Program.built,hi,hu,hz,hpl]
     rw[←hf]
     congr 1
     simp
    ·cases hb
   ·cases hb
  ·cases hb
 ·exact hp.elim
def zih(size:Nat):List (List CV)→List (Nat×(Prop×AV))→Prop×List (List CV)
 |xs,[]=>(True,xs)
 |xs,(i,(p,.x xv))::r=>(p∧xv.cells.length=size∧i<xs.length∧(zih size (xs.set i xv.cells) r).1,(zih size (xs.set i xv.cells) r).2)
 |xs,_=>(False,xs)
def rowT(P:Program)(t:TypeId):Option (TypeId×Nat×List CV):=
 match sliceT P t with
 |some (e,size)=>match zeroOf P e with
  |some z=>if z.length=size then some (e,size,z) else none
  |none=>none
 |none=>none
def zaB(P:Program)(f:Operand→Prop×AV)(t:TypeId)(len:Nat)(parts:List (Nat×Operand)):Prop×AV:=
 match rowT P t with
 |some (e,size,z)=>(len*size≤16777216∧(zih size (List.replicate len z) (parts.map fun x=>(x.1,f x.2))).1,.own e size (zih size (List.replicate len z) (parts.map fun x=>(x.1,f x.2))).2)
 |none=>(False,.dead)
theorem zmA{xs:List (List CV)}{size:Nat}(hx:∀x∈xs,x.length=size){i:Nat}(hi:i<xs.length){c:List CV}(hc:c.length=size) :
  (xs.set i c).flatten=zae xs.flatten (i*size) c:=by
 induction xs generalizing i with
 |nil=>simp at hi
 |cons x xs ih =>
  have hl:=hx x (by simp)
  cases i with
  |zero =>
   simp only[List.set_cons_zero,List.flatten_cons,zae,Nat.zero_mul,List.take_zero,List.nil_append,Nat.zero_add]
   rw[List.drop_append,List.drop_eq_nil_of_le (by omega:x.length≤c.length),hc,hl]
   simp
  |succ i =>
   simp only[List.set_cons_succ,List.flatten_cons]
   rw[ih (fun y hy=>hx y (by simp[hy])) (by simpa using hi)]
   have e1:(i+1)*size=x.length+i*size:=by rw[Nat.add_mul,hl];omega
   have e2:(x++xs.flatten).drop (x.length+i*size+c.length)=xs.flatten.drop (i*size+c.length):=by
    rw[List.drop_append,List.drop_eq_nil_of_le (by omega),List.nil_append]
    congr 1;omega
   have e3:(x++xs.flatten).take (x.length+i*size)=x++xs.flatten.take (i*size):=by
    rw[List.take_append,List.take_of_length_le (by omega)]
    congr 2;omega
   simp only[zae,e1,e2,e3,List.append_assoc]
theorem zAo{f:Operand→Prop×AV}(size:Nat):∀(parts:List (Nat×Operand)) (xs:List (List CV)) (arr:Array Value),(∀x∈parts,Knows S0 w0 s a w (f x.2) (a.eval x.2))→(∀x∈xs,x.length=size)→zbP w (Shared S0 w0.heap.size w s (zai a)) xs.flatten arr.toList →
  (zih size xs (parts.map fun x=>(x.1,f x.2))).1 →
  (zih size xs (parts.map fun x=>(x.1,f x.2))).2.length=xs.length∧(∀x∈(zih size xs (parts.map fun x=>(x.1,f x.2))).2,x.length=size) ∧
  ∃arr',Instr.fill (fun i=>some (i*size,size)) arr (parts.map fun x=>(x.1,a.eval x.2))=some arr'∧zbP w (Shared S0 w0.heap.size w s (zai a)) (zih size xs (parts.map fun x=>(x.1,f x.2))).2.flatten arr'.toList:=by
 intro parts
 induction parts with
 |nil=>intro xs arr _ hx h _;exact⟨rfl,hx,arr,rfl,h⟩
 |cons x parts ih =>
  intro xs arr hf hx h hp
  obtain⟨i,x⟩:=x
  have hsv:=hf _ List.mem_cons_self
  dsimp only at hsv
  simp only[List.map_cons] at hp ⊢
  generalize f x=sx at hp hsv ⊢
  obtain⟨p,r⟩:=sx
  cases r with
  |x xv =>
   simp only[zih] at hp ⊢
   obtain⟨h1,h2,h3,h4⟩:=hp
   have hrep:=zbL.cells (hsv h1)
   have hsz:(a.eval x).cells.size=size:=by
    have:=hrep.1
    simp only[Array.length_toList] at this
    rw[this,h2]
   have hcl:arr.size=xs.length*size:=by have:=h.1;rw[zbv hx] at this;simpa using this
   have hin:i*size+size≤arr.size:=by
    rw[hcl]
    have:(i+1)*size≤xs.length*size:=Nat.mul_le_mul_right _ h3
    rw[Nat.add_mul] at this;omega
   have hfold:((a.eval x).cells.zipIdx.foldl (fun cs (c,j)=>cs.setIfInBounds (i*size+j) c) arr).toList=zae arr.toList (i*size) (a.eval x).cells.toList:=by
    have:=zho (i*size) (a.eval x).cells.toList 0 arr (by simp;omega)
    rw[←Array.foldl_toList,Array.toList_zipIdx]
    exact this
   have hnext:=h.zae hrep (i*size)
   rw[←hfold,←zmA hx h3 h2] at hnext
   have hx':∀y∈xs.set i xv.cells,y.length=size:=by
    intro y hy
    rcases List.mem_or_eq_of_mem_set hy with hy | hy
    ·exact hx y hy
    ·rw[hy,h2]
   obtain⟨hl,hxs,arr',hf,hr⟩:=ih _ _ (fun y hy=>hf y (List.mem_cons_of_mem _ hy)) hx' hnext h4
   refine⟨by rw[hl];simp,hxs,arr',?_,hr⟩
   simp only[Instr.fill,hsz,ne_eq,not_true_eq_false,Bool.false_or,decide_false]
   rw[if_neg (by simp;omega)]
   exact hf
  |_=>exact hp.elim
theorem ziF{S:Nat→Prop}{zc:List CV}{z:Array Value}(h:zbP w S zc z.toList)(len:Nat) :
  zbP w S (List.replicate len zc).flatten ((Array.range (len*z.size)).map (z[· % z.size]!)).toList:=by
 have hl:zc.length=z.size:=by have:=h.1;simpa using this.symm
 refine⟨by simp[hl],fun j c hj=>?_⟩
 have hlt:j<len*z.size:=by
  have:=(List.getElem?_eq_some_iff.1 hj).1
  simpa[hl] using this
 have hpos:0<z.size:=by
  rcases Nat.eq_zero_or_pos z.size with h0 | h0
  ·rw[h0] at hlt;simp at hlt
  ·exact h0
 have hj':zc[j % z.size]?=some c:=by
  have key:∀(len j:Nat),j<len*zc.length→(List.replicate len zc).flatten[j]?=zc[j % zc.length]?:=by
   intro len
   induction len with
   |zero=>intro j h;simp at h
   |succ len ih =>
    intro j h
    simp only[List.replicate_succ,List.flatten_cons]
    rw[List.getElem?_append]
    split
    ·rename_i hlt;rw[Nat.mod_eq_of_lt hlt]
    ·rename_i hge
     rw[ih _ (by rw[Nat.add_mul] at h;omega)]
     congr 1
     have:j=(j-zc.length)+zc.length:=by omega
     conv=>rhs;rw[this,Nat.add_mod_right]
  rw[key _ _ (by rw[hl];exact hlt),hl] at hj
  exact hj
 obtain⟨u,hu,hr⟩:=h.2 _ c hj'
 refine⟨u,?_,hr⟩
 have hm:j % z.size<z.size:=Nat.mod_lt _ hpos
 have hz:z[j % z.size]=u:=by
  rw[Array.getElem?_toList,Array.getElem?_eq_getElem hm] at hu
  injection hu
 simp[hlt,hm,hz]
theorem zlA{t e:TypeId}{size:Nat}{zc:List CV}(h:rowT P t=some (e,size,zc)) :
  ∃i z,P.underlying t=some (.slice e)∧P.info? e=some i∧i.size=size∧0<size∧(zeroValue e).run P w=.ok z w∧(∀S,zbP w S zc z.cells.toList)∧zc.length=size:=by
 unfold rowT at h
 split at h
 ·rename_i e' size' hT
  split at h
  ·rename_i z hz
   split at h
   ·rename_i hzl
    injection h with h
    simp only[Prod.mk.injEq] at h
    obtain⟨rfl,rfl,rfl⟩:=h
    obtain⟨i,hu,hi,hs,hp⟩:=zbH hT
    obtain⟨zv,hrun,_⟩:=zmg (P:=P) (w:=w) hz (fun _=>True)
    refine⟨i,zv,hu,hi,hs,hp,hrun,fun S=>?_,hzl⟩
    obtain⟨zv',hrun',hrep⟩:=zmg (P:=P) (w:=w) hz S
    rw[hrun] at hrun'
    injection hrun' with e1
    subst e1
    exact hrep
   ·cases h
  ·cases h
 ·cases h
theorem zfc{f:Operand→Prop×AV}{t:TypeId}{len d:Nat}{parts:Array (Nat×Operand)}(hR:Rel S0 w0 n s a w)(hf:∀x∈parts.toList,Knows S0 w0 s a w (f x.2) (a.eval x.2))(hd:S0.m≤d∧d<n)(hp:(zaB P f t len parts.toList).1) :
  ∃v w',(Instr.buildSlice t len (parts.map fun (i,x)=>(i,a.eval x))).run P w=.ok v w'∧Rel S0 w0 n (Ab.put s d (zaB P f t len parts.toList).2) (a.put (some d) v) w':=by
 unfold zaB at hp ⊢
 split at hp
 ·rename_i e size zc hT
  obtain⟨hlim,hp⟩:=hp
  obtain⟨i,z,hu,hi,hs,hpos,hz,hzr,hzl⟩:=zlA (w:=w) hT
  have hzsz:z.cells.size=size:=by have:=(hzr (fun _=>True)).1;rw[hzl] at this;simpa using this
  have hrep:=ziF (hzr (Shared S0 w0.heap.size w s (zai a))) len
  rw[hzsz] at hrep
  have hx:∀x∈List.replicate len zc,x.length=size:=fun x hx=>by rw[List.eq_of_mem_replicate hx,hzl]
  obtain⟨hl,hxs,arr',hf,hr⟩:=zAo size parts.toList _ _ hf hx hrep hp
  have hlen:(zih size (List.replicate len zc) (parts.toList.map fun x=>(x.1,f x.2))).2.length=len:=by rw[hl];simp
  have hfill:Instr.fill (fun i=>some (i*size,size)) ((Array.range (len*size)).map (z.cells[· % size]!)) (parts.map fun (i,x)=>(i,a.eval x)).toList=some arr':=by
   rw[←hf];congr 1;simp
  have harr:arr'.size=len*size:=by
   have:=hr.1
   rw[zbv hxs,hlen] at this
   simpa using this
  have hcap:len≤maxLen:=by
   have:len*1≤len*size:=Nat.mul_le_mul_left _ hpos
   simp only[maxLen];omega
  refine⟨.slice (some ⟨w.heap.size,0,none⟩) len len,w.alloc (.cells arr' e),?_,?_⟩
  ·have hlim':¬len*size > 2 ^ 24:=by omega
   have hfin:∀c:Array Value,c=((Array.range (len*size)).map (z.cells[· % size]!))→(Instr.fill (fun i=>some (i*size,size)) c (parts.map fun (i,x)=>(i,a.eval x)).toList)=some arr':=fun c hc=>by rw[hc];exact hfill
   by_cases h0:len*size=0
   ·have h1:=hfin #[] (by rw[h0];simp)
    have hr0:∀f:Nat→Value,Array.map f (Array.range 0)=#[]:=fun f=>by simp
    simp only[Instr.buildSlice,Sem.run_bind,run_underlying hu,Result.andThen_ok,run_sizeOf hi,hs]
    rw[h0]
    simp only[show ¬((0:Nat) > 2 ^ 24) by omega,if_false,if_true,Sem.run_pure,Result.andThen_ok,hr0,h1,Sem.run_bind]
    rfl
   ·have h1:=hfin _ rfl
    simp only[Instr.buildSlice,Sem.run_bind,run_underlying hu,Result.andThen_ok,run_sizeOf hi,hs,if_neg hlim',if_neg h0,hz,Sem.run_pure,hzsz,h1]
    rfl
  ·refine hR.zoc hd (World.grownBy_alloc w _ none) (us:=arr'.toList) ⟨by simp[harr,hlen],.inr ⟨w.heap.size,len,arr',by rw[hlen],Nat.zero_le _,⟨_,heap_alloc_new w _,.inl rfl⟩,by omega,hcap,harr,?_⟩⟩ hr hxs (by rw[hlen];exact hcap) ?_
   ·rw[hlen,List.take_of_length_le (by simp[harr])]
   ·intro b hb
    have:w.heap.size=b:=by simpa[Value.ownBlock] using hb
    omega
 ·exact hp.elim
end
end Go.Ab
namespace Go.Ab
open Go Go.RowKit
variable [Amb]
inductive RV where
 |x (v:XV)
 |tup (vs:List XV)
 |own (e size:Nat) (xs:List (List CV))
def RV.av:RV→AV
 |.x v=>.x v
 |.tup vs=>.tup vs
 |.own e size xs=>.own e size xs
def RV.blk:RV→Value→Option Nat
 |.own _ _ _,v=>v.ownBlock
 |_,_=>none
def zkq(w:World)(S:Nat→Prop):RV→Value→Prop
 |.x xv,v=>zbL w S xv v
 |.tup vs,v=>∃us:Array Value,v=.tuple us∧us.size=vs.length∧∀(j:Nat) (x:XV),vs[j]?=some x→∃u,us[j]?=some u∧zbL w S x u
 |.own e size xs,v=>∃us:List Value,w.zdS 0 e size v xs.length us∧zbP w (fun b=>S b∧v.ownBlock≠some b) xs.flatten us∧(∀x∈xs,x.length=size)∧xs.length≤maxLen∧∀b,v.ownBlock=some b→S b
theorem zkq.mono{w w':World}{S S':Nat→Prop}{r:RV}{v:Value}(h:zkq w S r v)(hS:∀b,S b→S' b)
  (hb:∀b,S b→w'.heap[b]?=w.heap[b]?):zkq w' S' r v:=by
 cases r with
 |x xv=>exact zbL.mono h hS hb
 |tup vs =>
  obtain⟨us,hv,hl,hx⟩:=h
  exact⟨us,hv,hl,fun j x hj=>let ⟨u,hu,hr⟩:=hx j x hj;⟨u,hu,hr.mono hS hb⟩⟩
 |own e size xs =>
  obtain⟨us,hown,hl,hx,hm,hB⟩:=h
  refine⟨us,⟨hown.1,?_⟩,hl.mono (fun b hb'=>⟨hS b hb'.1,hb'.2⟩) (fun b hb'=>hb b hb'.1),hx,hm,fun b hb'=>hS b (hB b hb')⟩
  rcases hown.2 with hn | ⟨g,cap,cur,rfl,hbg,hh,rest⟩
  ·exact .inl hn
  ·exact .inr ⟨g,cap,cur,rfl,hbg,by rw[hb g (hB g rfl)];exact hh,rest⟩
def zcB(w:World)(S:Nat→Prop)(args:List XV)(vs:Array Value):Prop:=
 vs.size=args.length∧∀(j:Nat) (x:XV),args[j]?=some x→∃u,vs[j]?=some u∧zbL w S x u
def zea (P : Program) (f : FuncId) : Prop := ∃ fn, P.funcs[f]? = some fn ∧ (fn.name == "runtime.NumGoroutine") = false ∧ fn.body.isNone = false
def zab(P:Program)(f:FuncId)(args:List XV)(r:RV):Prop:=
 zea P f∧∀(w:World) (S:Nat→Prop) (vs:Array Value),Base ⟨S,fun _=>False,0,fun _=>undef⟩ w→zcB w S args vs →
  Calls P f vs w fun e w'=>∃v,e=.returned v∧Below w.heap.size w w'∧zkq w' (fun b=>S b∨(w.heap.size≤b∧b<w'.heap.size)) r v∧∀b,r.blk v=some b→w.heap.size≤b
def CV.flat:CV→Bool
 |.list _ _=>false
 |.nil=>false
 |.empty _=>false
 |.clo _ _=>false
 |.ref _=>false
 |.mapv _ _ _ _=>false
 |_=>true
def XV.flat:XV→Bool
 |.one c=>c.flat
 |.agg cs=>cs.all CV.flat
def RV.flat:RV→Bool
 |.x v=>v.flat
 |.tup vs=>vs.all XV.flat
 |.own _ _ _=>false
theorem zaH.flat{w w':World}{S S':Nat→Prop}{c:CV}{v:Value}(h:zaH w S c v)(hf:c.flat=true):zaH w' S' c v:=by
 cases h with
 |bool b=>exact .bool b
 |int k n=>exact .int k n
 |str l h=>exact .str l h
 |atom v h=>exact .atom v h
 |any v h=>exact .any v h
 |_=>cases hf
theorem zbL.flat{w w':World}{S S':Nat→Prop}{x:XV}{v:Value}(h:zbL w S x v)(hf:x.flat=true):zbL w' S' x v:=by
 cases x with
 |one c=>exact zaH.flat h hf
 |agg cs =>
  obtain⟨us,hv,hl,hx⟩:=h
  exact⟨us,hv,hl,fun j c hj=>let ⟨u,hu,hr⟩:=hx j c hj;⟨u,hu,hr.flat (List.all_eq_true.1 hf c (List.mem_of_getElem? hj))⟩⟩
theorem zkq.flat{w w':World}{S S':Nat→Prop}{r:RV}{v:Value}(h:zkq w S r v)(hf:r.flat=true):zkq w' S' r v:=by
 cases r with
 |x xv=>exact zbL.flat h hf
 |tup vs =>
  obtain⟨us,hv,hl,hx⟩:=h
  exact⟨us,hv,hl,fun j x hj=>let ⟨u,hu,hr⟩:=hx j x hj;⟨u,hu,hr.flat (List.all_eq_true.1 hf x (List.mem_of_getElem? hj))⟩⟩
 |own e size xs=>cases hf
def zga(s:St):List Operand→Prop×Option (List XV)
 |[]=>(True,some [])
 |x::r=>match argX s x,zga s r with
  |(p,some v),(q,some vs)=>(p∧q,some (v::vs))
  |_,_=>(False,none)
def zkD:AV→Option (FuncId×List XV)
 |.x (.one (.atom (.func (.func f) ⟨[]⟩ ⟨[]⟩)))=>some (f,[])
 |.x (.one (.clo f caps))=>some (f,caps.map .one)
 |_=>none
def callee(s:St)(f:Operand)(args:List Operand):Prop×Option (FuncId×List XV):=
 match sv s f,zga s args with
 |(p,a),(q,some xs)=>match zkD a with
  |some (g,caps)=>(p∧q,some (g,xs++caps))
  |none=>(False,none)
 |_,_=>(False,none)
def zkL(s:St):List Operand→Prop×Option (List XV)
 |[]=>(True,some [])
 |x::r=>match zNv s x,zkL s r with
  |(p,some v),(q,some vs)=>(p∧q,some (v::vs))
  |_,_=>(False,none)
def zgU(s:St)(f:Operand)(args:List Operand):Prop×Option (FuncId×List XV):=
 match args.any (zo9 s) with
 |true=>match sv s f,zkL s args with
  |(p,a),(q,some xs)=>match zkD a with
   |some (g,caps)=>(p∧q,some (g,xs++caps))
   |none=>(False,none)
  |_,_=>(False,none)
 |false=>(False,none)
def zkw(P:Program)(c:Prop×Option (FuncId×List XV))(k:RV→Prop)(m:Prop):Prop:=
 match c with
 |(p,some (g,xs))=>p∧((∃r,zab P g xs r∧r.flat=true∧k r)∨m)
 |_=>m
def zh5(P:Program)(s:St)(f:Operand)(args:List Operand)(r:RV):Prop:=
 match callee s f args with
 |(p,some (g,xs))=>p∧zab P g xs r
 |_=>False
def ztl(P:Program)(e:Bool)(g:FuncId)(xs:List XV)(k:RV→Prop):Prop:=∃r,(e=true→zab P g xs r)∧r.flat=true∧k r
def zjT(P:Program)(e:Bool)(c:Prop×Option (FuncId×List XV))(k:RV→Prop):Prop:=
 match c with
 |(p,some (g,xs))=>(e=true→p)∧ztl P e g xs k
 |_=>False
theorem zs9{P:Program}{s:St}{e:Bool}{f:Operand}{args:List Operand}{k:RV→Prop}(h:zjT P e (callee s f args) k):∃r,(e=true→zh5 P s f args r)∧r.flat=true∧k r:=by
 unfold zjT ztl at h
 unfold zh5
 split at h
 ·obtain⟨hp,r,hc,hf,hk⟩:=h
  exact⟨r,fun he=>⟨hp he,hc he⟩,hf,hk⟩
 ·exact h.elim
theorem zh9{P:Program}{e:Bool}{c:Prop×Option (FuncId×List XV)}{k:RV→Prop}(h:zjT P e c k):∃r,(∀k':RV→Prop,k' r→zjT P e c k')∧k r:=by
 unfold zjT ztl at h ⊢
 split at h
 ·obtain⟨hp,r,hc,hf,hk⟩:=h
  exact⟨r,fun k' hk'=>⟨hp,r,hc,hf,hk'⟩,hk⟩
 ·exact h.elim
section
variable {P:Program}{S0:Env}{w0 w:World}{n:Nat}{s:St}{a:Act}
theorem ztc(hR:Rel S0 w0 n s a w):∀{args:List Operand} {p:Prop} {xs:List XV},zga s args=(p,some xs)→p→zcB w (zvv S0 w0.heap.size w) xs (args.map a.eval).toArray:=by
 intro args
 induction args with
 |nil =>
  intro p xs h _
  simp only[zga,Prod.mk.injEq,Option.some.injEq] at h
  obtain⟨_,rfl⟩:=h
  exact⟨rfl,fun j x hj=>by simp at hj⟩
 |cons x r ih =>
  intro p xs h hp
  simp only[zga] at h
  split at h
  ·rename_i q v q' vs e1 e2
   simp only[Prod.mk.injEq,Option.some.injEq] at h
   obtain⟨rfl,rfl⟩:=h
   have h1:=zxD hR e1 hp.1
   obtain⟨h2,h3⟩:=ih e2 hp.2
   refine⟨by simpa using h2,fun j x' hj=>?_⟩
   cases j with
   |zero=>simp at hj;subst hj;exact⟨_,rfl,h1⟩
   |succ j =>
    simp only[List.getElem?_cons_succ] at hj
    obtain⟨u,hu,hr⟩:=h3 j x' hj
    exact⟨u,by simpa using hu,hr⟩
  ·simp at h
theorem zre(hR:Rel S0 w0 n s a w)(l:List Nat):∀{args:List Operand} {p:Prop} {xs:List XV},zga s args=(p,some xs)→p→(∀i∈zaX s args,i∈l) →
  zcB w (Shared S0 w0.heap.size w (zas s l) (zai a)) xs (args.map a.eval).toArray:=by
 intro args
 induction args with
 |nil =>
  intro p xs h _ _
  simp only[zga,Prod.mk.injEq,Option.some.injEq] at h
  obtain⟨_,rfl⟩:=h
  exact⟨rfl,fun j x hj=>by simp at hj⟩
 |cons x r ih =>
  intro p xs h hp hl
  simp only[zga] at h
  split at h
  ·rename_i q v q' vs e1 e2
   simp only[Prod.mk.injEq,Option.some.injEq] at h
   obtain⟨rfl,rfl⟩:=h
   have h1:=zhO hR e1 hp.1 l (fun i hi=>hl i (zjh List.mem_cons_self hi))
   obtain⟨h2,h3⟩:=ih e2 hp.2 (fun i hi=>hl i (by
    simp only[zaX,List.mem_append]
    exact .inr hi))
   refine⟨by simpa using h2,fun j x' hj=>?_⟩
   cases j with
   |zero=>simp at hj;subst hj;exact⟨_,rfl,h1⟩
   |succ j =>
    simp only[List.getElem?_cons_succ] at hj
    obtain⟨u,hu,hr⟩:=h3 j x' hj
    exact⟨u,by simpa using hu,hr⟩
  ·simp at h
def zbA(s:St)(args:List Operand)(r:RV):St:=
 match r.flat with
 |true=>s
 |false=>zas s (zaX s args)
theorem zcx{w w':World}(h:Below w.heap.size w w'):w.grownBy w' none:=⟨h.os,h.tape,h.output,h.size,fun k hk _=>h.block k hk⟩
theorem zcB.append{S:Nat→Prop}{xs ys:List XV}{us vs:Array Value}(h1:zcB w S xs us)(h2:zcB w S ys vs):zcB w S (xs++ys) (us++vs):=by
 refine⟨by simp[h1.1,h2.1],fun j x hj=>?_⟩
 by_cases hlt:j<xs.length
 ·rw[List.getElem?_append_left hlt] at hj
  rw[Array.getElem?_append_left (by rw[h1.1];exact hlt)]
  exact h1.2 j x hj
 ·rw[List.getElem?_append_right (by omega)] at hj
  rw[Array.getElem?_append_right (by rw[h1.1];omega),h1.1]
  exact h2.2 _ x hj
theorem zmC{S:Nat→Prop}{B:Nat→Prop}{tm:Nat→Value}{v:AV}{u:Value}{g:FuncId}{caps:List XV}(h:zaQ w S B s tm v u)(hf:zkD v=some (g,caps)) :
  ∃us:Array Value,u=.func (.func g) #[] us∧zcB w S caps us:=by
 unfold zkD at hf
 split at hf
 ·injection hf with hf
  injection hf with hf1 hf2
  subst hf1;subst hf2
  cases h
  exact⟨#[],rfl,rfl,fun j x hj=>by simp at hj⟩
 ·rename_i f' cs
  injection hf with hf
  injection hf with hf1 hf2
  subst hf1;subst hf2
  cases h with
  |clo _ _ U hU =>
   refine⟨_,rfl,by simp,fun j x hj=>?_⟩
   rw[List.getElem?_map] at hj
   cases hc:cs[j]? with
   |none=>rw[hc] at hj;cases hj
   |some c =>
    rw[hc] at hj
    injection hj with hj
    subst hj
    have hlt:=(List.getElem?_eq_some_iff.1 hc).1
    exact⟨U j,by simp[List.getElem?_range hlt],hU j c hc⟩
 ·cases hf
theorem zcB.mono{S S':Nat→Prop}{xs:List XV}{us:Array Value}(h:zcB w S xs us)(hS:∀b,S b→S' b):zcB w S' xs us:=
 ⟨h.1,fun j x hj=>let ⟨u,hu,hr⟩:=h.2 j x hj;⟨u,hu,zbL.mono hr hS (fun _ _=>rfl)⟩⟩
theorem Rel.back{d:Nat}{r:RV}{v:Value}{w':World}{S:Nat→Prop}(hR:Rel S0 w0 n s a w)(hd:S0.m≤d∧d<n)(hb:Below w.heap.size w w')
  (hr:zkq w' S r v)(hS:∀b,S b→(Shared S0 w0.heap.size w s (zai a) b∨(w.heap.size≤b∧b<w'.heap.size)))(hf:∀b,r.blk v=some b→w.heap.size≤b):Rel S0 w0 n (Ab.put s d r.av) (a.put (some d) v) w':=by
 have hsh:∀b,(Shared S0 w0.heap.size w s (zai a) b∨(w.heap.size≤b∧b<w'.heap.size))→Shared S0 w0.heap.size w' s (zai a) b:=by
  intro b hbb
  rcases hbb with h | ⟨h1,h2⟩
  ·exact⟨h.1,Nat.lt_of_lt_of_le h.2.1 hb.size,h.2.2⟩
  ·refine⟨.inr (.inl (Nat.le_trans hR.below.size h1)),h2,fun k hk=>?_⟩
   have:=((hR.rep k).zbk hk).2
   omega
 cases r with
 |x xv=>exact hR.put hd (zcx hb) (fun j h=>by cases h) (zbL.mono hr (fun b h=>hsh b (hS b h)) (fun _ _=>rfl)) (fun b h=>by cases h) (fun b h=>by cases h)
 |tup vs =>
  obtain⟨us,hv,hl,hx⟩:=hr
  exact hR.put hd (zcx hb) (fun j h=>by cases h) ⟨us,hv,hl,fun j x hj=>let ⟨u,hu,hr⟩:=hx j x hj;⟨u,hu,zbL.mono hr (fun b h=>hsh b (hS b h)) (fun _ _=>rfl)⟩⟩ (fun b h=>by cases h) (fun b h=>by cases h)
 |own e size xs =>
  obtain⟨us,hown,hl,hx,hm,hB⟩:=hr
  have hfr:∀b,v.ownBlock=some b→OwnB S0 w0.heap.size b:=fun b h=>.inl (Nat.le_trans hR.below.size (hf b h))
  refine hR.put hd (zcx hb) (fun j h=>by cases h) ⟨us,hown,hl.mono (fun b h=>hsh b (hS b h.1)) (fun _ _=>rfl),hx,hm,hfr⟩ hf (fun b hbb=>?_)
  have hvb:v.ownBlock=some b:=hbb
  exact⟨us,hown,hl.mono (fun c h=>⟨hsh c (hS c h.1),fun e=>h.2 (by rw[hvb,e])⟩) (fun _ _=>rfl),hx,hm,hfr⟩
theorem zoM(hR:Rel S0 w0 n s a w){f:Operand}{args:Array Operand}{r:RV}(hc:zh5 P s f args.toList r)
  {o:Oper}(ho:∃ts,o.op=.call { callee:=.value f,args:=args,argTypes:=ts }){d:Nat}(hd:S0.m≤d∧d<n)(hdst:o.dst=some d){K:Act→World→Prop}{Q:Exit→Act→World→Prop}
  (hK:∀a' w',Rel S0 w0 n (Ab.put (zbA s args.toList r) d r.av) a' w'→K a' w'):o.wp P a w K Q:=by
 obtain⟨ts,hop⟩:=ho
 unfold zh5 at hc
 split at hc
 ·rename_i pp g xs0 e0
  obtain⟨hpp,⟨fn,hfn,hname,hbody⟩,hcalls⟩:=hc
  obtain⟨caps,xs,p,q,fv,ef,e2,e1,rfl,rfl⟩:∃caps xs p q fv,sv s f=(p,fv)∧zga s args.toList=(q,some xs)∧zkD fv=some (g,caps)∧pp=(p∧q)∧xs0=xs++caps:=by
   unfold callee at e0
   split at e0
   ·rename_i p fv q xs ef e2
    split at e0
    ·rename_i g' caps e1
     simp only[Prod.mk.injEq,Option.some.injEq] at e0
     obtain⟨rfl,rfl,rfl⟩:=e0
     exact⟨caps,xs,p,q,fv,ef,e2,e1,rfl,rfl⟩
    ·simp at e0
   ·simp at e0
  obtain⟨hpf,hp⟩:=hpp
  have hsvf:=hR.sv f (by rw[ef];exact hpf)
  rw[ef] at hsvf
  obtain⟨us,hfv,hcap⟩:=zmC hsvf e1
  have hm:args.map a.eval=(args.toList.map a.eval).toArray:=by apply Array.ext';simp
  have hrun:(execOp a.eval o).run P w=.ok (.enter g (args.map a.eval++us)) w:=by
   simp only[execOp,hop,resolve,hfv,Deferred.ofValue,Sem.run_bind,Sem.run_pure,Result.andThen_ok,invoke,callFunc,run_program,hfn,hname,hbody,Bool.false_eq_true,if_false]
   simp
  unfold Oper.wp
  rw[hrun]
  simp only[Oper.upon]
  rw[hm,hdst]
  have hamb:=hR.lt.zJY hR.below
  cases hfl:r.flat with
  |true =>
   have hac:zbA s args.toList r=s:=by unfold zbA;rw[hfl]
   rw[hac] at hK
   refine(hcalls w (zvv S0 w0.heap.size w) _ ⟨fun b hb=>hb.2,fun b hb=>hb.elim,fun b _ hb=>hb.elim,hamb,fun b _ hb=>hb.elim⟩ ((ztc hR e2 hp).append (hcap.mono (fun b hb=>⟨hb.1,hb.2.1⟩)))).mono ?_
   rintro e w' ⟨v,rfl,hb,hr,hfr⟩
   exact hK _ w' (hR.back hd hb (hr.flat (S':=fun _=>False) hfl) (fun b hb=>hb.elim) hfr)
  |false =>
   have hac:zbA s args.toList r=zas s (zaX s args.toList):=by unfold zbA;rw[hfl]
   rw[hac] at hK
   have hR':=zb3 (zaX s args.toList) s hR
   refine(hcalls w (Shared S0 w0.heap.size w (zas s (zaX s args.toList)) (zai a)) _ ⟨fun b hb=>hb.2.1,fun b hb=>hb.elim,fun b _ hb=>hb.elim,hamb,fun b _ hb=>hb.elim⟩ ((zre hR _ e2 hp (fun i hi=>hi)).append (hcap.mono (fun b hb=>⟨hb.1,hb.2.1,fun k hk=>by
    have ho:(zas s (zaX s args.toList) k).zaa=true:=by
     cases ho:(zas s (zaX s args.toList) k).zaa with
     |true=>rfl
     |false=>rw[zao ho] at hk;cases hk
    rw[zc0 _ s k ho] at hk
    exact hb.2.2 k hk⟩)))).mono ?_
   rintro e w' ⟨v,rfl,hb,hr,hfr⟩
   exact hK _ w' (hR'.back hd hb hr (fun b h=>h) hfr)
 ·exact hc.elim
theorem zBJ(hR:Rel S0 w0 n s a w):∀{args:List Operand} {p:Prop} {xs:List XV},zkL s args=(p,some xs)→p →
  zcB w (zvv S0 w0.heap.size w) xs (args.map a.eval).toArray:=by
 intro args
 induction args with
 |nil =>
  intro p xs h _
  simp only[zkL,Prod.mk.injEq,Option.some.injEq] at h
  obtain⟨_,rfl⟩:=h
  exact⟨rfl,fun j x hj=>by simp at hj⟩
 |cons x r ih =>
  intro p xs h hp
  simp only[zkL] at h
  split at h
  ·rename_i q v q' vs e1 e2
   simp only[Prod.mk.injEq,Option.some.injEq] at h
   obtain⟨rfl,rfl⟩:=h
   have h1:=zHF hR e1 hp.1
   obtain⟨h2,h3⟩:=ih e2 hp.2
   refine⟨by simpa using h2,fun j y hj=>?_⟩
   cases j with
   |zero=>simp at hj;subst hj;exact⟨a.eval x,by simp,h1⟩
   |succ j =>
    simp only[List.getElem?_cons_succ] at hj
    obtain⟨u,hu,hr⟩:=h3 j y hj
    exact⟨u,by simpa using hu,hr⟩
  ·simp at h
theorem zBu(hR:Rel S0 w0 n s a w){f:Operand}{args:Array Operand}{d:Nat}{kr:RV→Prop}{m:Prop}(hc:zkw P (zgU s f args.toList) kr m)
  {o:Oper}(ho:∃ts,o.op=.call { callee:=.value f,args:=args,argTypes:=ts })(hd:S0.m≤d)(hdst:o.dst=some d){K:Act→World→Prop}{Q:Exit→Act→World→Prop}
  (hK:∀r,kr r→d<n∧∀a' w',Rel S0 w0 n (Ab.put s d r.av) a' w'→K a' w')(hm:m→o.wp P a w K Q):o.wp P a w K Q:=by
 obtain⟨ts,hop⟩:=ho
 unfold zkw at hc
 split at hc
 ·rename_i pp g xs0 e0
  obtain⟨hpp,⟨r,⟨⟨fn,hfn,hname,hbody⟩,hcalls⟩,hfl,hk⟩ | hcm⟩:=hc
  rotate_left
  ·exact hm hcm
  obtain⟨hdn,hK⟩:=hK r hk
  obtain⟨caps,xs,p,q,fv,ef,e2,e1,rfl,rfl⟩:∃caps xs p q fv,sv s f=(p,fv)∧zkL s args.toList=(q,some xs)∧zkD fv=some (g,caps)∧pp=(p∧q)∧xs0=xs++caps:=by
   unfold zgU at e0
   split at e0
   ·split at e0
    ·rename_i p fv q xs ef e2
     split at e0
     ·rename_i g' caps e1
      simp only[Prod.mk.injEq,Option.some.injEq] at e0
      obtain⟨rfl,rfl,rfl⟩:=e0
      exact⟨caps,xs,p,q,fv,ef,e2,e1,rfl,rfl⟩
     ·simp at e0
    ·simp at e0
   ·simp at e0
  obtain⟨hpf,hp⟩:=hpp
  have hsvf:=hR.sv f (by rw[ef];exact hpf)
  rw[ef] at hsvf
  obtain⟨us,hfv,hcap⟩:=zmC hsvf e1
  have hm:args.map a.eval=(args.toList.map a.eval).toArray:=by apply Array.ext';simp
  have hrun:(execOp a.eval o).run P w=.ok (.enter g (args.map a.eval++us)) w:=by
   simp only[execOp,hop,resolve,hfv,Deferred.ofValue,Sem.run_bind,Sem.run_pure,Result.andThen_ok,invoke,callFunc,run_program,hfn,hname,hbody,Bool.false_eq_true,if_false]
   simp
  unfold Oper.wp
  rw[hrun]
  simp only[Oper.upon]
  rw[hm,hdst]
  have hamb:=hR.lt.zJY hR.below
  refine(hcalls w (zvv S0 w0.heap.size w) _ ⟨fun b hb=>hb.2,fun b hb=>hb.elim,fun b _ hb=>hb.elim,hamb,fun b _ hb=>hb.elim⟩ ((zBJ hR e2 hp).append (hcap.mono (fun b hb=>⟨hb.1,hb.2.1⟩)))).mono ?_
  rintro e w' ⟨v,rfl,hb,hr,hfr⟩
  exact hK _ w' (hR.back ⟨hd,hdn⟩ hb (hr.flat (S':=fun _=>False) hfl) (fun b hb=>hb.elim) hfr)
 ·exact hm hc
end
end Go.Ab
