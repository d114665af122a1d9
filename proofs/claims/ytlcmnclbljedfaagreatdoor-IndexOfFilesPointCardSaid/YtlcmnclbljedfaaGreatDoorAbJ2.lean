/- A part of the proof: lemmas and contracts of functions. -/
import Derived.Test.YtlcmnclbljedfaaGreatDoorAbJ1
import Derived.Maps.AppendAt
import Derived.Laws.MakeOwn
import Derived.Lib.AppendZeros
set_option linter.all false
namespace Go.Ab
open Go Go.RowKit
variable [Amb]
section
variable {P:Program} {S0:Env} {w0 w:World} {n:Nat} {s:St} {a:Act}
theorem abound_ok (hR:Rel S0 w0 n s a w) {o:Option Operand} {other b:Int} {q:Prop} (h:abound s o other=(q,some b)) (hq:q) :
  (o=none∧b=other)∨∃x k,o=some x∧a.eval x=.int k b:=by
 cases o with
 | none=>simp only [abound,Prod.mk.injEq,Option.some.injEq] at h;exact .inl ⟨rfl,h.2.symm⟩
 | some x =>
  have hsv:=hR.sv x
  simp only [abound] at h
  split at h
  ·rename_i p k m e
   simp only [Prod.mk.injEq,Option.some.injEq] at h
   obtain ⟨h1,h2⟩:=h
   subst h1;subst h2
   rw [e] at hsv
   exact .inr ⟨x,k,rfl,rep_int (hsv hq)⟩
  ·simp at h
theorem run_sliceBound_in (k:IntKind) (i:Int) (y:Nat) (code:BoundsCode) (h0:0≤i) (h1:i≤y) :
  (Instr.sliceBound (.int k i) y code).run P w=.ok i.toNat w:=run_sliceBound (P:=P) (w:=w) k i y code h0 h1
theorem cutAt_bytes (l:List UInt8) (x y:Int) :
  (⟨l.toArray⟩:ByteArray).extract x.toNat y.toNat=⟨(cutAt l x y).toArray⟩:=by
 apply ByteArray.ext
 apply Array.ext'
 simp only [cutAt]
 rw [ByteArray.data_extract,Array.toList_extract,List.extract_eq_take_drop]
 simp only [List.drop_take]
theorem RepC.cut {S:Nat→Prop} {z:Nat} {xs:List (List CV)} {b:Option Addr} {c:Nat} (h:RepC w S (.list z xs) (.slice b xs.length c)) (lo hi m:Nat) (h1:lo≤hi) (h2:hi≤m) (h3:m≤c) (h4:hi≤xs.length) :
  RepC w S (.list z ((xs.take hi).drop lo)) (.slice (if m=lo then b else b.map (·.add (lo*z))) (hi-lo) (m-lo)):=by
 generalize hv:Value.slice b xs.length c=v at h
 cases h with
 | list0 b' c' _ hm hn =>
  simp only [Value.slice.injEq] at hv
  obtain ⟨rfl,_,rfl⟩:=hv
  have h4':hi=0:=by simpa using h4
  subst h4'
  have h1':lo=0:=by omega
  subst h1'
  simp only [List.take_nil,List.drop_nil,Nat.sub_self]
  exact .list0 _ _ _ (by omega) (fun hb=>by
   have hc:c=0:=by
    cases b with
    | none=>exact hn rfl
    | some b=>split at hb<;>simp at hb
   omega)
 | list ad cap _ _ U hs hsp hc hm hxl hU hrep =>
  simp only [Value.slice.injEq] at hv
  obtain ⟨rfl,_,rfl⟩:=hv
  have hlen:((xs.take hi).drop lo).length=hi-lo:=by rw [List.length_drop,List.length_take];omega
  by_cases he:hi=lo
  ·have hnil:(xs.take hi).drop lo=[]:=List.eq_nil_of_length_eq_zero (by omega)
   rw [hnil]
   have:hi-lo=0:=by omega
   rw [this]
   exact .list0 _ _ _ (by omega) (fun hb=>by split at hb<;>simp at hb)
  ·rw [if_neg (by omega)]
   rw [←hlen]
   have hat:∀(j:Nat) (c:CV),((xs.take hi).drop lo).flatten[j]?=some c→xs.flatten[lo*z+j]?=some c:=by
    intro j c hj
    rw [flatten_drop (fun x hx=>hxl x (List.mem_of_mem_take hx)),flatten_take hxl,List.getElem?_drop,List.getElem?_take] at hj
    split at hj
    ·exact hj
    ·cases hj
   refine .list (ad.add (lo*z)) _ _ _ (fun j=>U (lo*z+j)) (by rw [block_add];exact hs) (by unfold Addr.add;split<;>simp [hsp]) (by omega) (by omega) (fun x hx=>hxl x (List.mem_of_mem_take (List.mem_of_mem_drop hx))) ?_ ?_
   ·intro j c hj
    rw [addr_add_add]
    exact hU _ _ (hat j c hj)
   ·intro j c hj
    exact hrep _ _ (hat j c hj)
theorem sliceBounds_ok (hR:Rel S0 w0 n s a w) (isSlice:Bool) (len cap:Nat) {lo hi mx:Option Operand} {x y z:Int} {q r u:Prop} (hlc:len≤cap)
  (hlo:abound s lo 0=(q,some x)) (hhi:abound s hi len=(r,some y)) (hmx:(mx=none∧u)∨(∃e,mx=some e∧abound s mx len=(u,some z))) (hq:q) (hr:r) (hu:u)
  (h0:0≤x) (h1:x≤y) (h2:y≤len) (hz:mx≠none→y≤z∧z≤len) (hn:hi=none→mx=none) :
  (Instr.sliceBounds isSlice len cap (lo.map a.eval) (hi.map a.eval) (mx.map a.eval)).run P w=.ok (x.toNat,y.toNat,if mx=none then cap else z.toNat) w:=by
 have hl:=abound_ok hR hlo hq
 have hh:=abound_ok hR hhi hr
 rcases hmx with ⟨rfl,_⟩ | ⟨e,rfl,hm⟩
 ·simp only [Option.map_none,if_true]
  rcases hl with ⟨rfl,rfl⟩ | ⟨xl,kl,rfl,hel⟩<;>rcases hh with ⟨rfl,hyy⟩ | ⟨xh,kh,rfl,heh⟩
  ·simp [Instr.sliceBounds,hyy]
  ·simp [Instr.sliceBounds,heh,run_sliceBound_in (P:=P) (w:=w) kh y cap _ (by omega) (by omega)]
  ·simp [Instr.sliceBounds,hel,hyy,run_sliceBound_in (P:=P) (w:=w) kl x len _ (by omega) (by omega)]
  ·simp [Instr.sliceBounds,hel,heh,run_sliceBound_in (P:=P) (w:=w) kh y cap _ (by omega) (by omega),run_sliceBound_in (P:=P) (w:=w) kl x y.toNat _ (by omega) (by omega)]
 ·obtain ⟨hz1,hz2⟩:=hz (by simp)
  have hm':=abound_ok hR hm hu
  rcases hm' with ⟨h,_⟩ | ⟨xm,km,he,hem⟩
  ·cases h
  injection he with he
  subst he
  rcases hh with ⟨rfl,hyy⟩ | ⟨xh,kh,rfl,heh⟩
  ·have:=hn rfl;cases this
  rcases hl with ⟨rfl,rfl⟩ | ⟨xl,kl,rfl,hel⟩
  ·simp [Instr.sliceBounds,heh,hem,run_sliceBound_in (P:=P) (w:=w) km z cap _ (by omega) (by omega),run_sliceBound_in (P:=P) (w:=w) kh y z.toNat _ (by omega) (by omega)]
  ·simp [Instr.sliceBounds,heh,hem,hel,run_sliceBound_in (P:=P) (w:=w) km z cap _ (by omega) (by omega),run_sliceBound_in (P:=P) (w:=w) kh y z.toNat _ (by omega) (by omega),run_sliceBound_in (P:=P) (w:=w) kl x y.toNat _ (by omega) (by omega)]
theorem aslice_shape {t:TypeId} {x:Prop×AV} {lo hi mx:Option Operand} (hp:(aslice P s t x lo hi mx).1) :
  (∃l,x.2=.x (.one (.str l)))∨(∃z xs,x.2=.x (.one (.list z xs)))∨x.2=.x (.one .nil)∨(∃i e z xs,x.2=.alias i∧s i=.own e z xs)∨∃i lo len wh,x.2=.view i lo len wh:=by
 unfold aslice at hp
 split at hp
 ·exact .inl ⟨_,rfl⟩
 ·exact .inr (.inl ⟨_,_,rfl⟩)
 ·exact .inr (.inr (.inl rfl))
 ·split at hp
  ·rename_i h;exact .inr (.inr (.inr (.inl ⟨_,_,_,_,rfl,h⟩)))
  ·exact hp.elim
 ·exact .inr (.inr (.inr (.inr ⟨_,_,_,_,rfl⟩)))
 ·exact hp.elim
theorem view_cut {s:St} {tm:Nat→Value} {i:Nat} {v:Value} {b:Option Addr} {len c lo0:Nat} {wh:Bool} (hv:v=.slice b len c) (hown:(s i).isOwner=true) (hle:lo0+len≤(s i).len) (hcm:c≤maxLen)
  (hb:b=none→c=0) (hk:∀ad,b=some ad→∃g off,ad=⟨g,off,none⟩∧blkOf (s i) (tm i)=some g∧(0<len→off=lo0*(s i).size)∧(wh=true→lo0=0∧∃l,(s i).valOf (tm i)=.slice (some ad) l c)) {S:Nat→Prop} {B:Nat→Prop} {w:World}
  (lo hi m z:Nat) (hz:z=(s i).size) (h1:lo≤hi) (h2:hi≤m) (h3:m≤c) (h4:hi≤len) {wh':Bool} (hwh:wh'=true→wh=true∧lo=0∧m=c) :
  RepAV w S B s tm (.view i (lo0+lo) (hi-lo) wh') (.slice (if m=lo then b else b.map (·.add (lo*z))) (hi-lo) (m-lo)):=by
 refine ⟨hown,by omega,?_⟩
 cases b with
 | none =>
  have hc0:=hb rfl
  refine .inl ⟨?_,by omega⟩
  have e1:hi-lo=0:=by omega
  have e2:m-lo=0:=by omega
  simp [e1,e2]
 | some ad =>
  obtain ⟨g,off,rfl,hg,ho,hw⟩:=hk ad rfl
  by_cases hml:m=lo
  ·refine .inr ⟨g,off,m-lo,by rw [if_pos hml],by omega,by omega,hg,fun h=>by omega,fun h=>?_⟩
   obtain ⟨h5,h6,h7⟩:=hwh h
   obtain ⟨h8,l,h9⟩:=hw h5
   exact ⟨by omega,l,by rw [h9,h7,h6];rfl⟩
  ·refine .inr ⟨g,off+lo*z,m-lo,by rw [if_neg hml];simp [addr_add_lit],by omega,by omega,hg,fun h=>by rw [ho (by omega),hz,Nat.add_mul],fun h=>?_⟩
   obtain ⟨h5,h6,h7⟩:=hwh h
   obtain ⟨h8,l,h9⟩:=hw h5
   refine ⟨by omega,l,by rw [h9,h7,h6];simp⟩
theorem aslice_ok {t:TypeId} {x:Prop×AV} {v:Value} {lo hi mx:Option Operand} (hR:Rel S0 w0 n s a w) (hx:Knows S0 w0 s a w x v) (hp:(aslice P s t x lo hi mx).1) :
  Yields P S0 w0 s a w (Instr.sliceAt t v (lo.map a.eval) (hi.map a.eval) (mx.map a.eval)) (aslice P s t x lo hi mx).2:=by
 have hsh:=aslice_shape hp
 obtain ⟨p,x⟩:=x
 dsimp only at hsh
 rcases hsh with ⟨l,rfl⟩ | ⟨z,xs,rfl⟩ | rfl | ⟨i,e,z,xs,rfl,hs⟩ | ⟨i,lo0,len,wh,rfl⟩
 ·simp only [aslice] at hp ⊢
  split at hp
  ·rename_i q lo' r hi' e1 e2
   obtain ⟨h1,h2,h3,h4,h5,h6,h7⟩:=hp
   obtain ⟨rfl,hl⟩:=rep_str (hx h1)
   have hu:=isStringT_ok h4
   have hb:=sliceBounds_ok (P:=P) hR false l.length l.length (mx:=none) (u:=True) (z:=0) (Nat.le_refl _) e1 e2 (.inl ⟨rfl,trivial⟩) h2 h3 trivial h5 h6 h7 (by simp) (by simp)
   simp only [Option.map_none,if_true] at hb
   refine ⟨.string ⟨(cutAt l lo' hi').toArray⟩,?_,RepC.str _ ?_,rfl⟩
   ·simp [Instr.sliceAt,Instr.slice,run_underlying hu,bytesSize,hb,cutAt_bytes l lo' hi']
   ·simp only [cutAt,List.length_drop,List.length_take];omega
  ·exact hp.elim
 ·simp only [aslice] at hp ⊢
  split at hp
  ·rename_i e size q lo' r hi' u mx' hT e1 e2 e3
   obtain ⟨h1,h2,h3,h4,rfl,h6,h7,h8,h9,h10⟩:=hp
   have hr:=hx h1
   obtain ⟨i,hu,hinf,hsz,_⟩:=sliceT_ok hT
   have hform:∃b c,v=.slice b xs.length c∧xs.length≤c:=by
    cases hr with
    | list0 b c _ _ _=>exact ⟨b,c,rfl,Nat.zero_le _⟩
    | list ad cap _ _ _ _ _ hc=>exact ⟨_,cap,rfl,hc⟩
   obtain ⟨b,c,rfl,hc⟩:=hform
   by_cases hmn:mx=none
   ·subst hmn
    have hb:=sliceBounds_ok (P:=P) hR true xs.length c (mx:=none) (u:=True) (z:=0) hc e1 e2 (.inl ⟨rfl,trivial⟩) h2 h3 trivial h6 h7 (by omega) (by simp) (by simp)
    simp only [Option.map_none,if_true] at hb
    refine ⟨_,?_,hr.cut lo'.toNat hi'.toNat c (by omega) (by omega) (Nat.le_refl _) (by omega),rfl⟩
    simp [Instr.sliceAt,Instr.slice,run_underlying hu,hb,run_sizeOf hinf,hsz]
   ·obtain ⟨em,rfl⟩:∃em,mx=some em:=Option.ne_none_iff_exists'.1 hmn
    have hb:=sliceBounds_ok (P:=P) hR true xs.length c (mx:=some em) (u:=u) (z:=mx') hc e1 e2 (.inr ⟨em,rfl,e3⟩) h2 h3 h4 h6 h7 (by omega) (fun _=>⟨h8,h9⟩) h10
    rw [if_neg hmn] at hb
    simp only [Option.map_some] at hb
    refine ⟨_,?_,hr.cut lo'.toNat hi'.toNat mx'.toNat (by omega) (by omega) (by omega) (by omega),rfl⟩
    simp [Instr.sliceAt,Instr.slice,run_underlying hu,hb,run_sizeOf hinf,hsz]
  ·exact hp.elim
 ·simp only [aslice] at hp ⊢
  split at hp
  ·rename_i q lo' r hi' hT e1 e2
   obtain ⟨h1,h2,h3,rfl,rfl⟩:=hp
   obtain rfl:=rep_nil (hx h1)
   obtain ⟨i,hu,hinf,hsz,_⟩:=sliceT_ok hT
   have hb:=sliceBounds_ok (P:=P) hR true 0 0 (mx:=none) (u:=True) (z:=0) (Nat.le_refl _) e1 e2 (.inl ⟨rfl,trivial⟩) h2 h3 trivial (by omega) (by omega) (by omega) (by simp) (by simp)
   simp only [Option.map_none,if_true] at hb
   refine ⟨_,?_,RepC.nil,rfl⟩
   simp [Instr.sliceAt,Instr.slice,run_underlying hu,hb,run_sizeOf hinf,hsz]
  ·exact hp.elim
 ·simp only [aslice,hs] at hp ⊢
  split at hp
  ·rename_i e' size q lo' r hi' u mx' hT e1 e2 e3
   obtain ⟨h1,h2,h3,h4,rfl,h6,h7,h8,h9,h10⟩:=hp
   obtain ⟨rfl,hown'⟩:=RepAV.alias_own (hx h1) hs
   obtain ⟨j,hu,hinf,hsz,_⟩:=sliceT_ok hT
   have hi:=hR.rep i
   rw [hs] at hi
   obtain ⟨us,hown,_,_,hm,_⟩:=hi
   have hform:∃b c,tmOf a i=.slice b xs.length c∧xs.length≤c∧c≤maxLen∧(b=none→c=0)∧∀ad,b=some ad→∃g,ad=⟨g,0,none⟩∧blkOf (s i) (tmOf a i)=some g:=by
    rcases hown.2 with ⟨h,h0⟩ | ⟨g,cap,cur,hv,_,_,hc,hcm,_⟩
    ·exact ⟨none,0,by rw [h,h0],by omega,by simp,fun _=>rfl,fun ad h=>(by cases h)⟩
    ·exact ⟨_,cap,hv,hc,hcm,fun h=>(by cases h),fun ad h=>by injection h with h;subst h;exact ⟨g,rfl,by rw [hs];show Value.ownBlock _=_;rw [hv];rfl⟩⟩
   obtain ⟨b,c,hv,hlc,hcm,hbn,hbs⟩:=hform
   have hcut:=fun (m:Nat) (wh':Bool) h2 h3 (hwh:wh'=true→lo'.toNat=0∧m=c)=>view_cut (s:=s) (tm:=tmOf a) (i:=i) (lo0:=0) (wh:=true) (S:=Shared S0 w0.heap.size w s (tmOf a)) (B:=OwnB S0 w0.heap.size) (w:=w) hv hown' (by rw [hs];simp [AV.len]) hcm hbn
    (fun ad had=>by obtain ⟨g,h1,h2⟩:=hbs ad had;exact ⟨g,0,h1,h2,fun _=>by simp,fun _=>⟨rfl,_,by rw [hs];exact (by rw [hv,had]:tmOf a i=_)⟩⟩) lo'.toNat hi'.toNat m z (by rw [hs];rfl) (by omega) h2 h3 (by omega) (wh':=wh') (fun h=>⟨rfl,hwh h⟩)
   have hval:a.eval (.tmp i)=tmOf a i:=rfl
   by_cases hmn:mx=none
   ·subst hmn
    have hb:=sliceBounds_ok (P:=P) hR true xs.length c (mx:=none) (u:=True) (z:=0) hlc e1 e2 (.inl ⟨rfl,trivial⟩) h2 h3 trivial h6 h7 (by omega) (by simp) (by simp)
    simp only [Option.map_none,if_true] at hb
    have:=hcut c (lo.isNone&&(none:Option Operand).isNone) (by omega) (Nat.le_refl _) (fun h=>⟨by
     have hl:lo=none:=by simpa using h
     subst hl
     simp [abound] at e1
     rw [←e1.2];rfl,rfl⟩)
    rw [Nat.zero_add] at this
    refine ⟨_,?_,this,rfl⟩
    rw [hv]
    simp [Instr.sliceAt,Instr.slice,run_underlying hu,hb,run_sizeOf hinf,hsz]
   ·obtain ⟨em,rfl⟩:∃em,mx=some em:=Option.ne_none_iff_exists'.1 hmn
    have hb:=sliceBounds_ok (P:=P) hR true xs.length c (mx:=some em) (u:=u) (z:=mx') hlc e1 e2 (.inr ⟨em,rfl,e3⟩) h2 h3 h4 h6 h7 (by omega) (fun _=>⟨h8,h9⟩) h10
    rw [if_neg hmn] at hb
    simp only [Option.map_some] at hb
    have:=hcut mx'.toNat (lo.isNone&&(some em).isNone) (by omega) (by omega) (fun h=>by simp at h)
    rw [Nat.zero_add] at this
    refine ⟨_,?_,this,rfl⟩
    rw [hv]
    simp [Instr.sliceAt,Instr.slice,run_underlying hu,hb,run_sizeOf hinf,hsz]
  ·exact hp.elim
 ·simp only [aslice] at hp ⊢
  split at hp
  ·rename_i e' size q lo' r hi' u mx' hT e1 e2 e3
   obtain ⟨h1,h2,h3,h4,h5,h6,h7,h8,h9,h10⟩:=hp
   obtain ⟨hown',hle,hvv⟩:=hx h1
   obtain ⟨j,hu,hinf,hsz,_⟩:=sliceT_ok hT
   have hform:∃b c,v=.slice b len c∧len≤c∧c≤maxLen∧(b=none→c=0)∧∀ad,b=some ad→∃g off,ad=⟨g,off,none⟩∧blkOf (s i) (tmOf a i)=some g∧(0<len→off=lo0*(s i).size)∧(wh=true→lo0=0∧∃l,(s i).valOf (tmOf a i)=.slice (some ad) l c):=by
    rcases hvv with ⟨h,h0⟩ | ⟨g,off,cap,hv,hc,hcm,hk,hz,hw⟩
    ·exact ⟨none,0,by rw [h,h0],by omega,by simp,fun _=>rfl,fun ad h=>(by cases h)⟩
    ·exact ⟨_,cap,hv,hc,hcm,fun h=>(by cases h),fun ad h=>by injection h with h;subst h;exact ⟨g,off,rfl,hk,hz,hw⟩⟩
   obtain ⟨b,c,hv,hlc,hcm,hbn,hbs⟩:=hform
   have hcut:=fun (m:Nat) (wh':Bool) h2 h3 (hwh:wh'=true→wh=true∧lo'.toNat=0∧m=c)=>view_cut (s:=s) (tm:=tmOf a) (i:=i) (lo0:=lo0) (wh:=wh) (S:=Shared S0 w0.heap.size w s (tmOf a)) (B:=OwnB S0 w0.heap.size) (w:=w) hv hown' hle hcm hbn
    hbs lo'.toNat hi'.toNat m size h5.symm (by omega) h2 h3 (by omega) (wh':=wh') hwh
   by_cases hmn:mx=none
   ·subst hmn
    have hb:=sliceBounds_ok (P:=P) hR true len c (mx:=none) (u:=True) (z:=0) hlc e1 e2 (.inl ⟨rfl,trivial⟩) h2 h3 trivial h6 h7 (by omega) (by simp) (by simp)
    simp only [Option.map_none,if_true] at hb
    have:=hcut c (wh&&(lo.isNone&&(none:Option Operand).isNone)) (by omega) (Nat.le_refl _) (fun h=>by
     rw [Bool.and_eq_true] at h
     have hl:lo=none:=by simpa using h.2
     subst hl
     simp [abound] at e1
     exact ⟨h.1,by rw [←e1.2];rfl,rfl⟩)
    refine ⟨_,?_,this,rfl⟩
    rw [hv]
    simp [Instr.sliceAt,Instr.slice,run_underlying hu,hb,run_sizeOf hinf,hsz]
   ·obtain ⟨em,rfl⟩:∃em,mx=some em:=Option.ne_none_iff_exists'.1 hmn
    have hb:=sliceBounds_ok (P:=P) hR true len c (mx:=some em) (u:=u) (z:=mx') hlc e1 e2 (.inr ⟨em,rfl,e3⟩) h2 h3 h4 h6 h7 (by omega) (fun _=>⟨h8,h9⟩) h10
    rw [if_neg hmn] at hb
    simp only [Option.map_some] at hb
    have:=hcut mx'.toNat (wh&&(lo.isNone&&(some em).isNone)) (by omega) (by omega) (fun h=>by simp at h)
    refine ⟨_,?_,this,rfl⟩
    rw [hv]
    simp [Instr.sliceAt,Instr.slice,run_underlying hu,hb,run_sizeOf hinf,hsz]
  ·exact hp.elim
theorem map_mk {α β:Type} (f:α→β) (l:List α):Array.map f ⟨l⟩=⟨l.map f⟩:=by
 apply Array.ext';simp
theorem run_v {m:Sem Value} {v:Value} (h:m.run P w=.ok v w):((do pure (.value (←m)):Sem Next)).run P w=.ok (.value v) w:=by
 simp [h]
theorem cellsR_ok (hR:Rel S0 w0 n s a w):∀(l:List Operand) {p:Prop} {cs:List CV},cellsR (l.map (Ab.sv s))=(p,some cs)→p →
  l.length=cs.length∧∀(j:Nat) (c:CV),cs[j]?=some c→RepC w (Shared S0 w0.heap.size w s (tmOf a)) c (a.eval ((l[j]?).getD (.tmp 0)))
 | [],p,cs,h,_=>by
  simp only [List.map_nil,cellsR,Prod.mk.injEq,Option.some.injEq] at h
  obtain ⟨_,rfl⟩:=h
  exact ⟨rfl,fun j c hj=>by simp at hj⟩
 | x::l,p,cs,h,hp=>by
  simp only [List.map_cons] at h
  have hsv:=hR.sv x
  generalize Ab.sv s x=q at h hsv
  obtain ⟨q,v⟩:=q
  unfold cellsR at h
  split at h
  ·rename_i e;cases e
  ·rename_i q' c r e
   injection e with e1 e2
   injection e1 with e1 e3
   subst e1;subst e3;subst e2
   split at h
   ·rename_i q2 cs' e
    simp only [Prod.mk.injEq,Option.some.injEq] at h
    obtain ⟨rfl,rfl⟩:=h
    obtain ⟨h1,h2⟩:=cellsR_ok hR l e hp.2
    refine ⟨by simp [h1],fun j c' hj=>?_⟩
    cases j with
    | zero=>simp at hj;subst hj;exact hsv hp.1
    | succ j=>simp at hj;simpa using h2 j c' hj
   ·simp at h
  ·simp at h
theorem capsR_ok (hR:Rel S0 w0 n s a w):∀(l:List Operand) {p:Prop} {cs:List (CV ⊕ (Nat×Nat))},capsR (l.map (Ab.sv s))=(p,some cs)→p →
  l.length=cs.length∧∀(j:Nat) (c:CV ⊕ (Nat×Nat)),cs[j]?=some c→CapRep w (Shared S0 w0.heap.size w s (tmOf a)) s (tmOf a) c (a.eval ((l[j]?).getD (.tmp 0)))
 | [],p,cs,h,_=>by
  simp only [List.map_nil,capsR,Prod.mk.injEq,Option.some.injEq] at h
  obtain ⟨_,rfl⟩:=h
  exact ⟨rfl,fun j c hj=>by simp at hj⟩
 | x::l,p,cs,h,hp=>by
  simp only [List.map_cons] at h
  have hsv:=hR.sv x
  generalize Ab.sv s x=q at h hsv
  obtain ⟨q,v⟩:=q
  unfold capsR at h
  split at h
  ·rename_i e;cases e
  ·rename_i q' c r e
   injection e with e1 e2
   injection e1 with e1 e3
   subst e1;subst e3;subst e2
   split at h
   ·rename_i q2 cs' e
    simp only [Prod.mk.injEq,Option.some.injEq] at h
    obtain ⟨rfl,rfl⟩:=h
    obtain ⟨h1,h2⟩:=capsR_ok hR l e hp.2
    refine ⟨by simp [h1],fun j c' hj=>?_⟩
    cases j with
    | zero=>simp at hj;subst hj;exact hsv hp.1
    | succ j=>simp at hj;simpa using h2 j c' hj
   ·simp at h
  ·rename_i q' i off r e
   injection e with e1 e2
   injection e1 with e1 e3
   subst e1;subst e3;subst e2
   split at h
   ·rename_i q2 cs' e
    simp only [Prod.mk.injEq,Option.some.injEq] at h
    obtain ⟨rfl,rfl⟩:=h
    obtain ⟨h1,h2⟩:=capsR_ok hR l e hp.2.2
    refine ⟨by simp [h1],fun j c' hj=>?_⟩
    cases j with
    | zero=>simp at hj;subst hj;rw [capRep_inr,if_pos hp.2.1];exact hsv hp.1
    | succ j=>simp at hj;simpa using h2 j c' hj
   ·simp at h
  ·rename_i q' i off r e
   injection e with e1 e2
   injection e1 with e1 e3
   subst e1;subst e3;subst e2
   split at h
   ·rename_i q2 cs' e
    simp only [Prod.mk.injEq,Option.some.injEq] at h
    obtain ⟨rfl,rfl⟩:=h
    obtain ⟨h1,h2⟩:=capsR_ok hR l e hp.2
    refine ⟨by simp [h1],fun j c' hj=>?_⟩
    cases j with
    | zero =>
     simp at hj;subst hj
     rw [capRep_inr,if_neg (by simp),Nat.add_sub_cancel]
     exact hsv hp.1
    | succ j=>simp at hj;simpa using h2 j c' hj
   ·simp at h
  ·simp at h
theorem amakeFunc_ok {fn:Fn} {first captured:Array Operand} (hR:Rel S0 w0 n s a w) (hp:(amakeFunc s fn first.toList captured.toList).1) :
  Yields P S0 w0 s a w (Instr.makeFunc fn (first.map a.eval) (captured.map a.eval)) (amakeFunc s fn first.toList captured.toList).2:=by
 unfold amakeFunc at hp ⊢
 split at hp
 ·rename_i f hf
  split at hp
  ·rename_i p cs e
   obtain ⟨h1,h2⟩:=cellsR_ok hR captured.toList e hp
   have hfirst:first=#[]:=by cases first;simp_all
   subst hfirst
   refine ⟨.func (.func f) #[] (captured.map a.eval),by simp [Instr.makeFunc],?_,rfl⟩
   have he:captured.map a.eval=((List.range cs.length).map fun j=>a.eval ((captured.toList[j]?).getD (.tmp 0))).toArray:=by
    apply Array.ext'
    rw [←h1]
    apply List.ext_getElem?
    intro j
    simp only [Array.toList_map,List.getElem?_map]
    by_cases hj:j<captured.toList.length
    ·have hj':j<captured.size:=by simpa using hj
     rw [List.getElem?_range hj,List.getElem?_eq_getElem hj];simp [hj']
    ·rw [List.getElem?_eq_none (by omega),List.getElem?_eq_none (by simp at hj ⊢;omega)];rfl
   rw [he]
   exact RepC.clo f cs _ h2
  ·split at hp
   ·rename_i p cs e
    obtain ⟨h1,h2⟩:=capsR_ok hR captured.toList e hp
    have hfirst:first=#[]:=by cases first;simp_all
    subst hfirst
    refine ⟨.func (.func f) #[] (captured.map a.eval),by simp [Instr.makeFunc],⟨_,rfl,by simpa using h1,fun j c hj=>?_⟩,rfl⟩
    have hlt:j<captured.toList.length:=by rw [h1];exact (List.getElem?_eq_some_iff.1 hj).1
    have hlt':j<captured.size:=by simpa using hlt
    have:=h2 j c hj
    rw [List.getElem?_eq_getElem hlt] at this
    refine ⟨a.eval captured[j],by simp [hlt'],?_⟩
    simpa using this
   ·exact hp.elim
 ·exact hp.elim
theorem abinO_ok (op:BinOp) (t:TypeId) (x y:Operand) (hR:Rel S0 w0 n s a w) (hp:(abinO P s op t x y).1) :
  Yields P S0 w0 s a w (do eqGuard op t x y (a.eval x) (a.eval y);binOp op t (a.eval x) (a.eval y)) (abinO P s op t x y).2:=by
 unfold abinO at hp ⊢
 cases hy:isNilI y with
 | true =>
  obtain rfl:=isNilI_eq hy
  rw [hy,cond_true] at hp
  exact anilI_ok op t x (hR.sv x) hp
 | false =>
  rw [hy,cond_false] at hp
  exact abinX_ok op t x y (hR.sv x) (hR.sv y) hp
theorem aval_ok (hR:Rel S0 w0 n s a w) (o:Oper) (hp:(aval P s o.op).1) :
  ∃v,(execOp a.eval o).run P w=.ok (.value v) w∧RepIn S0 w0 s a w (aval P s o.op).2 v∧(aval P s o.op).2.isOwner=false:=by
 obtain ⟨dst,op,type,pos,after,guard⟩:=o
 dsimp only at hp ⊢
 cases op with
 | move x=>exact ⟨_,rfl,hR.sv x hp,hR.sv_notOwner x⟩
 | assign x=>exact ⟨_,rfl,hR.look x,look_notOwner x⟩
 | pick c x y =>
  obtain ⟨v,h1,h2,h3⟩:=apick_ok (P:=P) (hR.sv c) (hR.sv x) (hR.sv y) hp
  refine ⟨v,?_,h2,h3⟩
  simp only [execOp]
  cases hb:(asBool (a.eval c)).run P w with
  | ok b w' =>
   simp only [Sem.run_bind,hb,Result.andThen_ok,Sem.run_pure] at h1 ⊢
   injection h1 with h1 h4
   rw [h1,h4]
  | halt e w'=>simp only [Sem.run_bind,hb,Result.andThen_halt] at h1;cases h1
 | load t x =>
  by_cases hind:∃p i off,Ab.sv s x=(p,.ptr2 i off)
  ·obtain ⟨p,i,off,e⟩:=hind
   have hsv:=hR.sv x
   simp only [aval,loadV,e] at hp hsv ⊢
   cases hk:tk P t with
   | one =>
    rw [hk] at hp
    obtain ⟨b1,b,hv,hS,hc,hb⟩:=hsv hp
    refine ⟨.pointer (some ⟨b,off,none⟩),?_,⟨b,rfl,hb⟩,rfl⟩
    simp only [execOp,hv]
    refine run_v ?_
    simp [Instr.loadAt,Instr.sureAddr,loadVar,tk_one (w:=w) hk,hc]
   | _=>rw [hk] at hp;exact hp.elim
  have hload:loadV P s t (Ab.sv s x)=linkLoad s (Ab.sv s x).2 (aload (tk P t) (zeroX P t) (Ab.sv s x).1 (Ab.mem s (Ab.sv s x).2)):=by
   unfold loadV
   split
   ·rename_i e;exact absurd ⟨_,_,_,e⟩ hind
   ·rfl
  have hp':(aload (tk P t) (zeroX P t) (Ab.sv s x).1 (Ab.mem s (Ab.sv s x).2)).1:=by
   simp only [aval,hload] at hp
   rcases linkLoad_or s (Ab.sv s x).2 (aload (tk P t) (zeroX P t) (Ab.sv s x).1 (Ab.mem s (Ab.sv s x).2)) with e | ⟨p,i,off,d,e1,_,_,e4⟩
   ·rw [e] at hp;exact hp
   ·rw [e4] at hp;rw [e1];exact hp
  obtain ⟨v,h1,h2,h3⟩:=aload_ok (P:=P) (t:=t) (fun hp cs hm=>hR.mem (hR.sv x hp) hm) hp'
  simp only [aval,hload]
  rcases linkLoad_or s (Ab.sv s x).2 (aload (tk P t) (zeroX P t) (Ab.sv s x).1 (Ab.mem s (Ab.sv s x).2)) with e | ⟨p,i,off,d,e1,e2,e3,e4⟩
  ·rw [e];exact ⟨v,run_v h1,h2,h3⟩
  ·rw [e4]
   refine ⟨v,run_v h1,?_,rfl⟩
   have hl:=hR.rep (LK i off)
   rw [e3] at hl
   obtain ⟨ho,cs,b,k1,k2,k3,k4⟩:=hl
   refine ⟨?_,ho⟩
   have hk:tk P t=.one:=by
    have h0:=congrArg Prod.snd e1
    cases hm:Ab.mem s (Ab.sv s x).2 with
    | none=>rw [hm] at h0;cases h0
    | some cs =>
     rw [hm] at h0
     simp only [aload] at h0
     cases hk:tk P t with
     | one=>rfl
     | agg m=>rw [hk] at h0;simp [acutZ,acut] at h0
     | bad=>rw [hk] at h0;simp [acutZ,acut] at h0
   have hsv:RepIn S0 w0 s a w (Ab.sv s x).2 (a.eval x):=by
    refine hR.sv x ?_
    cases hm:Ab.mem s (Ab.sv s x).2 with
    | none=>rw [hm] at hp';exact hp'.elim
    | some cs =>
     rw [hm,hk] at hp'
     simp only [aload] at hp'
     cases cs with
     | nil=>simp only [acutZ] at hp';split at hp'<;>exact hp'.elim
     | cons c cs=>exact hp'
   rw [e2] at hsv
   obtain ⟨b',hv',hb'⟩:=hsv
   rw [k3] at hb'
   injection hb' with hb'
   subst hb'
   rw [hv'] at h1
   simp [Instr.loadAt,Instr.sureAddr,loadVar,tk_one (w:=w) hk,k4] at h1
   rw [←h1]
   simp [tmOf]
 | nilCheck x =>
  simp only [aval] at hp ⊢
  have hsv:=hR.sv x
  have hno:=hR.sv_notOwner x
  cases hpt:isPtr (Ab.sv s x).2 with
  | false=>rw [hpt] at hp;exact hp.elim
  | true =>
   rw [hpt] at hp
   have hr:=hsv hp
   refine ⟨a.eval x,?_,hr,hno⟩
   have hptr:∃ad,a.eval x=.pointer (some ad):=by
    cases hx:(Ab.sv s x).2 with
    | ptr i off=>rw [hx] at hr;obtain ⟨b,h,_⟩:=hr;exact ⟨_,h⟩
    | eptr i k off=>rw [hx] at hr;obtain ⟨b,h,_⟩:=hr;exact ⟨_,h⟩
    | elem cs=>rw [hx] at hr;obtain ⟨ad,h,_⟩:=hr;exact ⟨_,h⟩
    | _=>rw [hx] at hpt;cases hpt
   obtain ⟨ad,had⟩:=hptr
   simp only [execOp,had]
   rfl
 | binOp op t x y yt =>
  obtain ⟨v,h1,h2,h3⟩:=abinO_ok (P:=P) op t x y hR hp
  exact ⟨v,run_v h1,h2,h3⟩
 | unOp op t x =>
  obtain ⟨v,h1,h2,h3⟩:=aunop_ok (P:=P) (hR.sv x) hp
  exact ⟨v,run_v h1,h2,h3⟩
 | convert src dst x =>
  obtain ⟨v,h1,h2,h3⟩:=aconvert_ok (P:=P) hR (hR.sv x) hp
  exact ⟨v,run_v h1,h2,h3⟩
 | slice t x lo hi mx =>
  obtain ⟨v,h1,h2,h3⟩:=aslice_ok (P:=P) hR (hR.sv x) hp
  exact ⟨v,run_v h1,h2,h3⟩
 | fieldAddr t x f =>
  obtain ⟨v,h1,h2,h3⟩:=afieldAddr_ok (P:=P) (hR.sv x) hp
  exact ⟨v,run_v h1,h2,h3⟩
 | field t x f =>
  obtain ⟨v,h1,h2,h3⟩:=afield_ok (P:=P) (hR.sv x) hp
  exact ⟨v,run_v h1,h2,h3⟩
 | indexAddr t x i =>
  obtain ⟨v,h1,h2,h3⟩:=aindexAddr_ok (P:=P) hR (hR.sv x) (hR.sv i) hp
  exact ⟨v,run_v h1,h2,h3⟩
 | index t x i =>
  obtain ⟨v,h1,h2,h3⟩:=aindex_ok (P:=P) (hR.sv x) (hR.sv i) hp
  exact ⟨v,run_v h1,h2,h3⟩
 | makeFunc fn first captured =>
  obtain ⟨v,h1,h2,h3⟩:=amakeFunc_ok (P:=P) hR hp
  exact ⟨v,run_v h1,h2,h3⟩
 | lookup t x k ok =>
  obtain ⟨v,h1,h2,h3⟩:=alookup_ok (P:=P) hR (hR.sv x) (hR.sv k) hp
  exact ⟨v,run_v h1,h2,h3⟩
 | extract x i =>
  obtain ⟨v,h1,h2,h3⟩:=aextract_ok (P:=P) (hR.sv x) hp
  exact ⟨v,run_v h1,h2,h3⟩
 | call c =>
  obtain ⟨callee,⟨args⟩,⟨argTypes⟩⟩:=c
  simp only [aval] at hp ⊢
  unfold abuiltin at hp ⊢
  split at hp
  ·split at hp
   ·obtain ⟨v,h1,h2,h3⟩:=alen_ok (P:=P) (ty:=type) hR (hR.sv _) hp
    refine ⟨v,?_,h2,h3⟩
    simp only [execOp,resolve,Sem.run_bind,Sem.run_pure,Result.andThen_ok,invoke,builtin,map_mk,List.map_cons,List.map_nil]
    exact congrArg (fun r=>Result.andThen r fun (a:Value) w'=>Result.ok (Next.value a) w') h1
   ·exact hp.elim
  ·split at hp
   ·obtain ⟨v,h1,h2,h3⟩:=acap_ok (P:=P) (ty:=type) (hR.sv _) hp
    refine ⟨v,?_,h2,h3⟩
    simp only [execOp,resolve,Sem.run_bind,Sem.run_pure,Result.andThen_ok,invoke,builtin,map_mk,List.map_cons,List.map_nil]
    exact congrArg (fun r=>Result.andThen r fun (a:Value) w'=>Result.ok (Next.value a) w') h1
   ·exact hp.elim
  ·split at hp
   ·obtain ⟨v,h1,h2,h3⟩:=amax_ok (P:=P) (ts:=⟨argTypes⟩) (ty:=type) (hR.sv _) (hR.sv _) hp
    refine ⟨v,?_,h2,h3⟩
    simp only [execOp,resolve,Sem.run_bind,Sem.run_pure,Result.andThen_ok,invoke,builtin,map_mk,List.map_cons,List.map_nil]
    exact congrArg (fun r=>Result.andThen r fun (a:Value) w'=>Result.ok (Next.value a) w') h1
   ·exact hp.elim
  ·split at hp
   ·obtain ⟨v,h1,h2,h3⟩:=amin_ok (P:=P) (ts:=⟨argTypes⟩) (ty:=type) (hR.sv _) (hR.sv _) hp
    refine ⟨v,?_,h2,h3⟩
    simp only [execOp,resolve,Sem.run_bind,Sem.run_pure,Result.andThen_ok,invoke,builtin,map_mk,List.map_cons,List.map_nil]
    exact congrArg (fun r=>Result.andThen r fun (a:Value) w'=>Result.ok (Next.value a) w') h1
   ·exact hp.elim
  ·exact hp.elim
 | _=>exact hp.elim
end
end Go.Ab
namespace Go.Ab
open Go Go.RowKit
variable [Amb]
section
variable {P:Program} {S0:Env} {w0 w:World} {n:Nat} {s:St} {a:Act}
theorem ofCells_rep {S:Nat→Prop} {us:List Value} (h:us.all smallCell=true):RepL w S (us.map ofCell) us:=by
 refine ⟨by simp,fun j c hj=>?_⟩
 rw [List.getElem?_map] at hj
 cases hu:us[j]? with
 | none=>rw [hu] at hj;cases hj
 | some u =>
  rw [hu] at hj
  injection hj with hj
  subst hj
  exact ⟨u,rfl,ofCell_rep (List.all_eq_true.1 h u (List.mem_of_getElem? hu))⟩
def zeroOf (P:Program) (t:TypeId):Option (List CV):=
 match P.info? t with
 | some i=>match i.zero with
  | some z=>if z.cells.toList.all smallCell then some (z.cells.toList.map ofCell) else none
  | none=>none
 | none=>none
theorem zeroOf_ok {t:TypeId} {cs:List CV} (h:zeroOf P t=some cs) (S:Nat→Prop):∃z,(zeroValue t).run P w=.ok z w∧RepL w S cs z.cells.toList:=by
 unfold zeroOf at h
 split at h
 ·rename_i i hi
  split at h
  ·rename_i z hz
   split at h
   ·rename_i hall
    injection h with h
    subst h
    exact ⟨z,by simp [zeroValue,typeInfo,hi,hz],ofCells_rep hall⟩
   ·cases h
  ·cases h
 ·cases h
def XV.cells:XV→List CV
 | .one c=>[c]
 | .agg cs=>cs
theorem RepX.cells {S:Nat→Prop} {x:XV} {v:Value} (h:RepX w S x v):RepL w S x.cells v.cells.toList:=by
 cases x with
 | one c =>
  have h1:v.cells=#[v]:=by
   have:=RepC.oneCell h
   cases v<;>first | rfl | (simp [Value.oneCell'] at this)
  rw [h1]
  refine ⟨rfl,fun j c' hj=>?_⟩
  cases j with
  | zero=>simp [XV.cells] at hj;subst hj;exact ⟨v,rfl,h⟩
  | succ j=>simp [XV.cells] at hj
 | agg cs=>obtain ⟨us,rfl,hl⟩:=h;exact hl
theorem RepL.oneCells {S:Nat→Prop} {cs:List CV} {us:List Value} (h:RepL w S cs us):∀u∈us,u.oneCell'=true:=by
 intro u hu
 obtain ⟨j,hj⟩:=List.getElem?_of_mem hu
 have hlt:j<cs.length:=by have:=(List.getElem?_eq_some_iff.1 hj).1;have:=h.1;omega
 obtain ⟨u',hu',hr⟩:=h.2 j cs[j] (List.getElem?_eq_getElem hlt)
 rw [hj] at hu'
 injection hu' with hu'
 subst hu'
 exact hr.oneCell
theorem shared_alloc {b:Nat} (o:Obj) (h:Shared S0 w0.heap.size w s (tmOf a) b):Shared S0 w0.heap.size (w.alloc o) s (tmOf a) b∧b≠w.heap.size:=
 ⟨⟨h.1,by have:=h.2.1;simp;omega,h.2.2⟩,by have:=h.2.1;omega⟩
theorem Rel.newInd {d i off b:Nat} {t:TypeId} (hR:Rel S0 w0 n s a w) (hd:S0.m≤d∧d<n) (hb:blkOf (s i) (tmOf a i)=some b) :
  Rel S0 w0 n (Ab.put s d (.ptr2 i off)) (a.put (some d) (.pointer (some ⟨w.heap.size,0,none⟩))) (w.alloc (.cells #[.pointer (some ⟨b,off,none⟩)] t)):=by
 have hlt:∀k c,blkOf (s k) (tmOf a k)=some c→c<w.heap.size:=fun k c hc=>((hR.rep k).blk_lt hc).2
 have ho:(s i).isOwner=true:=by
  cases ho:(s i).isOwner with
  | true=>rfl
  | false=>rw [blkOf_notOwner ho] at hb;cases hb
 refine hR.put hd (World.grownBy_alloc w _ none) (fun j h=>?_) ⟨w.heap.size,b,rfl,⟨.inr (.inl hR.below.size),by simp,fun k hk=>?_⟩,?_,hb⟩ (fun c hc=>by cases hc) (fun c hc=>by cases hc)
 ·obtain rfl:i=j:=by simpa [AV.refs] using h
  exact ho
 ·have:=hlt k _ hk;omega
 ·rw [cell_of_row _ w.heap.size 0 _ t (0,0) (heap_alloc_new w _)]
  rfl
theorem Rel.newBox {d:Nat} {cs:List CV} {arr:Array Value} {t:TypeId} (hR:Rel S0 w0 n s a w) (hd:S0.m≤d∧d<n) (hl:RepL w (Shared S0 w0.heap.size w s (tmOf a)) cs arr.toList) :
  Rel S0 w0 n (Ab.put s d (.box cs)) (a.put (some d) (.pointer (some ⟨w.heap.size,0,none⟩))) (w.alloc (.cells arr t)):=by
 have hb:∀b,Shared S0 w0.heap.size w s (tmOf a) b→(w.alloc (.cells arr t)).heap[b]?=w.heap[b]?:=fun b hb=>Below.heap_alloc w _ b hb.2.1
 refine hR.put hd (World.grownBy_alloc w _ none) (fun j h=>by cases h) ⟨_,arr,t,rfl,heap_alloc_new w _,hl.mono (fun b hb=>(shared_alloc _ hb).1) hb,.inl hR.below.size⟩ ?_ ?_
 ·intro b hb
  have:w.heap.size=b:=by simpa [blkOf] using hb
  omega
 ·intro b hbb
  have:w.heap.size=b:=by simpa [blkOf] using hbb
  subst this
  exact ⟨_,arr,t,rfl,heap_alloc_new w _,hl.mono (fun b hb=>shared_alloc _ hb) hb,.inl hR.below.size⟩
theorem Rel.newOwn {d e size:Nat} {xs:List (List CV)} {v:Value} {us:List Value} {w':World} (hR:Rel S0 w0 n s a w) (hd:S0.m≤d∧d<n)
  (hg:w.grownBy w' none) (hown:w'.ownsT 0 e size v xs.length us) (hl:RepL w (Shared S0 w0.heap.size w s (tmOf a)) xs.flatten us) (hx:∀x∈xs,x.length=size) (hm:xs.length≤maxLen)
  (hf:∀b,v.ownBlock=some b→w.heap.size≤b) :
  Rel S0 w0 n (Ab.put s d (.own e size xs)) (a.put (some d) v) w':=by
 have hb:∀b,Shared S0 w0.heap.size w s (tmOf a) b→w'.heap[b]?=w.heap[b]?:=fun b hb=>hg.block b hb.2.1 (by simp)
 have hsub:∀b,Shared S0 w0.heap.size w s (tmOf a) b→Shared S0 w0.heap.size w' s (tmOf a) b:=fun b hb=>⟨hb.1,Nat.lt_of_lt_of_le hb.2.1 hg.size,hb.2.2⟩
 refine hR.put hd hg (fun j h=>by cases h) ⟨us,hown,hl.mono hsub hb,hx,hm,fun b hb=>.inl (Nat.le_trans hR.below.size (hf b hb))⟩ hf ?_
 intro b hbb
 have:=hf b hbb
 exact ⟨us,hown,hl.mono (fun b' hb'=>⟨hsub b' hb',by have:=hb'.2.1;omega⟩) hb,hx,hm,fun b hb=>.inl (Nat.le_trans hR.below.size (hf b hb))⟩
def setRange {α:Type} (cs:List α) (off:Nat) (vs:List α):List α:=cs.take off++vs++cs.drop (off+vs.length)
theorem RepL.setRange {S:Nat→Prop} {cs vs:List CV} {us ws:List Value} (h:RepL w S cs us) (k:RepL w S vs ws) (off:Nat):RepL w S (setRange cs off vs) (setRange us off ws):=by
 have h1:=h.1
 have k1:=k.1
 refine ⟨by simp only [Ab.setRange,List.length_append,List.length_take,List.length_drop,h1,k1],fun j c hj=>?_⟩
 simp only [Ab.setRange,List.append_assoc] at hj ⊢
 rw [List.getElem?_append] at hj ⊢
 simp only [List.length_take,h1] at hj ⊢
 split at hj
 ·rename_i hlt
  rw [if_pos hlt]
  rw [List.getElem?_take] at hj ⊢
  split at hj
  ·rename_i hlt2;rw [if_pos hlt2];exact h.2 _ _ hj
  ·cases hj
 ·rename_i hge
  rw [if_neg hge]
  rw [List.getElem?_append] at hj ⊢
  rw [k1]
  split at hj
  ·rename_i hlt;rw [if_pos hlt];exact k.2 _ _ hj
  ·rename_i hge2
   rw [if_neg hge2]
   rw [List.getElem?_drop] at hj ⊢
   exact h.2 _ _ hj
theorem Rel.write {i:Nat} {r:AV} {b:Nat} {w':World} (hR:Rel S0 w0 n s a w) (hb:blkOf (s i) (tmOf a i)=some b) (hg:w.grownBy w' (some b)) (hsz:w'.heap.size=w.heap.size)
  (hbr:blkOf r (tmOf a i)=some b) (hro:r.isOwner=true) (hrs:r.size=(s i).size) (hrl:r.len=(s i).len) (hrv:r.valOf=(s i).valOf)
  (hr:∀(s':St),RepAV w' (Shared S0 w0.heap.size w s (tmOf a)) (OwnB S0 w0.heap.size) s' (tmOf a) r (tmOf a i))
  (hnl:∀j off d cs,(s j).hasLink i off d→(s i).boxC=some cs→(∃cs',r.boxC=some cs'∧cs'[off]?=cs[off]?)∧w'.cell? ⟨b,off,none⟩=w.cell? ⟨b,off,none⟩) :
  Rel S0 w0 n (fun j=>if j=i then r else s j) a w':=by
 have hso:(s i).isOwner=true:=by
  cases h:(s i).isOwner with
  | true=>rfl
  | false=>rw [blkOf_notOwner h] at hb;cases hb
 have hblk:∀j c,blkOf (if j=i then r else s j) (tmOf a j)=some c→blkOf (s j) (tmOf a j)=some c:=by
  intro j c hc
  by_cases hj:j=i
  ·subst hj
   rw [if_pos rfl,hbr] at hc
   rw [hb];exact hc
  ·rw [if_neg hj] at hc;exact hc
 have hsub:∀c,Shared S0 w0.heap.size w s (tmOf a) c→Shared S0 w0.heap.size w' (fun j=>if j=i then r else s j) (tmOf a) c:=
  fun c hc=>⟨hc.1,by rw [hsz];exact hc.2.1,fun j hj=>hc.2.2 j (hblk j c hj)⟩
 have hsame:∀c,Shared S0 w0.heap.size w s (tmOf a) c→w'.heap[c]?=w.heap[c]?:=by
  intro c hc
  refine hg.block c hc.2.1 (fun e=>?_)
  injection e with e
  exact hc.2.2 i (by rw [hb,e])
 refine ⟨hR.defers,hR.size,?_,hR.lt,?_,?_,?_,?_,hR.pin⟩
 ·exact hR.below.grown hg (fun k hk=>by injection hk with hk;subst hk;exact ((hR.rep i).blk_lt hb).1)
 ·intro j
  by_cases hj:j=i
  ·subst hj
   simp only [if_pos]
   exact (hr (fun k=>if k=j then r else s k)).mono hsub (fun _ _=>rfl) (fun _ _=>rfl) (fun k hk=>⟨rfl,fun h=>⟨h,rfl,rfl,rfl⟩,fun c hc=>hc⟩)
    (fun i' off d cs b' hl _ _=>by have:=refs_owner (AV.hasLink_refs hl).1;rw [hro] at this;cases this)
  ·simp only [if_neg hj]
   refine (hR.rep j).mono hsub hsame (fun c hc=>?_) (fun k hk=>⟨rfl,fun h=>?_,fun c hc=>?_⟩) (fun i' off d cs b' hl hs' hb'=>?_)
   rotate_right
   ·by_cases hi':i'=i
    ·subst hi'
     obtain rfl:b'=b:=by rw [hb] at hb';injection hb' with hb';exact hb'.symm
     obtain ⟨⟨cs',k1,k2⟩,k3⟩:=hnl j off d cs hl hs'
     exact ⟨⟨cs',by rw [if_pos rfl];exact k1,k2⟩,k3⟩
    ·refine ⟨⟨cs,by rw [if_neg hi'];exact hs',rfl⟩,World.cell?_of_block (hg.block b' ((hR.rep i').blk_lt hb').2 (fun e=>?_))⟩
     injection e with e
     subst e
     exact hi' (hR.inj i' i _ hb' hb)
   ·refine hg.block c ((hR.rep j).blk_lt hc).2 (fun e=>?_)
    injection e with e
    subst e
    exact hj (hR.inj j i c hc hb)
   ·by_cases hk':k=i
    ·subst hk';simp only [if_pos];exact ⟨hro,hrs,hrl,hrv⟩
    ·simp only [if_neg hk'];exact ⟨h,trivial,trivial,trivial⟩
   ·by_cases hk':k=i
    ·subst hk'
     simp only [if_pos]
     rw [hb] at hc
     injection hc with hc
     subst hc
     exact hbr
    ·simp only [if_neg hk'];exact hc
 ·intro j k c hj hk
  exact hR.inj j k c (hblk j c hj) (hblk k c hk)
 ·intro j hj
  by_cases hji:j=i
  ·subst hji
   obtain ⟨v,e,z,xs,h⟩:=apart_owner (hR.out j hj) hso
   rw [h] at hrv
   have h1:=congrFun hrv (.bool true)
   have h2:=congrFun hrv (.bool false)
   have h3:r.valOf (.bool true)=r.valOf (.bool false):=h1.trans h2.symm
   simp only [if_pos]
   cases r<;>first | rfl | (simp [AV.valOf] at h3;done)
  ·simp only [if_neg hji];exact hR.out j hj
 ·intro j k hjk
  have hjk':(s j).refs k=true:=by
   by_cases hj:j=i
   ·subst hj
    simp only [if_pos] at hjk
    have:=refs_owner hjk
    rw [hro] at this;cases this
   ·simpa only [if_neg hj] using hjk
  have:=hR.wf j k hjk'
  by_cases hk:k=i
  ·simp only [if_pos hk];exact hro
  ·simp only [if_neg hk];exact this
theorem Rel.forget {s':St} (hR:Rel S0 w0 n s a w) (h:∀i,s' i=s i∨s' i=.dead) (hrf:∀i j,(s' i).refs j=true→s' j=s j):Rel S0 w0 n s' a w:=by
 have hblk:∀j c,blkOf (s' j) (tmOf a j)=some c→blkOf (s j) (tmOf a j)=some c:=by
  intro j c hc
  rcases h j with e | e<;>rw [e] at hc
  ·exact hc
  ·cases hc
 have hsub:∀c,Shared S0 w0.heap.size w s (tmOf a) c→Shared S0 w0.heap.size w s' (tmOf a) c:=fun c hc=>⟨hc.1,hc.2.1,fun j hj=>hc.2.2 j (hblk j c hj)⟩
 refine ⟨hR.defers,hR.size,hR.below,hR.lt,fun i=>?_,fun i j b hi hj=>hR.inj i j b (hblk i b hi) (hblk j b hj),fun i hi=>?_,fun i j hij=>?_,hR.pin⟩
 ·rcases h i with e | e
  ·rw [e]
   refine (hR.rep i).mono hsub (fun _ _=>rfl) (fun _ _=>rfl) (fun k hk=>?_) ?_
   have:=hrf i k (by rw [e];exact AV.refs_of_refsL hk)
   exact ⟨rfl,fun h=>by rw [this];exact ⟨h,rfl,rfl,rfl⟩,fun c hc=>by rw [this];exact hc⟩
   exact fun i' off d cs b hl hs' _=>⟨⟨cs,by rw [hrf i i' (by rw [e];exact (AV.hasLink_refs hl).1)];exact hs',rfl⟩,rfl⟩
  ·rw [e];trivial
 ·rcases h i with e | e
  ·rw [e];exact hR.out i hi
  ·rw [e];rfl
 ·rw [hrf i j hij]
  rcases h i with e | e<;>rw [e] at hij
  ·exact hR.wf i j hij
  ·cases hij
def frozenAV:AV→AV
 | .own _ size xs=>.x (.one (.list size xs))
 | .box cs=>.elem cs
 | a=>a
def thawRef:AV→AV→AV
 | .box cs,.ptr _ off=>.elem (cs.drop off)
 | .box cs,.cloR f [.inr (_,0)]=>.x (.one (.clo f [.ref cs]))
 | _,_=>.dead
theorem thawRef_spec (a x:AV):thawRef a x=.dead∨(∃cs i off,a=.box cs∧x=.ptr i off∧thawRef a x=.elem (cs.drop off))∨∃cs f i,a=.box cs∧x=.cloR f [.inr (i,0)]∧thawRef a x=.x (.one (.clo f [.ref cs])):=by
 unfold thawRef
 split
 ·exact .inr (.inl ⟨_,_,_,rfl,rfl,rfl⟩)
 ·exact .inr (.inr ⟨_,_,_,rfl,rfl,rfl⟩)
 ·exact .inl rfl
theorem thawRef_owner (a x:AV):(thawRef a x).isOwner=false:=by
 rcases thawRef_spec a x with e | ⟨_,_,_,_,_,e⟩ | ⟨_,_,_,_,_,e⟩<;>rw [e]<;>rfl
theorem thawRef_refs (a x:AV) (j:Nat):(thawRef a x).refs j=false:=by
 rcases thawRef_spec a x with e | ⟨_,_,_,_,_,e⟩ | ⟨_,_,_,_,_,e⟩<;>rw [e]<;>rfl
theorem thawRef_dead {a:AV} (x:AV) (h:∀cs,a≠.box cs):thawRef a x=.dead:=by
 rcases thawRef_spec a x with e | ⟨cs,_,_,e,_⟩ | ⟨cs,_,_,e,_⟩
 ·exact e
 ·exact absurd e (h cs)
 ·exact absurd e (h cs)
theorem thawRef_apart (a:AV) {x:AV} (h:x.apart=true):(thawRef a x).apart=true:=by
 rcases thawRef_spec a x with e | ⟨_,_,_,_,e,_⟩ | ⟨_,_,_,_,e,_⟩
 ·rw [e];rfl
 ·rw [e] at h;cases h
 ·rw [e] at h;cases h
def freeze (s:St) (i:Nat):St:=fun j=>if j=i then frozenAV (s i) else if (s j).refs i then thawRef (s i) (s j) else s j
theorem own_list {S:Nat→Prop} {B e size:Nat} {v:Value} {xs:List (List CV)} {us:List Value} (hown:w.ownsT B e size v xs.length us) (hl:RepL w S xs.flatten us) (hx:∀x∈xs,x.length=size) (hm:xs.length≤maxLen)
  (hS:∀b,v.ownBlock=some b→S b):RepC w S (.list size xs) v:=by
 rcases hown.2 with ⟨rfl,h0⟩ | ⟨g,cap,cur,hv,hb,hh,hn,hcm,hcs,ht⟩
 ·have:xs=[]:=List.eq_nil_of_length_eq_zero h0
  subst this
  exact .list0 _ _ _ (by simp) (fun _=>rfl)
 ·have hblk:v.ownBlock=some g:=by rw [hv];rfl
  subst hv
  refine .list ⟨g,0,none⟩ cap size xs (fun j=>us.getD j undef) (hS g hblk) rfl hn hcm hx (fun j c hj=>?_) (fun j c hj=>?_)
  ·obtain ⟨u,hu,_⟩:=hl.2 j c hj
   have:=hown.cells hblk j u hu
   rw [this,List.getD_eq_getElem?_getD,hu]
   rfl
  ·obtain ⟨u,hu,hr⟩:=hl.2 j c hj
   simp only [List.getD_eq_getElem?_getD,hu,Option.getD_some]
   exact hr
theorem box_elem {S:Nat→Prop} {b:Nat} {arr:Array Value} {t:TypeId} {cs:List CV} (hh:w.heap[b]?=some (.cells arr t (0,0))) (hl:RepL w S cs arr.toList):∀(off j:Nat) (c:CV),(cs.drop off)[j]?=some c→∃u,w.cell? ((⟨b,off,none⟩:Addr).add j)=some u∧RepC w S c u:=by
 intro off j c hj
 rw [List.getElem?_drop] at hj
 obtain ⟨u,hu,hr⟩:=hl.2 _ c hj
 refine ⟨u,?_,hr⟩
 rw [addr_add_lit,cell_of_row w b (off+j) arr t (0,0) hh]
 simpa using hu
theorem Rel.freeze {i:Nat} (hR:Rel S0 w0 n s a w) (hi:(∃e size xs,s i=.own e size xs)∨∃cs,s i=.box cs):Rel S0 w0 n (Ab.freeze s i) a w:=by
 have hfi:(Ab.freeze s i i).isOwner=false∧∀j,(Ab.freeze s i i).refs j=false:=by
  rcases hi with ⟨e,size,xs,hi⟩ | ⟨cs,hi⟩<;>simp [Ab.freeze,hi,frozenAV,AV.isOwner,AV.refs]
 have hfo:∀j,j≠i→Ab.freeze s i j=s j∨((s j).refs i=true∧Ab.freeze s i j=thawRef (s i) (s j)):=by
  intro j hj
  unfold Ab.freeze
  by_cases hr:(s j).refs i=true
  ·exact .inr ⟨hr,by simp [hj,hr]⟩
  ·exact .inl (by simp [hj,hr])
 have hblk:∀j c,blkOf (Ab.freeze s i j) (tmOf a j)=some c→j≠i∧blkOf (s j) (tmOf a j)=some c:=by
  intro j c hc
  by_cases hj:j=i
  ·subst hj;rw [blkOf_notOwner hfi.1] at hc;cases hc
  ·rcases hfo j hj with e | ⟨_,e⟩<;>rw [e] at hc
   ·exact ⟨hj,hc⟩
   ·rw [blkOf_notOwner (thawRef_owner _ _)] at hc;cases hc
 have hsub:∀c,Shared S0 w0.heap.size w s (tmOf a) c→Shared S0 w0.heap.size w (Ab.freeze s i) (tmOf a) c:=fun c hc=>⟨hc.1,hc.2.1,fun j hj=>hc.2.2 j (hblk j c hj).2⟩
 refine ⟨hR.defers,hR.size,hR.below,hR.lt,fun j=>?_,fun j k b hj hk=>hR.inj j k b (hblk j b hj).2 (hblk k b hk).2,fun j hj=>?_,fun j k hjk=>?_,hR.pin⟩
 ·by_cases hj:j=i
  ·subst hj
   have h:=hR.rep j
   rcases hi with ⟨e,size,xs,hi⟩ | ⟨cs,hi⟩
   ·have hfe:Ab.freeze s j j=.x (.one (.list size xs)):=by simp [Ab.freeze,hi,frozenAV]
    rw [hfe]
    rw [hi] at h
    obtain ⟨us,hown,hl,hx,hm,hO⟩:=h
    refine own_list hown (hl.mono hsub (fun _ _=>rfl)) hx hm (fun b hb=>?_)
    have hlt:=hown.lt b hb
    refine ⟨.inr (hO b hb),hlt.2,fun k hk=>?_⟩
    obtain ⟨hkj,hkb⟩:=hblk k b hk
    exact hkj (hR.inj k j b hkb (by rw [hi];exact hb))
   ·have hfe:Ab.freeze s j j=.elem cs:=by simp [Ab.freeze,hi,frozenAV]
    rw [hfe]
    rw [hi] at h
    obtain ⟨b,arr,t,hv,hh,hl,hO⟩:=h
    refine ⟨⟨b,0,none⟩,hv,rfl,⟨.inr hO,(Array.getElem?_eq_some_iff.1 hh).1,fun k hk=>?_⟩,fun j' c hj'=>?_⟩
    ·obtain ⟨hkj,hkb⟩:=hblk k b hk
     exact hkj (hR.inj k j b hkb (by rw [hi,hv];rfl))
    ·obtain ⟨u,hu,hr⟩:=box_elem hh hl 0 j' c (by simpa using hj')
     exact ⟨u,hu,RepC.mono hr hsub (fun _ _=>rfl)⟩
  ·rcases hfo j hj with e | ⟨hjr,e⟩
   ·rw [e]
    have hown:∀k,(s j).refs k=true→(s k).isOwner=true→Ab.freeze s i k=s k:=by
     intro k hjk ho
     have hki:k≠i:=by
      rintro rfl
      have e':thawRef (s k) (s j)=s j:=by
       have e':=e
       unfold Ab.freeze at e'
       simpa [hj,hjk] using e'
      have h2:=thawRef_refs (s k) (s j) k
      rw [e',hjk] at h2
      cases h2
     rcases hfo k hki with e' | ⟨hr,_⟩
     ·exact e'
     ·rw [refs_owner hr] at ho;cases ho
    refine (hR.rep j).mono hsub (fun _ _=>rfl) (fun _ _=>rfl) (fun k hk=>?_) (fun i' off d cs b hl hs' _=>⟨⟨cs,by rw [hown i' (AV.hasLink_refs hl).1 (AV.boxC_owner hs')];exact hs',rfl⟩,rfl⟩)
    have hki:k≠i:=by
     rintro rfl
     have:=AV.refs_of_refsL hk
     have e':thawRef (s k) (s j)=s j:=by
      have e':=e
      unfold Ab.freeze at e'
      simpa [hj,this] using e'
     have h2:=thawRef_refs (s k) (s j) k
     rw [e',this] at h2
     cases h2
    have hown:(s k).isOwner=true→Ab.freeze s i k=s k:=by
     intro ho
     rcases hfo k hki with e' | ⟨hr,_⟩
     ·exact e'
     ·rw [refs_owner hr] at ho;cases ho
    refine ⟨rfl,fun h=>by rw [hown h];exact ⟨h,rfl,rfl,rfl⟩,fun c hc=>?_⟩
    have ho:(s k).isOwner=true:=by
     cases h:(s k).isOwner with
     | true=>rfl
     | false=>rw [blkOf_notOwner h] at hc;cases hc
    rw [hown ho];exact hc
   ·rw [e]
    rcases thawRef_spec (s i) (s j) with e2 | ⟨cs,i',off,hbx,hpt,e2⟩ | ⟨cs,f,i',hbx,hpt,e2⟩
    ·rw [e2];trivial
    ·rw [e2]
     have hii:i'=i:=by rw [hpt] at hjr;simpa [AV.refs] using hjr
     subst hii
     have hp:=hR.rep j
     rw [hpt] at hp
     obtain ⟨b0,hv0,hb0⟩:=hp
     have hbi:=hR.rep i'
     rw [hbx] at hbi
     obtain ⟨b,arr,t,hv,hh,hl,hO⟩:=hbi
     have hbb:b=b0:=by
      have hvt:tmOf a i'=.pointer (some ⟨b,0,none⟩):=hv
      rw [hbx,hvt] at hb0
      have:some b=some b0:=hb0
      injection this
     subst hbb
     refine ⟨⟨b,off,none⟩,hv0,rfl,⟨.inr hO,(Array.getElem?_eq_some_iff.1 hh).1,fun k hk=>?_⟩,fun j' c hj'=>?_⟩
     ·obtain ⟨hkj,hkb⟩:=hblk k b hk
      exact hkj (hR.inj k i' b hkb (by rw [hbx];exact (by rw [show tmOf a i'=.pointer (some ⟨b,0,none⟩) from hv];rfl)))
     ·obtain ⟨u,hu,hr⟩:=box_elem hh hl off j' c hj'
      exact ⟨u,hu,RepC.mono hr hsub (fun _ _=>rfl)⟩
    ·rw [e2]
     have hii:i'=i:=by rw [hpt] at hjr;simpa [AV.refs,capRef] using hjr
     subst hii
     have hp:=hR.rep j
     rw [hpt] at hp
     obtain ⟨us,hv0,hsz,hcap⟩:=hp
     obtain ⟨u,hu,b0,hub,hb0⟩:=hcap 0 (.inr (i',0)) rfl
     have hbi:=hR.rep i'
     rw [hbx] at hbi
     obtain ⟨b,arr,t,hv,hh,hl,hO⟩:=hbi
     have hbb:b=b0:=by
      have hvt:tmOf a i'=.pointer (some ⟨b,0,none⟩):=hv
      rw [hbx,hvt] at hb0
      have:some b=some b0:=hb0
      injection this
     subst hbb
     have hus:us=#[u]:=by
      have h1:us.size=1:=hsz
      apply Array.ext
      ·simp [h1]
      ·intro k h1' h2'
       have hk:k=0:=by omega
       subst hk
       have:=(Array.getElem?_eq_some_iff.1 hu).2
       simpa using this
     have href:RepC w (Shared S0 w0.heap.size w (Ab.freeze s i') (tmOf a)) (.ref cs) u:=by
      rw [hub]
      refine .ref ⟨b,0,none⟩ cs (fun j'=>(w.cell? ((⟨b,0,none⟩:Addr).add j')).getD undef) ⟨.inr hO,(Array.getElem?_eq_some_iff.1 hh).1,fun k hk=>?_⟩ rfl (fun j' c hj'=>?_) (fun j' c hj'=>?_)
      ·obtain ⟨hkj,hkb⟩:=hblk k b hk
       exact hkj (hR.inj k i' b hkb (by rw [hbx];exact (by rw [show tmOf a i'=.pointer (some ⟨b,0,none⟩) from hv];rfl)))
      ·obtain ⟨u',hu',_⟩:=box_elem hh hl 0 j' c (by simpa using hj');rw [hu'];rfl
      ·obtain ⟨u',hu',hr⟩:=box_elem hh hl 0 j' c (by simpa using hj');rw [hu'];exact RepC.mono hr hsub (fun _ _=>rfl)
     show RepC w _ (.clo f [.ref cs]) (tmOf a j)
     rw [show tmOf a j=.func (.func f) #[] us from hv0,hus]
     exact .clo f [.ref cs] (fun _=>u) (fun j' c hj'=>by
      cases j' with
      | zero=>simp at hj';subst hj';exact href
      | succ j'=>simp at hj')
 ·by_cases hji:j=i
  ·subst hji
   have:=hR.out j hj
   rcases hi with ⟨_,_,_,hi⟩ | ⟨_,hi⟩<;>(rw [hi] at this;cases this)
  ·rcases hfo j hji with e | ⟨hr,e⟩
   ·rw [e];exact hR.out j hj
   ·rw [e];exact thawRef_apart _ (hR.out j hj)
 ·by_cases hj:j=i
  ·subst hj;rw [hfi.2] at hjk;cases hjk
  ·rcases hfo j hj with e | ⟨_,e⟩
   ·rw [e] at hjk
    have hko:=hR.wf j k hjk
    have hki:k≠i:=by
     rintro rfl
     have:Ab.freeze s k j=thawRef (s k) (s j):=by unfold Ab.freeze;simp [hj,hjk]
     have h2:=thawRef_refs (s k) (s j) k
     rw [←this,e,hjk] at h2;cases h2
    rcases hfo k hki with e' | ⟨hr,_⟩
    ·rw [e'];exact hko
    ·rw [refs_owner hr] at hko;cases hko
   ·rw [e,thawRef_refs] at hjk;cases hjk
theorem Rel.take {i d:Nat} {r:AV} {v:Value} {w':World} (hR:Rel S0 w0 n s a w) (hd:S0.m≤d∧d<n) (hi:(s i).isOwner=true)
  (hg:w.grownBy w' (blkOf (s i) (tmOf a i)))
  (hbr:∀b,blkOf r v=some b→blkOf (s i) (tmOf a i)=some b∨w.heap.size≤b)
  (hrf:∀j,r.refs j=false)
  (hr:∀(s':St) (tm':Nat→Value) (S:Nat→Prop),(∀c,Shared S0 w0.heap.size w s (tmOf a) c→S c)→RepAV w' S (OwnB S0 w0.heap.size) s' tm' r v) :
  Rel S0 w0 n (Ab.put (Ab.put s i .dead) d r) (a.put (some d) v) w':=by
 have hdt:d<a.tmps.size:=by rw [hR.size];exact hd.2
 have htmo:∀j,j≠d→tmOf (a.put (some d) v) j=tmOf a j:=fun j hj=>by rw [tmOf_put a d v hdt,if_neg hj]
 have htmd:tmOf (a.put (some d) v) d=v:=by rw [tmOf_put a d v hdt,if_pos rfl]
 have h1i:Ab.put s i .dead i=.dead:=put_same rfl
 have h1:∀j,Ab.put s i .dead j=s j∧j≠i∧(s j).refs i=false∨Ab.put s i .dead j=.dead:=by
  intro j
  by_cases hj:j=i
  ·subst hj;exact .inr h1i
  ·cases hr:(s j).refs i with
   | true =>
    refine .inr ?_
    unfold Ab.put
    rw [hi]
    simp [hj,hr]
   | false=>exact .inl ⟨put_keeps hj hr,hj,rfl⟩
 have h2d:Ab.put (Ab.put s i .dead) d r d=r:=put_same (hrf d)
 have h2:∀j,j≠d→(Ab.put (Ab.put s i .dead) d r j=s j∧j≠i∧(s j).refs i=false∧((s d).isOwner=true→d≠i→(s j).refs d=false))∨Ab.put (Ab.put s i .dead) d r j=.dead:=by
  intro j hj
  rcases put_other (s:=Ab.put s i .dead) (v:=r) hj with e | ⟨_,_,e⟩
  ·rcases h1 j with ⟨e1,hji,hjr⟩ | e1
   ·by_cases hsd:(s d).isOwner=true∧d≠i
    ·cases hjd:(s j).refs d with
     | false=>exact .inl ⟨by rw [e,e1],hji,hjr,fun _ _=>rfl⟩
     | true =>
      refine .inr ?_
      have hd1:(Ab.put s i .dead d).isOwner=true:=by rw [put_owner hsd.2 hsd.1];exact hsd.1
      exact put_killed hj hd1 (by rw [e1];exact hjd)
    ·exact .inl ⟨by rw [e,e1],hji,hjr,fun a b=>absurd ⟨a,b⟩ hsd⟩
   ·exact .inr (by rw [e,e1])
  ·exact .inr e
 have hblk:∀j b,blkOf (Ab.put (Ab.put s i .dead) d r j) (tmOf (a.put (some d) v) j)=some b→(j=d∧blkOf r v=some b)∨(j≠d∧j≠i∧blkOf (s j) (tmOf a j)=some b):=by
  intro j b hb
  by_cases hj:j=d
  ·subst hj;rw [htmd,h2d] at hb;exact .inl ⟨rfl,hb⟩
  ·rw [htmo j hj] at hb
   rcases h2 j hj with ⟨e,hji,_⟩ | e<;>rw [e] at hb
   ·exact .inr ⟨hj,hji,hb⟩
   ·cases hb
 have hold:∀c,Shared S0 w0.heap.size w s (tmOf a) c→w'.heap[c]?=w.heap[c]?:=fun c hc=>hg.block c hc.2.1 (fun e=>hc.2.2 i e.symm)
 have hsub:∀c,Shared S0 w0.heap.size w s (tmOf a) c→Shared S0 w0.heap.size w' (Ab.put (Ab.put s i .dead) d r) (tmOf (a.put (some d) v)) c:=by
  intro c hc
  refine ⟨hc.1,Nat.lt_of_lt_of_le hc.2.1 hg.size,fun j hj=>?_⟩
  rcases hblk j c hj with ⟨_,h⟩ | ⟨_,_,h⟩
  ·rcases hbr c h with h' | h'
   ·exact hc.2.2 i h'
   ·have:=hc.2.1;omega
  ·exact hc.2.2 j h
 refine ⟨hR.defers,by simp [Act.put,hR.size],?_,hR.lt,?_,?_,?_,put_wf (put_wf hR.wf (fun j h=>by cases h)) (fun j h=>by rw [hrf j] at h;cases h),fun j hj=>by rw [htmo j (by omega)];exact hR.pin j hj⟩
 ·exact hR.below.grown hg (fun k hk=>((hR.rep i).blk_lt hk).1)
 ·intro j
  by_cases hj:j=d
  ·subst hj
   rw [htmd,h2d]
   exact hr _ _ _ hsub
  ·rw [htmo j hj]
   rcases h2 j hj with ⟨e,hji,hjr,hjd⟩ | e
   ·rw [e]
    have hks:∀k,(s j).refs k=true→(s k).isOwner=true→k≠i∧Ab.put (Ab.put s i .dead) d r k=s k:=by
     intro k hkr hko
     have hki:k≠i:=by rintro rfl;rw [hkr] at hjr;cases hjr
     have hkd:k≠d:=by
      rintro rfl
      rw [hjd hko hki] at hkr;cases hkr
     refine ⟨hki,?_⟩
     have h3:Ab.put s i .dead k=s k:=put_owner hki hko
     have h4:Ab.put (Ab.put s i .dead) d r k=Ab.put s i .dead k:=put_owner hkd (by rw [h3];exact hko)
     rw [h4,h3]
    refine (hR.rep j).mono hsub hold (fun c hc=>?_) (fun k hk=>?_) (fun i' off d' cs b hl hs' hb'=>?_)
    rotate_right
    ·obtain ⟨k1,k2⟩:=hks i' (AV.hasLink_refs hl).1 (AV.boxC_owner hs')
     exact ⟨⟨cs,by rw [k2];exact hs',rfl⟩,World.cell?_of_block (hg.block b ((hR.rep i').blk_lt hb').2 (fun h=>k1 (hR.inj i' i b hb' h.symm)))⟩
    ·exact hg.block c ((hR.rep j).blk_lt hc).2 (fun h=>hji (hR.inj j i c hc h.symm))
    ·have hkr:=AV.refs_of_refsL hk
     have hki:k≠i:=by rintro rfl;rw [hkr] at hjr;cases hjr
     have hko:=(hR.rep j).leads hk
     have hkd:k≠d:=by
      rintro rfl
      rw [hjd hko hki] at hkr;cases hkr
     have hks:=(hks k hkr hko).2
     exact ⟨htmo k hkd,fun h=>by rw [hks];exact ⟨h,rfl,rfl,rfl⟩,fun c hc=>by rw [hks];exact hc⟩
   ·rw [e];trivial
 ·intro j k b hj hk
  rcases hblk j b hj with ⟨hj',h3⟩ | ⟨hj',hji,h3⟩<;>rcases hblk k b hk with ⟨hk',h4⟩ | ⟨hk',hki,h4⟩
  ·rw [hj',hk']
  ·exfalso
   rcases hbr b h3 with h5 | h5
   ·exact hki (hR.inj k i b h4 h5)
   ·have:=((hR.rep k).blk_lt h4).2;omega
  ·exfalso
   rcases hbr b h4 with h5 | h5
   ·exact hji (hR.inj j i b h3 h5)
   ·have:=((hR.rep j).blk_lt h3).2;omega
  ·exact hR.inj j k b h3 h4
 ·intro j hj
  have hjd:j≠d:=by omega
  rcases h2 j hjd with ⟨e,_⟩ | e
  ·rw [e];exact hR.out j hj
  ·rw [e];rfl
def nameSt (s:St) (j g:Nat) (v:Value) (e z:Nat) (xs:List (List CV)):St:=fun k=>if k=j then .x (.one (.atom v)) else if k=g then .gown v e z xs else if (s k).refs j then .dead else s k
theorem Rel.name {j g e z:Nat} {xs:List (List CV)} (hR:Rel S0 w0 n s a w) (hj:s j=.own e z xs) (hn:n≤g) (hg:(s g).free=true):Rel S0 w0 n (nameSt s j g (tmOf a j) e z xs) a w:=by
 have hgj:g≠j:=by rintro rfl;rw [hj] at hg;cases hg
 have hjn:j<n:=by
  rcases Nat.lt_or_ge j n with h | h
  ·exact h
  ·have:=hR.out j h;rw [hj] at this;cases this
 have hat:∀k,nameSt s j g (tmOf a j) e z xs k=if k=j then .x (.one (.atom (tmOf a j))) else if k=g then .gown (tmOf a j) e z xs else if (s k).refs j then .dead else s k:=fun _=>rfl
 generalize nameSt s j g (tmOf a j) e z xs=S at hat
 have hSj:S j=.x (.one (.atom (tmOf a j))):=by rw [hat,if_pos rfl]
 have hSg:S g=.gown (tmOf a j) e z xs:=by rw [hat,if_neg hgj,if_pos rfl]
 have hSo:∀k,k≠j→k≠g→S k=.dead∨S k=s k:=by
  intro k h1 h2
  rw [hat,if_neg h1,if_neg h2]
  split
  ·exact .inl rfl
  ·exact .inr rfl
 have hown:∀k,(s k).isOwner=true→k≠j→k≠g∧S k=s k:=by
  intro k hk h1
  have h2:k≠g:=by rintro rfl;rw [free_owner hg] at hk;cases hk
  refine ⟨h2,?_⟩
  rw [hat,if_neg h1,if_neg h2,if_neg]
  intro hr
  rw [refs_owner hr] at hk;cases hk
 have hblk:∀k b,blkOf (S k) (tmOf a k)=some b→(k=g∧blkOf (s j) (tmOf a j)=some b)∨(k≠g∧k≠j∧blkOf (s k) (tmOf a k)=some b):=by
  intro k b hb
  by_cases h1:k=j
  ·subst h1;rw [hSj] at hb;cases hb
  ·by_cases h2:k=g
   ·subst h2;rw [hSg] at hb;rw [hj];exact .inl ⟨rfl,hb⟩
   ·rcases hSo k h1 h2 with h | h<;>rw [h] at hb
    ·cases hb
    ·exact .inr ⟨h2,h1,hb⟩
 have hsub:∀c,Shared S0 w0.heap.size w s (tmOf a) c→Shared S0 w0.heap.size w S (tmOf a) c:=by
  intro c hc
  refine ⟨hc.1,hc.2.1,fun k hk=>?_⟩
  rcases hblk k c hk with ⟨_,h⟩ | ⟨_,_,h⟩
  ·exact hc.2.2 j h
  ·exact hc.2.2 k h
 have hrj:=hR.rep j
 rw [hj] at hrj
 obtain ⟨us,ho,hl,hx,hm,hB⟩:=hrj
 refine ⟨hR.defers,hR.size,hR.below,hR.lt,fun k=>?_,fun k m b hk hm'=>?_,fun k hk=>?_,fun k m hkm=>?_,hR.pin⟩
 ·by_cases h1:k=j
  ·subst h1
   rw [hSj]
   refine RepC.atom _ ?_
   rcases ho.2 with ⟨h,_⟩ | ⟨_,_,_,h,_⟩<;>rw [h]<;>rfl
  ·by_cases h2:k=g
   ·subst h2
    rw [hSg]
    exact ⟨us,ho,hl.mono hsub (fun _ _=>rfl),hx,hm,hB⟩
   ·rcases hSo k h1 h2 with h | h
    ·rw [h];trivial
    ·rw [h]
     have href:∀m,(s k).refs m=true→(s m).isOwner=true∧S m=s m:=by
      intro m hm'
      have hmo:=hR.wf k m hm'
      have hmj:m≠j:=by
       rintro rfl
       have:S k=.dead:=by rw [hat,if_neg h1,if_neg h2,if_pos hm']
       rw [h] at this;rw [this] at hm';cases hm'
      exact ⟨hmo,(hown m hmo hmj).2⟩
     refine (hR.rep k).mono hsub (fun _ _=>rfl) (fun _ _=>rfl) (fun m hm'=>?_) (fun i' off d' cs b hl' hs' _=>?_)
     ·have:=(href m (AV.refs_of_refsL hm')).2
      exact ⟨rfl,fun h=>by rw [this];exact ⟨h,rfl,rfl,rfl⟩,fun c hc=>by rw [this];exact hc⟩
     ·exact ⟨⟨cs,by rw [(href i' (AV.hasLink_refs hl').1).2];exact hs',rfl⟩,rfl⟩
 ·rcases hblk k b hk with ⟨h1,h2⟩ | ⟨h1,h1',h2⟩<;>rcases hblk m b hm' with ⟨h3,h4⟩ | ⟨h3,h3',h4⟩
  ·rw [h1,h3]
  ·exact absurd (hR.inj m j b h4 h2) h3'
  ·exact absurd (hR.inj k j b h2 h4) h1'
  ·exact hR.inj k m b h2 h4
 ·by_cases h1:k=j
  ·omega
  ·by_cases h2:k=g
   ·subst h2;rw [hSg];rfl
   ·rcases hSo k h1 h2 with h | h<;>rw [h]
    ·rfl
    ·exact hR.out k hk
 ·by_cases h1:k=j
  ·subst h1;rw [hSj] at hkm;cases hkm
  ·by_cases h2:k=g
   ·subst h2;rw [hSg] at hkm;cases hkm
   ·have hk':(s k).refs m=true∧S k=s k:=by
     rcases hSo k h1 h2 with h | h<;>rw [h] at hkm
     ·cases hkm
     ·exact ⟨hkm,h⟩
    have hmo:=hR.wf k m hk'.1
    have hmj:m≠j:=by
     rintro rfl
     have:S k=.dead:=by rw [hat,if_neg h1,if_neg h2,if_pos hk'.1]
     rw [this] at hkm;cases hkm
    rw [(hown m hmo hmj).2]
    exact hmo
def AV.isG:AV→Bool
 | .gown _ _ _ _=>true
 | _=>false
def refsG (s:St):AV→Bool
 | .ptr i _=>(s i).isG
 | .ptr2 i _=>(s i).isG
 | .eptr i _ _=>(s i).isG
 | .alias i=>(s i).isG
 | .view i _ _ _=>(s i).isG
 | .cloR _ _=>true
 | .cond _ v=>refsG s v
 | .link i _ d=>(s i).isG || (s d).isG
 | _=>false
theorem refsG_of {m:Nat} (hm:(s m).isG=true):∀{v:AV},v.refs m=true→refsG s v=true
 | .ptr i _,h=>by obtain rfl:i=m:=by simpa [AV.refs] using h
                  exact hm
 | .ptr2 i _,h=>by obtain rfl:i=m:=by simpa [AV.refs] using h
                   exact hm
 | .eptr i _ _,h=>by obtain rfl:i=m:=by simpa [AV.refs] using h
                     exact hm
 | .alias i,h=>by obtain rfl:i=m:=by simpa [AV.refs] using h
                  exact hm
 | .view i _ _ _,h=>by obtain rfl:i=m:=by simpa [AV.refs] using h
                       exact hm
 | .cloR _ _,_=>rfl
 | .cond _ v,h=>refsG_of hm (v:=v) h
 | .link i _ d,h=>by
  simp only [AV.refs,Bool.or_eq_true,beq_iff_eq] at h
  rcases h with rfl | rfl
  ·simp [refsG,hm]
  ·simp [refsG,hm]
def thawG (s:St) (i:Nat) (c:Nat) (bs:List Nat) (es:List (XV×XV)):St:=fun k=>if k=i then .mp c bs es else if (s k).isG || refsG s (s k) then .dead else s k
def thawE (s:St) (es es':List (XV×XV)):Prop:=es'.length=es.length∧∀(j:Nat) (x y:XV×XV),es[j]?=some x→es'[j]?=some y→x.1=y.1∧(x.2=y.2∨∃v g e z xs,x.2=.one (.atom v)∧s g=.gown v e z xs∧y.2=.one (.list z xs))
theorem blkOf_mp2 (c c':Nat) (bs bs':List Nat) (es es':List (XV×XV)) (v:Value):blkOf (.mp c bs es) v=blkOf (.mp c' bs' es') v:=by
 cases v with
 | map r=>cases r<;>rfl
 | _=>rfl
theorem Rel.thawG {i c:Nat} {bs:List Nat} {es es':List (XV×XV)} (hR:Rel S0 w0 n s a w) (hi:s i=.mp c bs es) (he:thawE s es es'):Rel S0 w0 n (thawG s i c bs es') a w:=by
 have hat:∀k,Ab.thawG s i c bs es' k=if k=i then .mp c bs es' else if (s k).isG || refsG s (s k) then .dead else s k:=fun _=>rfl
 generalize Ab.thawG s i c bs es'=S at hat
 have hSi:S i=.mp c bs es':=by rw [hat,if_pos rfl]
 have hSo:∀k,k≠i→S k=.dead∨((s k).isG=false∧refsG s (s k)=false∧S k=s k):=by
  intro k h1
  rw [hat,if_neg h1]
  cases h2:(s k).isG with
  | true=>exact .inl (by simp)
  | false =>
   cases h3:refsG s (s k) with
   | true=>exact .inl (by simp)
   | false=>exact .inr ⟨rfl,rfl,by simp⟩
 have hblk:∀k b,blkOf (S k) (tmOf a k)=some b→(s k).isG=false∧blkOf (s k) (tmOf a k)=some b:=by
  intro k b hb
  by_cases h1:k=i
  ·subst h1;rw [hSi] at hb;rw [hi];exact ⟨rfl,by rw [blkOf_mp2 c c bs bs es es'];exact hb⟩
  ·rcases hSo k h1 with h | ⟨h2,_,h⟩<;>rw [h] at hb
   ·cases hb
   ·exact ⟨h2,hb⟩
 have hsub:∀c,Shared S0 w0.heap.size w s (tmOf a) c→Shared S0 w0.heap.size w S (tmOf a) c:=fun c hc=>⟨hc.1,hc.2.1,fun k hk=>hc.2.2 k (hblk k c hk).2⟩
 have hkeep:∀m,(s m).isOwner=true→(s m).isG=false→m≠i→S m=s m:=by
  intro m hmo hmg hmi
  rw [hat,if_neg hmi,hmg]
  have:refsG s (s m)=false:=by cases h:s m<;>rw [h] at hmo<;>first | rfl | cases hmo
  simp [this]
 refine ⟨hR.defers,hR.size,hR.below,hR.lt,fun k=>?_,fun k m b hk hm'=>hR.inj k m b (hblk k b hk).2 (hblk m b hm').2,fun k hk=>?_,fun k m hkm=>?_,hR.pin⟩
 ·by_cases h1:k=i
  ·subst h1
   rw [hSi]
   have hr:=hR.rep k
   rw [hi] at hr
   obtain ⟨b,ents,hv,hh,hB,hE⟩:=hr
   refine ⟨b,ents,hv,hh,hB,hE.1.trans he.1.symm,hE.2.1.trans he.1.symm,fun j y hj=>?_⟩
   have hlt:j<es.length:=by rw [←he.1];exact (List.getElem?_eq_some_iff.1 hj).1
   obtain ⟨x,hx⟩:∃x,es[j]?=some x:=⟨_,List.getElem?_eq_getElem hlt⟩
   obtain ⟨m,k1,k2,k3,k4⟩:=hE.2.2 j x hx
   obtain ⟨e1,e2⟩:=he.2 j x y hx hj
   refine ⟨m,k1,k2,by rw [←e1];exact RepX.mono k3 hsub (fun _ _=>rfl),?_⟩
   rcases e2 with e2 | ⟨v,g,e,z,xs,e2,e3,e4⟩
   ·rw [←e2];exact RepX.mono k4 hsub (fun _ _=>rfl)
   ·rw [e4]
    rw [e2] at k4
    have k4:RepC w _ (.atom v) m.val:=k4
    have ev:m.val=v:=by cases k4;rfl
    rw [ev]
    have hg:=hR.rep g
    rw [e3] at hg
    obtain ⟨us,ho,hl,hx,hm,hB'⟩:=hg
    refine own_list ho (hl.mono hsub (fun _ _=>rfl)) hx hm (fun b hb=>⟨.inr (hB' b hb),(ho.lt b hb).2,fun k' hk'=>?_⟩)
    obtain ⟨h2,h3⟩:=hblk k' b hk'
    have:=hR.inj k' g b h3 (by rw [e3];exact hb)
    subst this
    rw [e3] at h2;cases h2
  ·rcases hSo k h1 with h | ⟨h2,h3,h⟩
   ·rw [h];trivial
   ·rw [h]
    have href:∀m,(s k).refs m=true→((∀x,S m=.mp c bs x→m=i→(s m).isOwner=true)∧(m=i∨S m=s m)):=by
     intro m hm'
     refine ⟨fun _ _ _=>hR.wf k m hm',?_⟩
     by_cases hmi:m=i
     ·exact .inl hmi
     ·refine .inr (hkeep m (hR.wf k m hm') ?_ hmi)
      cases hG:(s m).isG with
      | false=>rfl
      | true=>rw [refsG_of hG hm'] at h3;cases h3
    refine (hR.rep k).mono hsub (fun _ _=>rfl) (fun _ _=>rfl) (fun m hm'=>?_) (fun i' off d' cs b hl' hs' _=>?_)
    ·rcases (href m (AV.refs_of_refsL hm')).2 with e | e
     ·subst e
      rw [hSi,hi]
      exact ⟨rfl,fun _=>⟨rfl,rfl,rfl,rfl⟩,fun c' hc=>by rw [blkOf_mp2 c c bs bs es' es];exact hc⟩
     ·exact ⟨rfl,fun h=>by rw [e];exact ⟨h,rfl,rfl,rfl⟩,fun c hc=>by rw [e];exact hc⟩
    ·rcases (href i' (AV.hasLink_refs hl').1).2 with e | e
     ·subst e;rw [hi] at hs';cases hs'
     ·exact ⟨⟨cs,by rw [e];exact hs',rfl⟩,rfl⟩
 ·by_cases h1:k=i
  ·subst h1
   have:=hR.out k hk
   rw [hi] at this;cases this
  ·rcases hSo k h1 with h | ⟨_,_,h⟩<;>rw [h]
   ·rfl
   ·exact hR.out k hk
 ·by_cases h1:k=i
  ·subst h1;rw [hSi] at hkm;cases hkm
  ·rcases hSo k h1 with h | ⟨_,h3,h⟩<;>rw [h] at hkm
   ·cases hkm
   ·have hmo:=hR.wf k m hkm
    by_cases hmi:m=i
    ·subst hmi;rw [hSi];rfl
    ·rw [hkeep m hmo (by cases hG:(s m).isG with
      | false=>rfl
      | true=>rw [refsG_of hG hkm] at h3;cases h3) hmi]
     exact hmo
def unnameSt (s:St) (j g e z:Nat) (xs:List (List CV)):St:=fun k=>if k=j then .own e z xs else if k=g then .dead else if (s k).refs g then .dead else s k
theorem Rel.unname {j g e z:Nat} {v:Value} {xs:List (List CV)} (hR:Rel S0 w0 n s a w) (hj:s j=.x (.one (.atom v))) (hg:s g=.gown v e z xs):Rel S0 w0 n (unnameSt s j g e z xs) a w:=by
 have hgj:g≠j:=by rintro rfl;rw [hj] at hg;cases hg
 have hjn:j<n:=by
  rcases Nat.lt_or_ge j n with h | h
  ·exact h
  ·have:=hR.out j h;rw [hj] at this;cases this
 have hv:tmOf a j=v:=by
  have h:=hR.rep j
  rw [hj] at h
  have h:RepC w _ (.atom v) (tmOf a j):=h
  generalize tmOf a j=u at h
  cases h;rfl
 have hat:∀k,unnameSt s j g e z xs k=if k=j then .own e z xs else if k=g then .dead else if (s k).refs g then .dead else s k:=fun _=>rfl
 generalize unnameSt s j g e z xs=S at hat
 have hSj:S j=.own e z xs:=by rw [hat,if_pos rfl]
 have hSg:S g=.dead:=by rw [hat,if_neg hgj,if_pos rfl]
 have hSo:∀k,k≠j→k≠g→S k=.dead∨((s k).refs g=false∧S k=s k):=by
  intro k h1 h2
  rw [hat,if_neg h1,if_neg h2]
  cases h:(s k).refs g with
  | true=>exact .inl (by simp)
  | false=>exact .inr ⟨rfl,by simp⟩
 have hown:∀k,(s k).isOwner=true→k≠g→k≠j∧S k=s k:=by
  intro k hk h1
  have h2:k≠j:=by rintro rfl;rw [hj] at hk;cases hk
  refine ⟨h2,?_⟩
  rw [hat,if_neg h2,if_neg h1,if_neg]
  intro hr
  rw [refs_owner hr] at hk;cases hk
 have hblk:∀k b,blkOf (S k) (tmOf a k)=some b→(k=j∧blkOf (s g) (tmOf a g)=some b)∨(k≠g∧k≠j∧blkOf (s k) (tmOf a k)=some b):=by
  intro k b hb
  by_cases h1:k=j
  ·subst h1;rw [hSj,hv] at hb;rw [hg];exact .inl ⟨rfl,hb⟩
  ·by_cases h2:k=g
   ·subst h2;rw [hSg] at hb;cases hb
   ·rcases hSo k h1 h2 with h | ⟨_,h⟩<;>rw [h] at hb
    ·cases hb
    ·exact .inr ⟨h2,h1,hb⟩
 have hsub:∀c,Shared S0 w0.heap.size w s (tmOf a) c→Shared S0 w0.heap.size w S (tmOf a) c:=by
  intro c hc
  refine ⟨hc.1,hc.2.1,fun k hk=>?_⟩
  rcases hblk k c hk with ⟨_,h⟩ | ⟨_,_,h⟩
  ·exact hc.2.2 g h
  ·exact hc.2.2 k h
 have hrg:=hR.rep g
 rw [hg] at hrg
 obtain ⟨us,ho,hl,hx,hm,hB⟩:=hrg
 refine ⟨hR.defers,hR.size,hR.below,hR.lt,fun k=>?_,fun k m b hk hm'=>?_,fun k hk=>?_,fun k m hkm=>?_,hR.pin⟩
 ·by_cases h1:k=j
  ·subst h1
   rw [hSj,hv]
   exact ⟨us,ho,hl.mono hsub (fun _ _=>rfl),hx,hm,hB⟩
  ·by_cases h2:k=g
   ·subst h2;rw [hSg];trivial
   ·rcases hSo k h1 h2 with h | ⟨h3,h⟩
    ·rw [h];trivial
    ·rw [h]
     have href:∀m,(s k).refs m=true→(s m).isOwner=true∧S m=s m:=by
      intro m hm'
      have hmo:=hR.wf k m hm'
      have hmg:m≠g:=by rintro rfl;rw [h3] at hm';cases hm'
      exact ⟨hmo,(hown m hmo hmg).2⟩
     refine (hR.rep k).mono hsub (fun _ _=>rfl) (fun _ _=>rfl) (fun m hm'=>?_) (fun i' off' d' cs b hl' hs' _=>?_)
     ·have:=(href m (AV.refs_of_refsL hm')).2
      exact ⟨rfl,fun h=>by rw [this];exact ⟨h,rfl,rfl,rfl⟩,fun c hc=>by rw [this];exact hc⟩
     ·exact ⟨⟨cs,by rw [(href i' (AV.hasLink_refs hl').1).2];exact hs',rfl⟩,rfl⟩
 ·rcases hblk k b hk with ⟨h1,h2⟩ | ⟨h1,h1',h2⟩<;>rcases hblk m b hm' with ⟨h3,h4⟩ | ⟨h3,h3',h4⟩
  ·rw [h1,h3]
  ·exact absurd (hR.inj m g b h4 h2) h3
  ·exact absurd (hR.inj k g b h2 h4) h1
  ·exact hR.inj k m b h2 h4
 ·by_cases h1:k=j
  ·omega
  ·by_cases h2:k=g
   ·subst h2;rw [hSg];rfl
   ·rcases hSo k h1 h2 with h | ⟨_,h⟩<;>rw [h]
    ·rfl
    ·exact hR.out k hk
 ·by_cases h1:k=j
  ·subst h1;rw [hSj] at hkm;cases hkm
  ·by_cases h2:k=g
   ·subst h2;rw [hSg] at hkm;cases hkm
   ·rcases hSo k h1 h2 with h | ⟨h3,h⟩<;>rw [h] at hkm
    ·cases hkm
    ·have hmo:=hR.wf k m hkm
     have hmg:m≠g:=by rintro rfl;rw [h3] at hkm;cases hkm
     rw [(hown m hmo hmg).2]
     exact hmo
end
end Go.Ab
namespace Go.Ab
open Go Go.RowKit
variable [Amb]
theorem view_list {s:St} {tm:Nat→Value} {i e size:Nat} {xs:List (List CV)} {S S':Nat→Prop} {B:Nat→Prop} {w:World} {lo len:Nat} {wh:Bool} {v:Value} {us:List Value} (hs:s i=.own e size xs) (h:RepAV w S' B s tm (.view i lo len wh) v)
  (hown:w.ownsT 0 e size (tm i) xs.length us) (hl:RepL w S xs.flatten us) (hx:∀x∈xs,x.length=size) (hS:∀b,(tm i).ownBlock=some b→S b):RepC w S (.list size ((xs.drop lo).take len)) v:=by
 obtain ⟨_,hle,hv⟩:=h
 rw [hs] at hle
 have hle':lo+len≤xs.length:=hle
 have hwl:((xs.drop lo).take len).length=len:=by rw [List.length_take,List.length_drop];omega
 rcases hv with ⟨rfl,h0⟩ | ⟨b,off,cap,rfl,hc,hm,hk,hz,_⟩
 ·have:(xs.drop lo).take len=[]:=List.eq_nil_of_length_eq_zero (by omega)
  rw [this]
  exact .list0 none 0 size (by simp) (fun _=>rfl)
 ·by_cases h0:len=0
  ·have:(xs.drop lo).take len=[]:=List.eq_nil_of_length_eq_zero (by omega)
   rw [this,h0]
   exact .list0 (some _) cap size hm (fun h=>by cases h)
  ·have hoff:=hz (by omega)
   rw [hs] at hk hoff
   have hb:(tm i).ownBlock=some b:=hk
   have hoff':off=lo*size:=hoff
   have hat:∀(j:Nat) (c:CV),((xs.drop lo).take len).flatten[j]?=some c→xs.flatten[lo*size+j]?=some c:=by
    intro j c hj
    rw [flatten_take (fun x hx'=>hx x (List.mem_of_mem_drop hx')),flatten_drop hx,List.getElem?_take,List.getElem?_drop] at hj
    split at hj
    ·exact hj
    ·cases hj
   have hcell:∀(j:Nat) (c:CV),xs.flatten[j]?=some c→∃u,us[j]?=some u∧RepC w S c u∧w.cell? ⟨b,j,none⟩=some u:=by
    intro j c hj
    obtain ⟨u,hu,hr⟩:=hl.2 j c hj
    have:=hown.cells hb j u hu
    rw [addr_add_lit,Nat.zero_add] at this
    exact ⟨u,hu,hr,this⟩
   rw [show Value.slice (some ⟨b,off,none⟩) len cap=Value.slice (some ⟨b,off,none⟩) ((xs.drop lo).take len).length cap by rw [hwl]]
   refine .list ⟨b,off,none⟩ cap size ((xs.drop lo).take len) (fun j=>us.getD (lo*size+j) undef) (hS b hb) rfl (by omega) hm (fun x hx'=>hx x (List.mem_of_mem_drop (List.mem_of_mem_take hx'))) (fun j c hj=>?_) (fun j c hj=>?_)
   ·obtain ⟨u,hu,_,hc⟩:=hcell _ c (hat j c hj)
    rw [addr_add_lit,hoff',List.getD_eq_getElem?_getD,hu]
    exact hc
   ·obtain ⟨u,hu,hr,_⟩:=hcell _ c (hat j c hj)
    simp only [List.getD_eq_getElem?_getD,hu,Option.getD_some]
    exact hr
theorem view_trunc {s:St} {tm:Nat→Value} {i e size:Nat} {xs:List (List CV)} {S S':Nat→Prop} {B:Nat→Prop} {w:World} {lo len:Nat} {v:Value} {us:List Value} (hs:s i=.own e size xs) (h:RepAV w S' B s tm (.view i lo len true) v)
  (hown:w.ownsT 0 e size (tm i) xs.length us) (hl:RepL w S xs.flatten us) (hx:∀x∈xs,x.length=size) :
  w.ownsT 0 e size v (xs.take len).length (us.take (len*size))∧(∀b,v.ownBlock=some b→(tm i).ownBlock=some b)∧RepL w S (xs.take len).flatten (us.take (len*size))∧len≤xs.length:=by
 obtain ⟨_,hle,hvv⟩:=h
 rw [hs] at hle
 have hle':lo+len≤xs.length:=hle
 have hul:us.length=xs.length*size:=hown.1
 have hmul:len*size≤xs.length*size:=Nat.mul_le_mul_right _ (by omega)
 have htl:(xs.take len).length=len:=by rw [List.length_take];omega
 have hlt:RepL w S (xs.take len).flatten (us.take (len*size)):=by
  rw [flatten_take hx len]
  refine ⟨by simp only [List.length_take,hul,flatten_length hx],fun j c hj=>?_⟩
  rw [List.getElem?_take] at hj ⊢
  split at hj
  ·rename_i hlt;rw [if_pos hlt];exact hl.2 _ _ hj
  ·cases hj
 rw [htl]
 rcases hvv with ⟨h1,h0⟩ | ⟨bb,off,cap,h1,hc,hmm,hk',_,hw⟩
 ·subst h0;rw [h1];exact ⟨by simpa using World.ownsT_nil w 0 e size,fun b h=>(by cases h),hlt,by omega⟩
 ·obtain ⟨_,l,htm⟩:=hw rfl
  rw [hs] at htm
  have htm:tm i=_:=htm
  rw [h1]
  rcases hown.2 with ⟨hn,_⟩ | ⟨g,cap',cur,hv',_,hh,hnc,hcm,hcs,htake⟩
  ·rw [htm] at hn;cases hn
  ·rw [htm] at hv'
   simp only [Value.slice.injEq,Option.some.injEq,Addr.mk.injEq] at hv'
   obtain ⟨⟨rfl,rfl,_⟩,rfl,rfl⟩:=hv'
   refine ⟨⟨by rw [List.length_take,hul];omega,.inr ⟨bb,cap,cur,rfl,Nat.zero_le _,hh,hc,hmm,hcs,?_⟩⟩,fun b h=>by rw [htm];exact h,hlt,by omega⟩
   rw [←htake,List.take_take]
   congr 1;omega
def capX (s:St):CV ⊕ (Nat×Nat)→Option CV
 | .inl c=>some c
 | .inr (i,off)=>match s i with
  | .box cs=>bif decide (off<1000000) then some (.ref (cs.drop off)) else none
  | _=>none
def capXs (s:St):List (CV ⊕ (Nat×Nat))→Option (List CV)
 | []=>some []
 | c::r=>match capX s c,capXs s r with
  | some x,some xs=>some (x::xs)
  | _,_=>none
def capSlot:CV ⊕ (Nat×Nat)→Option Nat
 | .inl _=>none
 | .inr p=>some p.1
def argX (s:St) (x:Operand):Prop×Option XV:=
 match sv s x with
 | (p,.x xv)=>(p,some xv)
 | (p,.alias i)=>match s i with
  | .own _ size xs=>(p,some (.one (.list size xs)))
  | _=>(False,none)
 | (p,.view i lo len _)=>match s i with
  | .own _ size xs=>(p,some (.one (.list size ((xs.drop lo).take len))))
  | _=>(False,none)
 | (p,.elem cs)=>(p,some (.one (.ref cs)))
 | (p,.cloR f caps)=>match capXs s caps with
  | some cs=>(p,some (.one (.clo f cs)))
  | none=>(False,none)
 | _=>(False,none)
section
variable {P:Program} {S0:Env} {w0 w:World} {n:Nat} {s:St} {a:Act}
def Lent (S0:Env) (B:Nat) (w:World):Nat→Prop:=fun b=>(S0.rd b∨OwnB S0 B b)∧b<w.heap.size
theorem elem_ref {S S' B:Nat→Prop} {tm:Nat→Value} {cs:List CV} {v:Value} (h:RepAV w S B s tm (.elem cs) v) (hS:∀b,S b→S' b):RepC w S' (.ref cs) v:=by
 obtain ⟨ad,rfl,hsp,hs,hc⟩:=h
 refine .ref ad cs (fun j=>(w.cell? (ad.add j)).getD undef) (hS _ hs) hsp (fun j c hj=>?_) (fun j c hj=>?_)
 ·obtain ⟨u,hu,_⟩:=hc j c hj;rw [hu];rfl
 ·obtain ⟨u,hu,hr⟩:=hc j c hj;rw [hu];exact hr.mono hS (fun _ _=>rfl)
theorem capXs_ok (hR:Rel S0 w0 n s a w) {S:Nat→Prop} (hS:∀b,Shared S0 w0.heap.size w s (tmOf a) b→S b):∀{caps:List (CV ⊕ (Nat×Nat))} {cs:List CV} {us:List Value},(∀i,i∈caps.filterMap capSlot→∀b,blkOf (s i) (tmOf a i)=some b→S b)→capXs s caps=some cs→us.length=caps.length →
  (∀(j:Nat) (c:CV ⊕ (Nat×Nat)),caps[j]?=some c→∃u,us[j]?=some u∧CapRep w (Shared S0 w0.heap.size w s (tmOf a)) s (tmOf a) c u)→RepL w S cs us∧cs.length=caps.length
 | [],cs,us,_,h,hl,_=>by
  simp [capXs] at h;subst h
  exact ⟨⟨by simpa using hl,fun j c hj=>by simp at hj⟩,rfl⟩
 | c::r,cs,us,hb,h,hl,hc=>by
  simp only [capXs] at h
  split at h
  ·rename_i x xs e1 e2
   injection h with h
   subst h
   cases us with
   | nil=>simp at hl
   | cons u us =>
    obtain ⟨u',hu',hcu⟩:=hc 0 c rfl
    simp at hu'
    subst hu'
    have hsub:∀i,i∈r.filterMap capSlot→i∈(c::r).filterMap capSlot:=by
     intro i hi
     rw [List.filterMap_cons]
     split
     ·exact hi
     ·exact List.mem_cons_of_mem _ hi
    obtain ⟨h1,h2⟩:=capXs_ok hR hS (us:=us) (fun i hi=>hb i (hsub i hi)) e2 (by simpa using hl) (fun j c' hj=>by simpa using hc (j+1) c' (by simpa using hj))
    have hx:RepC w S x u:=by
     cases c with
     | inl c0 =>
      simp only [capX] at e1
      injection e1 with e1
      subst e1
      exact RepC.mono hcu hS (fun _ _=>rfl)
     | inr q =>
      obtain ⟨i,off⟩:=q
      simp only [capX] at e1
      split at e1
      ·rename_i bs hs
       by_cases hoff:off<1000000
       case neg=>simp [hoff] at e1
       simp only [hoff,decide_true,cond_true] at e1
       injection e1 with e1
       subst e1
       rw [capRep_inr,if_pos hoff] at hcu
       obtain ⟨b,hub,hbk⟩:=hcu
       subst hub
       have hi:=hR.rep i
       rw [hs] at hi
       obtain ⟨b',arr,ty,hv,hh,hrl,hO⟩:=hi
       have hbb:b'=b:=by
        rw [hs,hv] at hbk
        simpa [blkOf] using hbk
       subst hbb
       have hin:=hb i (by rw [List.filterMap_cons];simp [capSlot]) b' hbk
       refine .ref ⟨b',off,none⟩ (bs.drop off) (fun j=>(w.cell? ((⟨b',off,none⟩:Addr).add j)).getD undef) hin rfl (fun j c hj=>?_) (fun j c hj=>?_)
       ·obtain ⟨v,hv',_⟩:=box_elem hh hrl off j c hj;rw [hv'];rfl
       ·obtain ⟨v,hv',hr'⟩:=box_elem hh hrl off j c hj;rw [hv'];exact hr'.mono hS (fun _ _=>rfl)
      ·cases e1
    refine ⟨⟨by simp [h1.1],fun j c' hj=>?_⟩,by simp [h2]⟩
    cases j with
    | zero=>simp at hj;subst hj;exact ⟨u,rfl,hx⟩
    | succ j=>simp at hj;simpa using h1.2 j c' hj
  ·cases h
theorem RepC.clo_of {S:Nat→Prop} {f:FuncId} {cs:List CV} {us:Array Value} (h:RepL w S cs us.toList):RepC w S (.clo f cs) (.func (.func f) #[] us):=by
 have e:us=((List.range cs.length).map fun j=>us.toList.getD j undef).toArray:=by
  have hl:us.toList.length=cs.length:=h.1
  apply Array.ext'
  apply List.ext_getElem?
  intro j
  simp only [List.getElem?_map]
  rcases Nat.lt_or_ge j cs.length with hj | hj
  ·rw [List.getElem?_range hj]
   simp [List.getD_eq_getElem?_getD,show j<us.size by simpa using (hl▸hj:j<us.toList.length)]
  ·rw [List.getElem?_eq_none (by rw [hl];exact hj),List.getElem?_eq_none (by simpa using hj)]
   rfl
 rw [e]
 refine .clo f cs _ (fun j c hj=>?_)
 obtain ⟨u,hu,hr⟩:=h.2 j c hj
 rw [List.getD_eq_getElem?_getD,hu]
 exact hr
theorem argX_ok (hR:Rel S0 w0 n s a w) {x:Operand} {p:Prop} {xv:XV} (h:argX s x=(p,some xv)) (hp:p):RepX w (Lent S0 w0.heap.size w) xv (a.eval x):=by
 have hsv:=hR.sv x
 unfold argX at h
 split at h
 ·rename_i q xv' e
  simp only [Prod.mk.injEq,Option.some.injEq] at h
  obtain ⟨rfl,rfl⟩:=h
  rw [e] at hsv
  exact RepX.mono (hsv hp) (fun b hb=>⟨hb.1,hb.2.1⟩) (fun _ _=>rfl)
 ·rename_i q i e
  split at h
  ·rename_i e' size xs hs
   simp only [Prod.mk.injEq,Option.some.injEq] at h
   obtain ⟨rfl,rfl⟩:=h
   rw [e] at hsv
   obtain ⟨hv,_⟩:=RepAV.alias_own (hsv hp) hs
   have hi:=hR.rep i
   rw [hs] at hi
   obtain ⟨us,hown,hl,hx,hm,hO⟩:=hi
   rw [hv]
   exact own_list hown (hl.mono (fun b hb=>⟨hb.1,hb.2.1⟩) (fun _ _=>rfl)) hx hm (fun b hb=>⟨.inr (hO b hb),(hown.lt b hb).2⟩)
  ·simp at h
 ·rename_i q i lo len wh e
  split at h
  ·rename_i e' size xs hs
   simp only [Prod.mk.injEq,Option.some.injEq] at h
   obtain ⟨rfl,rfl⟩:=h
   rw [e] at hsv
   have hi:=hR.rep i
   rw [hs] at hi
   obtain ⟨us,hown,hl,hx,hm,hO⟩:=hi
   exact view_list hs (hsv hp) hown (hl.mono (fun b hb=>⟨hb.1,hb.2.1⟩) (fun _ _=>rfl)) hx (fun b hb=>⟨.inr (hO b hb),(hown.lt b hb).2⟩)
  ·simp at h
 ·rename_i q cs e
  simp only [Prod.mk.injEq,Option.some.injEq] at h
  obtain ⟨rfl,rfl⟩:=h
  rw [e] at hsv
  exact elem_ref (hsv hp) (fun b hb=>⟨hb.1,hb.2.1⟩)
 ·rename_i q f caps e
  split at h
  ·rename_i cs hcs
   simp only [Prod.mk.injEq,Option.some.injEq] at h
   obtain ⟨rfl,rfl⟩:=h
   rw [e] at hsv
   obtain ⟨us,hv,hsz,hcap⟩:=hsv hp
   rw [hv]
   refine RepC.clo_of (capXs_ok hR (fun b hb=>⟨hb.1,hb.2.1⟩) (fun i _ b hb=>?_) hcs (by simpa using hsz) (fun j c hj=>by simpa using hcap j c hj)).1
   exact ⟨.inr ((hR.rep i).blk_lt hb).1,((hR.rep i).blk_lt hb).2⟩
  ·simp at h
 ·simp at h
def foldC (s:St) (i o:Nat) (c:CV):CV:=
 match c with
 | .any=>match s (LK i o) with
  | .link i' o' d=>match i'==i&&o'==o with
   | true=>match s d with
    | .own _ z xs=>.list z xs
    | _=>.any
   | false=>.any
  | _=>.any
 | c=>c
def foldCells (s:St) (i:Nat):Nat→List CV→List CV
 | _,[]=>[]
 | o,c::r=>foldC s i o c::foldCells s i (o+1) r
theorem foldCells_at {s:St} {i:Nat}:∀{cs:List CV} {o j:Nat} {c:CV},(foldCells s i o cs)[j]?=some c→∃c',cs[j]?=some c'∧c=foldC s i (o+j) c'
 | [],o,j,c,h=>by simp [foldCells] at h
 | x::r,o,0,c,h=>by simp [foldCells] at h;subst h;exact ⟨x,rfl,rfl⟩
 | x::r,o,j+1,c,h=>by
  simp only [foldCells,List.getElem?_cons_succ] at h
  obtain ⟨c',h1,h2⟩:=foldCells_at h
  exact ⟨c',by simpa using h1,by rw [h2];congr 1;omega⟩
theorem foldC_or (s:St) (i o:Nat) (c:CV):foldC s i o c=c∨∃d e z xs,c=.any∧s (LK i o)=.link i o d∧s d=.own e z xs∧foldC s i o c=.list z xs:=by
 unfold foldC
 split
 ·split
  ·rename_i i' o' d hs
   split
   ·rename_i h
    simp only [Bool.and_eq_true,beq_iff_eq] at h
    obtain ⟨rfl,rfl⟩:=h
    split
    ·rename_i e z xs hd
     exact .inr ⟨d,e,z,xs,rfl,hs,hd,rfl⟩
    ·exact .inl rfl
   ·exact .inl rfl
  ·exact .inl rfl
 ·exact .inl rfl
theorem foldC_ok (hR:Rel S0 w0 n s a w) {i o b:Nat} {cs:List CV} {arr:Array Value} {t:TypeId} {c:CV} {u:Value} (hs:s i=.box cs) (hv:tmOf a i=.pointer (some ⟨b,0,none⟩)) (hh:w.heap[b]?=some (.cells arr t (0,0))) (hu:arr[o]?=some u) (hr:RepC w (Shared S0 w0.heap.size w s (tmOf a)) c u) :
  RepC w (Lent S0 w0.heap.size w) (foldC s i o c) u:=by
 rcases foldC_or s i o c with e | ⟨d,e',z,xs,e1,e2,e3,e4⟩
 ·rw [e];exact RepC.mono hr (fun b hb=>⟨hb.1,hb.2.1⟩) (fun _ _=>rfl)
 ·rw [e4]
  have hl:=hR.rep (LK i o)
  rw [e2] at hl
  obtain ⟨_,cs2,b2,k1,_,k3,k4⟩:=hl
  rw [hs,hv] at k3
  have:b2=b:=by
   have:some b=some b2:=k3
   injection this with this;exact this.symm
  subst this
  rw [cell_of_row w b2 o arr t (0,0) hh,hu] at k4
  injection k4 with k4
  have hd:=hR.rep d
  rw [e3] at hd
  obtain ⟨us,hown,hl,hx,hm,hO⟩:=hd
  rw [e3] at k4
  have k4:u=tmOf a d:=k4
  rw [k4]
  exact own_list hown (hl.mono (fun b hb=>⟨hb.1,hb.2.1⟩) (fun _ _=>rfl)) hx hm (fun b hb=>⟨.inr (hO b hb),(hown.lt b hb).2⟩)
def linkedB (s:St) (x:Operand):Bool:=
 match (sv s x).2 with
 | .ptr i _=>!(s i).told
 | _=>false
def argR (s:St) (x:Operand):Prop×Option XV:=
 match sv s x with
 | (p,.ptr i off)=>match s i with
  | .box cs=>(p,some (.one (.ref (foldCells s i off (cs.drop off)))))
  | _=>(False,none)
 | _=>argX s x
theorem argR_ok (hR:Rel S0 w0 n s a w) {x:Operand} {p:Prop} {xv:XV} (h:argR s x=(p,some xv)) (hp:p):RepX w (Lent S0 w0.heap.size w) xv (a.eval x):=by
 unfold argR at h
 split at h
 ·rename_i q i off e
  split at h
  ·rename_i cs hs
   simp only [Prod.mk.injEq,Option.some.injEq] at h
   obtain ⟨rfl,rfl⟩:=h
   have hsv:=hR.sv x (by rw [e];exact hp)
   rw [e] at hsv
   obtain ⟨b,hv,hk⟩:=hsv
   have hi:=hR.rep i
   rw [hs] at hi hk
   obtain ⟨b',arr,t,hv',hh,hl,hB⟩:=hi
   rw [hv'] at hk
   obtain rfl:b'=b:=by simpa [blkOf] using hk
   rw [hv]
   refine RepC.ref ⟨b',off,none⟩ _ (fun j=>(w.cell? ((⟨b',off,none⟩:Addr).add j)).getD undef) ⟨.inr hB,(Array.getElem?_eq_some_iff.1 hh).1⟩ rfl (fun j c hj=>?_) (fun j c hj=>?_)
   ·obtain ⟨c',h1,_⟩:=foldCells_at hj
    obtain ⟨u,hu,_⟩:=box_elem hh hl off j c' h1
    rw [hu];rfl
   ·obtain ⟨c',h1,h2⟩:=foldCells_at hj
    rw [List.getElem?_drop] at h1
    obtain ⟨u,hu,hr⟩:=hl.2 _ _ h1
    have hu':arr[off+j]?=some u:=by simpa using hu
    have hcell:w.cell? ((⟨b',off,none⟩:Addr).add j)=some u:=by
     rw [addr_add_lit,cell_of_row w b' (off+j) arr t (0,0) hh];exact hu'
    rw [hcell,h2]
    exact foldC_ok hR hs hv' hh hu' hr
  ·simp at h
 ·exact argX_ok hR h hp
theorem frozenAV_own {a:AV}:((∃e size xs,a=.own e size xs)∨∃cs,a=.box cs)∨frozenAV a=a:=by
 cases a with
 | own e size xs=>exact .inl (.inl ⟨e,size,xs,rfl⟩)
 | box cs=>exact .inl (.inr ⟨cs,rfl⟩)
 | _=>exact .inr rfl
theorem freeze_any (hR:Rel S0 w0 n s a w) (i:Nat):Rel S0 w0 n (freeze s i) a w:=by
 rcases frozenAV_own (a:=s i) with hs | hs
 ·exact hR.freeze hs
 ·have hi:freeze s i i=s i:=by unfold freeze;simp [hs]
  have ho:∀j,j≠i→(s j).refs i=false→freeze s i j=s j:=by intro j hj hr;unfold freeze;simp [hj,hr]
  have hnb:∀cs,s i≠.box cs:=fun cs e=>by rw [e] at hs;cases hs
  have hk:∀j,j≠i→(s j).refs i=true→freeze s i j=.dead:=by intro j hj hr;unfold freeze;simp [hj,hr,thawRef_dead _ hnb]
  refine hR.forget (fun j=>?_) (fun j k hjk=>?_)
  ·by_cases hj:j=i
   ·subst hj;exact .inl hi
   ·cases hr:(s j).refs i with
    | true=>exact .inr (hk j hj hr)
    | false=>exact .inl (ho j hj hr)
  ·by_cases hki:k=i
   ·subst hki;exact hi
   ·have hsj:freeze s i j=s j:=by
     by_cases hj:j=i
     ·subst hj;exact hi
     ·cases hr:(s j).refs i with
      | true=>rw [hk j hj hr] at hjk;cases hjk
      | false=>exact ho j hj hr
    rw [hsj] at hjk
    have hko:=hR.wf j k hjk
    refine ho k hki ?_
    cases hr:(s k).refs i with
    | true=>rw [refs_owner hr] at hko;cases hko
    | false=>rfl
def lendsOf:AV→List Nat
 | .alias i=>[i]
 | .view i _ _ _=>[i]
 | .cloR _ caps=>caps.filterMap capSlot
 | _=>[]
def lends (s:St):List Operand→List Nat
 | []=>[]
 | x::r=>lendsOf (sv s x).2++lends s r
def cloSlots:AV→List Nat
 | .cloR _ caps=>caps.filterMap capSlot
 | _=>[]
def lendsC0 (s:St):List Operand→List Nat
 | []=>[]
 | x::r=>cloSlots (sv s x).2++lendsC0 s r
def ptrSlot:AV→List Nat
 | .ptr i 0=>[i]
 | _=>[]
def lentS (s:St):List Operand→List Nat
 | []=>[]
 | x::r=>ptrSlot (sv s x).2++lentS s r
def outOf (l m:List Nat):List Nat:=m.filter fun i=>!l.contains i
def lendsC (s:St) (l:List Operand):List Nat:=outOf (lentS s l) (lendsC0 s l)
def freezeL (s:St):List Nat→St
 | []=>s
 | i::r=>freezeL (freeze s i) r
def withC (s:St) (l:List Nat) (k:St→Prop):Prop:=k (freezeL s l)
theorem freezeL_ok:∀(l:List Nat) (s:St),Rel S0 w0 n s a w→Rel S0 w0 n (freezeL s l) a w
 | [],_,h=>h
 | i::r,_,h=>freezeL_ok r _ (freeze_any h i)
theorem freeze_owner {i k:Nat} (h:(freeze s i k).isOwner=true):freeze s i k=s k:=by
 unfold freeze at h ⊢
 by_cases hk:k=i
 ·subst hk
  simp only [if_pos] at h ⊢
  rcases frozenAV_own (a:=s k) with (⟨e,size,xs,hs⟩ | ⟨cs,hs⟩) | hs
  ·rw [hs] at h;cases h
  ·rw [hs] at h;cases h
  ·exact hs
 ·simp only [if_neg hk] at h ⊢
  cases hr:(s k).refs i with
  | true=>rw [hr] at h;simp only [if_true] at h;rw [thawRef_owner] at h;cases h
  | false=>rfl
theorem freezeL_owner:∀(l:List Nat) (s:St) (k:Nat),(freezeL s l k).isOwner=true→freezeL s l k=s k
 | [],_,_,_=>rfl
 | i::r,s,k,h=>by
  have h1:=freezeL_owner r (freeze s i) k h
  simp only [freezeL] at h ⊢
  rw [h1] at h ⊢
  exact freeze_owner h
theorem freezeL_frozen:∀(l:List Nat) (s:St) (i:Nat),((∃e size xs,s i=.own e size xs)∨∃cs,s i=.box cs)→i∈l→(freezeL s l i).isOwner=false
 | [],_,_,_,h=>by cases h
 | j::r,s,i,hs,hm=>by
  simp only [freezeL]
  by_cases hij:i=j
  ·subst hij
   cases ho:(freezeL (freeze s i) r i).isOwner with
   | false=>rfl
   | true =>
    have:=freezeL_owner r _ _ ho
    rw [this] at ho
    unfold freeze at ho
    rcases hs with ⟨e,size,xs,hs⟩ | ⟨cs,hs⟩<;>simp [hs,frozenAV,AV.isOwner] at ho
  ·refine freezeL_frozen r _ i ?_ (by simpa [hij] using hm)
   unfold freeze
   rcases hs with ⟨e,size,xs,hs⟩ | ⟨cs,hs⟩
   ·exact .inl ⟨e,size,xs,by simp [hij,hs,AV.refs]⟩
   ·exact .inr ⟨cs,by simp [hij,hs,AV.refs]⟩
theorem argX_frozen (hR:Rel S0 w0 n s a w) {x:Operand} {p:Prop} {xv:XV} (h:argX s x=(p,some xv)) (hp:p) (l:List Nat) (hl:∀i∈lendsOf (sv s x).2,i∈l) :
  RepX w (Shared S0 w0.heap.size w (freezeL s l) (tmOf a)) xv (a.eval x):=by
 have hsv:=hR.sv x
 have hblk:∀k b,blkOf (freezeL s l k) (tmOf a k)=some b→(freezeL s l k).isOwner=true∧blkOf (s k) (tmOf a k)=some b:=by
  intro k b hb
  have ho:(freezeL s l k).isOwner=true:=by
   cases ho:(freezeL s l k).isOwner with
   | true=>rfl
   | false=>rw [blkOf_notOwner ho] at hb;cases hb
  rw [freezeL_owner l s k ho] at hb
  exact ⟨ho,hb⟩
 have hsub:∀b,Shared S0 w0.heap.size w s (tmOf a) b→Shared S0 w0.heap.size w (freezeL s l) (tmOf a) b:=fun b hb=>⟨hb.1,hb.2.1,fun k hk=>hb.2.2 k (hblk k b hk).2⟩
 unfold argX at h
 split at h
 ·rename_i q xv' e
  simp only [Prod.mk.injEq,Option.some.injEq] at h
  obtain ⟨rfl,rfl⟩:=h
  rw [e] at hsv
  exact RepX.mono (hsv hp) hsub (fun _ _=>rfl)
 ·rename_i q i e
  split at h
  ·rename_i e' size xs hs
   simp only [Prod.mk.injEq,Option.some.injEq] at h
   obtain ⟨rfl,rfl⟩:=h
   have hil:=hl i (by rw [e];exact List.mem_cons_self)
   rw [e] at hsv
   obtain ⟨hv,_⟩:=RepAV.alias_own (hsv hp) hs
   have hi:=hR.rep i
   rw [hs] at hi
   obtain ⟨us,hown,hlr,hx,hm,hO⟩:=hi
   rw [hv]
   refine own_list hown (hlr.mono hsub (fun _ _=>rfl)) hx hm (fun b hb=>⟨.inr (hO b hb),(hown.lt b hb).2,fun k hk=>?_⟩)
   obtain ⟨ho,hkb⟩:=hblk k b hk
   have hki:=hR.inj k i b hkb (by rw [hs];exact hb)
   subst hki
   rw [freezeL_frozen l s k (.inl ⟨_,_,_,hs⟩) hil] at ho
   cases ho
  ·simp at h
 ·rename_i q i lo len wh e
  split at h
  ·rename_i e' size xs hs
   simp only [Prod.mk.injEq,Option.some.injEq] at h
   obtain ⟨rfl,rfl⟩:=h
   have hil:=hl i (by rw [e];exact List.mem_cons_self)
   rw [e] at hsv
   have hi:=hR.rep i
   rw [hs] at hi
   obtain ⟨us,hown,hlr,hx,hm,hO⟩:=hi
   refine view_list hs (hsv hp) hown (hlr.mono hsub (fun _ _=>rfl)) hx (fun b hb=>⟨.inr (hO b hb),(hown.lt b hb).2,fun k hk=>?_⟩)
   obtain ⟨ho,hkb⟩:=hblk k b hk
   have hki:=hR.inj k i b hkb (by rw [hs];exact hb)
   subst hki
   rw [freezeL_frozen l s k (.inl ⟨_,_,_,hs⟩) hil] at ho
   cases ho
  ·simp at h
 ·rename_i q cs e
  simp only [Prod.mk.injEq,Option.some.injEq] at h
  obtain ⟨rfl,rfl⟩:=h
  rw [e] at hsv
  exact elem_ref (hsv hp) hsub
 ·rename_i q f caps e
  split at h
  ·rename_i cs hcs
   simp only [Prod.mk.injEq,Option.some.injEq] at h
   obtain ⟨rfl,rfl⟩:=h
   have hl':∀i∈caps.filterMap capSlot,i∈l:=fun i hi=>hl i (by rw [e];exact hi)
   rw [e] at hsv
   obtain ⟨us,hv,hsz,hcap⟩:=hsv hp
   rw [hv]
   refine RepC.clo_of (capXs_ok hR hsub (fun i hi b hb=>?_) hcs (by simpa using hsz) (fun j c hj=>by simpa using hcap j c hj)).1
   refine ⟨.inr ((hR.rep i).blk_lt hb).1,((hR.rep i).blk_lt hb).2,fun k hk=>?_⟩
   obtain ⟨ho,hkb⟩:=hblk k b hk
   have hki:=hR.inj k i b hkb hb
   subst hki
   have hbox:(∃e size xs,s k=.own e size xs)∨∃cs,s k=.box cs:=by
    have:∀{caps:List (CV ⊕ (Nat×Nat))} {cs:List CV},capXs s caps=some cs→k∈caps.filterMap capSlot→∃bs,s k=.box bs:=by
     intro caps
     induction caps with
     | nil=>intro cs _ h;cases h
     | cons c r ih =>
      intro cs h hm
      simp only [capXs] at h
      split at h
      ·rename_i x xs e1 e2
       rw [List.filterMap_cons] at hm
       cases c with
       | inl c0=>exact ih e2 (by simpa [capSlot] using hm)
       | inr q =>
        simp only [capSlot,List.mem_cons] at hm
        rcases hm with hm | hm
        ·subst hm
         simp only [capX] at e1
         split at e1
         ·rename_i bs hs;exact ⟨bs,hs⟩
         ·cases e1
        ·exact ih e2 hm
      ·cases h
    exact .inr (this hcs hi)
   rw [freezeL_frozen l s k hbox (hl' k hi)] at ho
   cases ho
  ·simp at h
 ·simp at h
def uv (s:St) (x:Operand):Prop×AV:=
 match argX s x with
 | (p,some xv)=>(p,.x xv)
 | _=>(False,.dead)
theorem lends_mem {s:St} {x:Operand} {i:Nat}:∀{l:List Operand},x∈l→i∈lendsOf (sv s x).2→i∈lends s l
 | y::r,hx,h=>by
  simp only [lends,List.mem_append]
  rcases List.mem_cons.1 hx with rfl | hx
  ·exact .inl h
  ·exact .inr (lends_mem hx h)
theorem uv_ok (hR:Rel S0 w0 n s a w) (l:List Operand) {x:Operand} (hx:x∈l) (hp:(uv s x).1):RepIn S0 w0 (freezeL s (lends s l)) a w (uv s x).2 (a.eval x):=by
 unfold uv at hp ⊢
 split at hp
 ·rename_i p xv e
  exact argX_frozen hR e hp _ (fun i hi=>lends_mem hx hi)
 ·exact hp.elim
theorem uv_of_sv {s:St} {x:Operand} {p:Prop} {xv:XV} (h:sv s x=(p,.x xv)):uv s x=(p,.x xv)∧lends s [x]=[]:=by
 unfold uv argX
 simp only [h,lends,lendsOf]
 exact ⟨trivial,rfl⟩
end
end Go.Ab
namespace Go.Ab
open Go Go.RowKit
variable [Amb]
theorem foldl_setRange (off:Nat):∀(l:List Value) (k:Nat) (cells:Array Value),off+k+l.length≤cells.size →
  ((l.zipIdx k).foldl (fun (cs:Array Value) (x:Value×Nat)=>cs.setIfInBounds (off+x.2) x.1) cells).toList=setRange cells.toList (off+k) l:=by
 intro l
 induction l with
 | nil=>intro k cells _;simp [setRange]
 | cons v l ih =>
  intro k cells h
  simp only [List.zipIdx_cons,List.foldl_cons]
  rw [ih (k+1) _ (by simp at h ⊢;omega)]
  simp only [setRange,Array.toList_setIfInBounds,List.length_cons]
  have hlt:off+k<cells.toList.length:=by simp at h ⊢;omega
  rw [List.drop_set_of_lt (by omega)]
  have e1:off+(k+1)=(off+k)+1:=by omega
  rw [e1,List.take_succ_eq_append_getElem (by simpa using hlt)]
  rw [List.take_set_of_le (by omega)]
  simp only [List.getElem_set_self,List.append_assoc,List.cons_append,List.nil_append]
  congr 3
  congr 1
  omega
section
variable {P:Program} {S0:Env} {w0 w:World} {n:Nat} {s:St} {a:Act}
def buildT (P:Program) (t:TypeId):Option (List CV×List (Nat×Nat)):=
 match P.info? t,P.underlying t with
 | some it,some (.struct fields)=>match it.zero,fields.toList.mapM (fun f=>(P.info? f.type).map fun i=>(f.offset,i.size)) with
  | some z,some places=>if z.cells.toList.all smallCell then some (z.cells.toList.map ofCell,places) else none
  | _,_=>none
 | _,_=>none
def fillC (places:List (Nat×Nat)):List CV→List (Nat×(Prop×AV))→Prop×List CV
 | cells,[]=>(True,cells)
 | cells,(i,(p,.x xv))::r=>match places[i]? with
  | some (off,size)=>(p∧xv.cells.length=size∧off+size≤cells.length∧(fillC places (setRange cells off xv.cells) r).1,(fillC places (setRange cells off xv.cells) r).2)
  | none=>(False,cells)
 | cells,_=>(False,cells)
def abuild (P:Program) (f:Operand→Prop×AV) (t:TypeId) (parts:List (Nat×Operand)):Prop×AV:=
 match buildT P t with
 | some (cs,places)=>((fillC places cs (parts.map fun x=>(x.1,f x.2))).1,.x (.agg (fillC places cs (parts.map fun x=>(x.1,f x.2))).2))
 | none=>(False,.dead)
theorem setRange_len {α:Type} (cs vs:List α) (off:Nat) (h:off+vs.length≤cs.length):(setRange cs off vs).length=cs.length:=by
 simp only [setRange,List.length_append,List.length_take,List.length_drop];omega
theorem fill_ok {f:Operand→Prop×AV} (places:List (Nat×Nat)):∀(parts:List (Nat×Operand)) (cs:List CV) (arr:Array Value),(∀x∈parts,Knows S0 w0 s a w (f x.2) (a.eval x.2))→RepL w (Shared S0 w0.heap.size w s (tmOf a)) cs arr.toList →
  (fillC places cs (parts.map fun x=>(x.1,f x.2))).1 →
  ∃arr',Instr.fill (places.toArray[·]?) arr (parts.map fun x=>(x.1,a.eval x.2))=some arr'∧RepL w (Shared S0 w0.heap.size w s (tmOf a)) (fillC places cs (parts.map fun x=>(x.1,f x.2))).2 arr'.toList:=by
 intro parts
 induction parts with
 | nil=>intro cs arr _ h _;exact ⟨arr,rfl,h⟩
 | cons x parts ih =>
  intro cs arr hf h hp
  obtain ⟨i,x⟩:=x
  have hsv:=hf _ List.mem_cons_self
  dsimp only at hsv
  simp only [List.map_cons] at hp ⊢
  generalize f x=sx at hp hsv ⊢
  obtain ⟨p,r⟩:=sx
  cases r with
  | x xv =>
   simp only [fillC] at hp ⊢
   cases hpl:places[i]? with
   | none=>rw [hpl] at hp;exact hp.elim
   | some os =>
    obtain ⟨off,size⟩:=os
    rw [hpl] at hp
    obtain ⟨h1,h2,h3,h4⟩:=hp
    have hrep:=RepX.cells (hsv h1)
    have hsz:(a.eval x).cells.size=size:=by
     have:=hrep.1
     simp only [Array.length_toList] at this
     rw [this,h2]
    have hcl:arr.size=cs.length:=by have:=h.1;simpa using this
    have hfold:((a.eval x).cells.zipIdx.foldl (fun cs (c,j)=>cs.setIfInBounds (off+j) c) arr).toList=setRange arr.toList off (a.eval x).cells.toList:=by
     have:=foldl_setRange off (a.eval x).cells.toList 0 arr (by simp;omega)
     rw [←Array.foldl_toList,Array.toList_zipIdx]
     exact this
    have hnext:=h.setRange hrep off
    rw [←hfold] at hnext
    obtain ⟨arr',hf,hr⟩:=ih _ _ (fun y hy=>hf y (List.mem_cons_of_mem _ hy)) hnext h4
    refine ⟨arr',?_,hr⟩
    have hat:places.toArray[i]?=some (off,size):=by simpa using hpl
    simp only [Instr.fill,hat,hsz,ne_eq,not_true_eq_false,Bool.false_or,decide_false]
    rw [if_neg (by simp;omega)]
    exact hf
  | _=>exact hp.elim
theorem abuild_ok {f:Operand→Prop×AV} {t:TypeId} {parts:Array (Nat×Operand)} (hf:∀x∈parts.toList,Knows S0 w0 s a w (f x.2) (a.eval x.2)) (hp:(abuild P f t parts.toList).1) :
  ∃v,(Instr.build t (parts.map fun (i,x)=>(i,a.eval x))).run P w=.ok v w∧RepIn S0 w0 s a w (abuild P f t parts.toList).2 v∧(abuild P f t parts.toList).2.isOwner=false:=by
 unfold abuild at hp ⊢
 split at hp
 ·rename_i cs places hb
  unfold buildT at hb
  split at hb
  ·rename_i it fields hi hu
   split at hb
   ·rename_i z places' hz hpl
    split at hb
    ·rename_i hall
     injection hb with hb
     injection hb with hb1 hb2
     subst hb1;subst hb2
     obtain ⟨arr',hf,hr⟩:=fill_ok places' parts.toList _ z.cells hf (ofCells_rep hall) hp
     refine ⟨.agg arr',run_build (P:=P) w t _ arr' ?_,⟨arr',rfl,hr⟩,rfl⟩
     simp only [Program.built,hi,hu,hz,hpl]
     rw [←hf]
     congr 1
     simp
    ·cases hb
   ·cases hb
  ·cases hb
 ·exact hp.elim
def fillX (size:Nat):List (List CV)→List (Nat×(Prop×AV))→Prop×List (List CV)
 | xs,[]=>(True,xs)
 | xs,(i,(p,.x xv))::r=>(p∧xv.cells.length=size∧i<xs.length∧(fillX size (xs.set i xv.cells) r).1,(fillX size (xs.set i xv.cells) r).2)
 | xs,_=>(False,xs)
def rowT (P:Program) (t:TypeId):Option (TypeId×Nat×List CV):=
 match sliceT P t with
 | some (e,size)=>match zeroOf P e with
  | some z=>if z.length=size then some (e,size,z) else none
  | none=>none
 | none=>none
def abuildSlice (P:Program) (f:Operand→Prop×AV) (t:TypeId) (len:Nat) (parts:List (Nat×Operand)):Prop×AV:=
 match rowT P t with
 | some (e,size,z)=>(len*size≤16777216∧(fillX size (List.replicate len z) (parts.map fun x=>(x.1,f x.2))).1,.own e size (fillX size (List.replicate len z) (parts.map fun x=>(x.1,f x.2))).2)
 | none=>(False,.dead)
theorem flatten_set {xs:List (List CV)} {size:Nat} (hx:∀x∈xs,x.length=size) {i:Nat} (hi:i<xs.length) {c:List CV} (hc:c.length=size) :
  (xs.set i c).flatten=setRange xs.flatten (i*size) c:=by
 induction xs generalizing i with
 | nil=>simp at hi
 | cons x xs ih =>
  have hl:=hx x (by simp)
  cases i with
  | zero =>
   simp only [List.set_cons_zero,List.flatten_cons,setRange,Nat.zero_mul,List.take_zero,List.nil_append,Nat.zero_add]
   rw [List.drop_append,List.drop_eq_nil_of_le (by omega:x.length≤c.length),hc,hl]
   simp
  | succ i =>
   simp only [List.set_cons_succ,List.flatten_cons]
   rw [ih (fun y hy=>hx y (by simp [hy])) (by simpa using hi)]
   have e1:(i+1)*size=x.length+i*size:=by rw [Nat.add_mul,hl];omega
   have e2:(x++xs.flatten).drop (x.length+i*size+c.length)=xs.flatten.drop (i*size+c.length):=by
    rw [List.drop_append,List.drop_eq_nil_of_le (by omega),List.nil_append]
    congr 1;omega
   have e3:(x++xs.flatten).take (x.length+i*size)=x++xs.flatten.take (i*size):=by
    rw [List.take_append,List.take_of_length_le (by omega)]
    congr 2;omega
   simp only [setRange,e1,e2,e3,List.append_assoc]
theorem fillX_ok {f:Operand→Prop×AV} (size:Nat):∀(parts:List (Nat×Operand)) (xs:List (List CV)) (arr:Array Value),(∀x∈parts,Knows S0 w0 s a w (f x.2) (a.eval x.2))→(∀x∈xs,x.length=size)→RepL w (Shared S0 w0.heap.size w s (tmOf a)) xs.flatten arr.toList →
  (fillX size xs (parts.map fun x=>(x.1,f x.2))).1 →
  (fillX size xs (parts.map fun x=>(x.1,f x.2))).2.length=xs.length∧(∀x∈(fillX size xs (parts.map fun x=>(x.1,f x.2))).2,x.length=size) ∧
  ∃arr',Instr.fill (fun i=>some (i*size,size)) arr (parts.map fun x=>(x.1,a.eval x.2))=some arr'∧RepL w (Shared S0 w0.heap.size w s (tmOf a)) (fillX size xs (parts.map fun x=>(x.1,f x.2))).2.flatten arr'.toList:=by
 intro parts
 induction parts with
 | nil=>intro xs arr _ hx h _;exact ⟨rfl,hx,arr,rfl,h⟩
 | cons x parts ih =>
  intro xs arr hf hx h hp
  obtain ⟨i,x⟩:=x
  have hsv:=hf _ List.mem_cons_self
  dsimp only at hsv
  simp only [List.map_cons] at hp ⊢
  generalize f x=sx at hp hsv ⊢
  obtain ⟨p,r⟩:=sx
  cases r with
  | x xv =>
   simp only [fillX] at hp ⊢
   obtain ⟨h1,h2,h3,h4⟩:=hp
   have hrep:=RepX.cells (hsv h1)
   have hsz:(a.eval x).cells.size=size:=by
    have:=hrep.1
    simp only [Array.length_toList] at this
    rw [this,h2]
   have hcl:arr.size=xs.length*size:=by have:=h.1;rw [flatten_length hx] at this;simpa using this
   have hin:i*size+size≤arr.size:=by
    rw [hcl]
    have:(i+1)*size≤xs.length*size:=Nat.mul_le_mul_right _ h3
    rw [Nat.add_mul] at this;omega
   have hfold:((a.eval x).cells.zipIdx.foldl (fun cs (c,j)=>cs.setIfInBounds (i*size+j) c) arr).toList=setRange arr.toList (i*size) (a.eval x).cells.toList:=by
    have:=foldl_setRange (i*size) (a.eval x).cells.toList 0 arr (by simp;omega)
    rw [←Array.foldl_toList,Array.toList_zipIdx]
    exact this
   have hnext:=h.setRange hrep (i*size)
   rw [←hfold,←flatten_set hx h3 h2] at hnext
   have hx':∀y∈xs.set i xv.cells,y.length=size:=by
    intro y hy
    rcases List.mem_or_eq_of_mem_set hy with hy | hy
    ·exact hx y hy
    ·rw [hy,h2]
   obtain ⟨hl,hxs,arr',hf,hr⟩:=ih _ _ (fun y hy=>hf y (List.mem_cons_of_mem _ hy)) hx' hnext h4
   refine ⟨by rw [hl];simp,hxs,arr',?_,hr⟩
   simp only [Instr.fill,hsz,ne_eq,not_true_eq_false,Bool.false_or,decide_false]
   rw [if_neg (by simp;omega)]
   exact hf
  | _=>exact hp.elim
theorem zeros_rep {S:Nat→Prop} {zc:List CV} {z:Array Value} (h:RepL w S zc z.toList) (len:Nat) :
  RepL w S (List.replicate len zc).flatten ((Array.range (len*z.size)).map (z[· % z.size]!)).toList:=by
 have hl:zc.length=z.size:=by have:=h.1;simpa using this.symm
 refine ⟨by simp [hl],fun j c hj=>?_⟩
 have hlt:j<len*z.size:=by
  have:=(List.getElem?_eq_some_iff.1 hj).1
  simpa [hl] using this
 have hpos:0<z.size:=by
  rcases Nat.eq_zero_or_pos z.size with h0 | h0
  ·rw [h0] at hlt;simp at hlt
  ·exact h0
 have hj':zc[j % z.size]?=some c:=by
  have key:∀(len j:Nat),j<len*zc.length→(List.replicate len zc).flatten[j]?=zc[j % zc.length]?:=by
   intro len
   induction len with
   | zero=>intro j h;simp at h
   | succ len ih =>
    intro j h
    simp only [List.replicate_succ,List.flatten_cons]
    rw [List.getElem?_append]
    split
    ·rename_i hlt;rw [Nat.mod_eq_of_lt hlt]
    ·rename_i hge
     rw [ih _ (by rw [Nat.add_mul] at h;omega)]
     congr 1
     have:j=(j-zc.length)+zc.length:=by omega
     conv=>rhs;rw [this,Nat.add_mod_right]
  rw [key _ _ (by rw [hl];exact hlt),hl] at hj
  exact hj
 obtain ⟨u,hu,hr⟩:=h.2 _ c hj'
 refine ⟨u,?_,hr⟩
 have hm:j % z.size<z.size:=Nat.mod_lt _ hpos
 have hz:z[j % z.size]=u:=by
  rw [Array.getElem?_toList,Array.getElem?_eq_getElem hm] at hu
  injection hu
 simp [hlt,hm,hz]
theorem rowT_ok {t e:TypeId} {size:Nat} {zc:List CV} (h:rowT P t=some (e,size,zc)) :
  ∃i z,P.underlying t=some (.slice e)∧P.info? e=some i∧i.size=size∧0<size∧(zeroValue e).run P w=.ok z w∧(∀S,RepL w S zc z.cells.toList)∧zc.length=size:=by
 unfold rowT at h
 split at h
 ·rename_i e' size' hT
  split at h
  ·rename_i z hz
   split at h
   ·rename_i hzl
    injection h with h
    simp only [Prod.mk.injEq] at h
    obtain ⟨rfl,rfl,rfl⟩:=h
    obtain ⟨i,hu,hi,hs,hp⟩:=sliceT_ok hT
    obtain ⟨zv,hrun,_⟩:=zeroOf_ok (P:=P) (w:=w) hz (fun _=>True)
    refine ⟨i,zv,hu,hi,hs,hp,hrun,fun S=>?_,hzl⟩
    obtain ⟨zv',hrun',hrep⟩:=zeroOf_ok (P:=P) (w:=w) hz S
    rw [hrun] at hrun'
    injection hrun' with e1
    subst e1
    exact hrep
   ·cases h
  ·cases h
 ·cases h
theorem abuildSlice_ok {f:Operand→Prop×AV} {t:TypeId} {len d:Nat} {parts:Array (Nat×Operand)} (hR:Rel S0 w0 n s a w) (hf:∀x∈parts.toList,Knows S0 w0 s a w (f x.2) (a.eval x.2)) (hd:S0.m≤d∧d<n) (hp:(abuildSlice P f t len parts.toList).1) :
  ∃v w',(Instr.buildSlice t len (parts.map fun (i,x)=>(i,a.eval x))).run P w=.ok v w'∧Rel S0 w0 n (Ab.put s d (abuildSlice P f t len parts.toList).2) (a.put (some d) v) w':=by
 unfold abuildSlice at hp ⊢
 split at hp
 ·rename_i e size zc hT
  obtain ⟨hlim,hp⟩:=hp
  obtain ⟨i,z,hu,hi,hs,hpos,hz,hzr,hzl⟩:=rowT_ok (w:=w) hT
  have hzsz:z.cells.size=size:=by have:=(hzr (fun _=>True)).1;rw [hzl] at this;simpa using this
  have hrep:=zeros_rep (hzr (Shared S0 w0.heap.size w s (tmOf a))) len
  rw [hzsz] at hrep
  have hx:∀x∈List.replicate len zc,x.length=size:=fun x hx=>by rw [List.eq_of_mem_replicate hx,hzl]
  obtain ⟨hl,hxs,arr',hf,hr⟩:=fillX_ok size parts.toList _ _ hf hx hrep hp
  have hlen:(fillX size (List.replicate len zc) (parts.toList.map fun x=>(x.1,f x.2))).2.length=len:=by rw [hl];simp
  have hfill:Instr.fill (fun i=>some (i*size,size)) ((Array.range (len*size)).map (z.cells[· % size]!)) (parts.map fun (i,x)=>(i,a.eval x)).toList=some arr':=by
   rw [←hf];congr 1;simp
  have harr:arr'.size=len*size:=by
   have:=hr.1
   rw [flatten_length hxs,hlen] at this
   simpa using this
  have hcap:len≤maxLen:=by
   have:len*1≤len*size:=Nat.mul_le_mul_left _ hpos
   simp only [maxLen];omega
  refine ⟨.slice (some ⟨w.heap.size,0,none⟩) len len,w.alloc (.cells arr' e),?_,?_⟩
  ·have hlim':¬len*size > 2 ^ 24:=by omega
   have hfin:∀c:Array Value,c=((Array.range (len*size)).map (z.cells[· % size]!))→(Instr.fill (fun i=>some (i*size,size)) c (parts.map fun (i,x)=>(i,a.eval x)).toList)=some arr':=fun c hc=>by rw [hc];exact hfill
   by_cases h0:len*size=0
   ·have h1:=hfin #[] (by rw [h0];simp)
    have hr0:∀f:Nat→Value,Array.map f (Array.range 0)=#[]:=fun f=>by simp
    simp only [Instr.buildSlice,Sem.run_bind,run_underlying hu,Result.andThen_ok,run_sizeOf hi,hs]
    rw [h0]
    simp only [show ¬((0:Nat) > 2 ^ 24) by omega,if_false,if_true,Sem.run_pure,Result.andThen_ok,hr0,h1,Sem.run_bind]
    rfl
   ·have h1:=hfin _ rfl
    simp only [Instr.buildSlice,Sem.run_bind,run_underlying hu,Result.andThen_ok,run_sizeOf hi,hs,if_neg hlim',if_neg h0,hz,Sem.run_pure,hzsz,h1]
    rfl
  ·refine hR.newOwn hd (World.grownBy_alloc w _ none) (us:=arr'.toList) ⟨by simp [harr,hlen],.inr ⟨w.heap.size,len,arr',by rw [hlen],Nat.zero_le _,⟨_,heap_alloc_new w _,.inl rfl⟩,by omega,hcap,harr,?_⟩⟩ hr hxs (by rw [hlen];exact hcap) ?_
   ·rw [hlen,List.take_of_length_le (by simp [harr])]
   ·intro b hb
    have:w.heap.size=b:=by simpa [Value.ownBlock] using hb
    omega
 ·exact hp.elim
end
end Go.Ab
namespace Go.Ab
open Go Go.RowKit
variable [Amb]
inductive RV where
 | x (v:XV)
 | tup (vs:List XV)
 | own (e size:Nat) (xs:List (List CV))
def RV.av:RV→AV
 | .x v=>.x v
 | .tup vs=>.tup vs
 | .own e size xs=>.own e size xs
def RV.blk:RV→Value→Option Nat
 | .own _ _ _,v=>v.ownBlock
 | _,_=>none
def RepR (w:World) (S:Nat→Prop):RV→Value→Prop
 | .x xv,v=>RepX w S xv v
 | .tup vs,v=>∃us:Array Value,v=.tuple us∧us.size=vs.length∧∀(j:Nat) (x:XV),vs[j]?=some x→∃u,us[j]?=some u∧RepX w S x u
 | .own e size xs,v=>∃us:List Value,w.ownsT 0 e size v xs.length us∧RepL w (fun b=>S b∧v.ownBlock≠some b) xs.flatten us∧(∀x∈xs,x.length=size)∧xs.length≤maxLen∧∀b,v.ownBlock=some b→S b
theorem RepR.mono {w w':World} {S S':Nat→Prop} {r:RV} {v:Value} (h:RepR w S r v) (hS:∀b,S b→S' b)
  (hb:∀b,S b→w'.heap[b]?=w.heap[b]?):RepR w' S' r v:=by
 cases r with
 | x xv=>exact RepX.mono h hS hb
 | tup vs =>
  obtain ⟨us,hv,hl,hx⟩:=h
  exact ⟨us,hv,hl,fun j x hj=>let ⟨u,hu,hr⟩:=hx j x hj;⟨u,hu,hr.mono hS hb⟩⟩
 | own e size xs =>
  obtain ⟨us,hown,hl,hx,hm,hB⟩:=h
  refine ⟨us,⟨hown.1,?_⟩,hl.mono (fun b hb'=>⟨hS b hb'.1,hb'.2⟩) (fun b hb'=>hb b hb'.1),hx,hm,fun b hb'=>hS b (hB b hb')⟩
  rcases hown.2 with hn | ⟨g,cap,cur,rfl,hbg,hh,rest⟩
  ·exact .inl hn
  ·exact .inr ⟨g,cap,cur,rfl,hbg,by rw [hb g (hB g rfl)];exact hh,rest⟩
def RepArgs (w:World) (S:Nat→Prop) (args:List XV) (vs:Array Value):Prop:=
 vs.size=args.length∧∀(j:Nat) (x:XV),args[j]?=some x→∃u,vs[j]?=some u∧RepX w S x u
def Callable (P : Program) (f : FuncId) : Prop := ∃ fn, P.funcs[f]? = some fn ∧ (fn.name == "runtime.NumGoroutine") = false ∧ fn.body.isNone = false
def ACalls (P:Program) (f:FuncId) (args:List XV) (r:RV):Prop:=
 Callable P f∧∀(w:World) (S:Nat→Prop) (vs:Array Value),Base ⟨S,fun _=>False,0,fun _=>undef⟩ w→RepArgs w S args vs →
  Calls P f vs w fun e w'=>∃v,e=.returned v∧Below w.heap.size w w'∧RepR w' (fun b=>S b∨(w.heap.size≤b∧b<w'.heap.size)) r v∧∀b,r.blk v=some b→w.heap.size≤b
def CV.flat:CV→Bool
 | .list _ _=>false
 | .nil=>false
 | .empty _=>false
 | .clo _ _=>false
 | .ref _=>false
 | _=>true
def XV.flat:XV→Bool
 | .one c=>c.flat
 | .agg cs=>cs.all CV.flat
def RV.flat:RV→Bool
 | .x v=>v.flat
 | .tup vs=>vs.all XV.flat
 | .own _ _ _=>false
theorem RepC.flat {w w':World} {S S':Nat→Prop} {c:CV} {v:Value} (h:RepC w S c v) (hf:c.flat=true):RepC w' S' c v:=by
 cases h with
 | bool b=>exact .bool b
 | int k n=>exact .int k n
 | str l h=>exact .str l h
 | atom v h=>exact .atom v h
 | any v h=>exact .any v h
 | _=>cases hf
theorem RepX.flat {w w':World} {S S':Nat→Prop} {x:XV} {v:Value} (h:RepX w S x v) (hf:x.flat=true):RepX w' S' x v:=by
 cases x with
 | one c=>exact RepC.flat h hf
 | agg cs =>
  obtain ⟨us,hv,hl,hx⟩:=h
  exact ⟨us,hv,hl,fun j c hj=>let ⟨u,hu,hr⟩:=hx j c hj;⟨u,hu,hr.flat (List.all_eq_true.1 hf c (List.mem_of_getElem? hj))⟩⟩
theorem RepR.flat {w w':World} {S S':Nat→Prop} {r:RV} {v:Value} (h:RepR w S r v) (hf:r.flat=true):RepR w' S' r v:=by
 cases r with
 | x xv=>exact RepX.flat h hf
 | tup vs =>
  obtain ⟨us,hv,hl,hx⟩:=h
  exact ⟨us,hv,hl,fun j x hj=>let ⟨u,hu,hr⟩:=hx j x hj;⟨u,hu,hr.flat (List.all_eq_true.1 hf x (List.mem_of_getElem? hj))⟩⟩
 | own e size xs=>cases hf
def argXs (s:St):List Operand→Prop×Option (List XV)
 | []=>(True,some [])
 | x::r=>match argX s x,argXs s r with
  | (p,some v),(q,some vs)=>(p∧q,some (v::vs))
  | _,_=>(False,none)
def fnOf:AV→Option (FuncId×List XV)
 | .x (.one (.atom (.func (.func f) ⟨[]⟩ ⟨[]⟩)))=>some (f,[])
 | .x (.one (.clo f caps))=>some (f,caps.map .one)
 | _=>none
def callee (s:St) (f:Operand) (args:List Operand):Prop×Option (FuncId×List XV):=
 match sv s f,argXs s args with
 | (p,a),(q,some xs)=>match fnOf a with
  | some (g,caps)=>(p∧q,some (g,xs++caps))
  | none=>(False,none)
 | _,_=>(False,none)
def argRs (s:St):List Operand→Prop×Option (List XV)
 | []=>(True,some [])
 | x::r=>match argR s x,argRs s r with
  | (p,some v),(q,some vs)=>(p∧q,some (v::vs))
  | _,_=>(False,none)
def calleeR (s:St) (f:Operand) (args:List Operand):Prop×Option (FuncId×List XV):=
 match args.any (linkedB s) with
 | true=>match sv s f,argRs s args with
  | (p,a),(q,some xs)=>match fnOf a with
   | some (g,caps)=>(p∧q,some (g,xs++caps))
   | none=>(False,none)
  | _,_=>(False,none)
 | false=>(False,none)
def callR (P:Program) (c:Prop×Option (FuncId×List XV)) (k:RV→Prop) (m:Prop):Prop:=
 match c with
 | (p,some (g,xs))=>p∧((∃r,ACalls P g xs r∧r.flat=true∧k r)∨m)
 | _=>m
def acall (P:Program) (s:St) (f:Operand) (args:List Operand) (r:RV):Prop:=
 match callee s f args with
 | (p,some (g,xs))=>p∧ACalls P g xs r
 | _=>False
def ACallG (P:Program) (e:Bool) (g:FuncId) (xs:List XV) (k:RV→Prop):Prop:=∃r,(e=true→ACalls P g xs r)∧r.flat=true∧k r
def callG (P:Program) (e:Bool) (c:Prop×Option (FuncId×List XV)) (k:RV→Prop):Prop:=
 match c with
 | (p,some (g,xs))=>(e=true→p)∧ACallG P e g xs k
 | _=>False
theorem callG_of {P:Program} {s:St} {e:Bool} {f:Operand} {args:List Operand} {k:RV→Prop} (h:callG P e (callee s f args) k):∃r,(e=true→acall P s f args r)∧r.flat=true∧k r:=by
 unfold callG ACallG at h
 unfold acall
 split at h
 ·obtain ⟨hp,r,hc,hf,hk⟩:=h
  exact ⟨r,fun he=>⟨hp he,hc he⟩,hf,hk⟩
 ·exact h.elim
theorem callG_exact {P:Program} {e:Bool} {c:Prop×Option (FuncId×List XV)} {k:RV→Prop} (h:callG P e c k):∃r,(∀k':RV→Prop,k' r→callG P e c k')∧k r:=by
 unfold callG ACallG at h ⊢
 split at h
 ·obtain ⟨hp,r,hc,hf,hk⟩:=h
  exact ⟨r,fun k' hk'=>⟨hp,r,hc,hf,hk'⟩,hk⟩
 ·exact h.elim
section
variable {P:Program} {S0:Env} {w0 w:World} {n:Nat} {s:St} {a:Act}
theorem argXs_ok (hR:Rel S0 w0 n s a w):∀{args:List Operand} {p:Prop} {xs:List XV},argXs s args=(p,some xs)→p→RepArgs w (Lent S0 w0.heap.size w) xs (args.map a.eval).toArray:=by
 intro args
 induction args with
 | nil =>
  intro p xs h _
  simp only [argXs,Prod.mk.injEq,Option.some.injEq] at h
  obtain ⟨_,rfl⟩:=h
  exact ⟨rfl,fun j x hj=>by simp at hj⟩
 | cons x r ih =>
  intro p xs h hp
  simp only [argXs] at h
  split at h
  ·rename_i q v q' vs e1 e2
   simp only [Prod.mk.injEq,Option.some.injEq] at h
   obtain ⟨rfl,rfl⟩:=h
   have h1:=argX_ok hR e1 hp.1
   obtain ⟨h2,h3⟩:=ih e2 hp.2
   refine ⟨by simpa using h2,fun j x' hj=>?_⟩
   cases j with
   | zero=>simp at hj;subst hj;exact ⟨_,rfl,h1⟩
   | succ j =>
    simp only [List.getElem?_cons_succ] at hj
    obtain ⟨u,hu,hr⟩:=h3 j x' hj
    exact ⟨u,by simpa using hu,hr⟩
  ·simp at h
theorem argXs_frozen (hR:Rel S0 w0 n s a w) (l:List Nat):∀{args:List Operand} {p:Prop} {xs:List XV},argXs s args=(p,some xs)→p→(∀i∈lends s args,i∈l) →
  RepArgs w (Shared S0 w0.heap.size w (freezeL s l) (tmOf a)) xs (args.map a.eval).toArray:=by
 intro args
 induction args with
 | nil =>
  intro p xs h _ _
  simp only [argXs,Prod.mk.injEq,Option.some.injEq] at h
  obtain ⟨_,rfl⟩:=h
  exact ⟨rfl,fun j x hj=>by simp at hj⟩
 | cons x r ih =>
  intro p xs h hp hl
  simp only [argXs] at h
  split at h
  ·rename_i q v q' vs e1 e2
   simp only [Prod.mk.injEq,Option.some.injEq] at h
   obtain ⟨rfl,rfl⟩:=h
   have h1:=argX_frozen hR e1 hp.1 l (fun i hi=>hl i (lends_mem List.mem_cons_self hi))
   obtain ⟨h2,h3⟩:=ih e2 hp.2 (fun i hi=>hl i (by
    simp only [lends,List.mem_append]
    exact .inr hi))
   refine ⟨by simpa using h2,fun j x' hj=>?_⟩
   cases j with
   | zero=>simp at hj;subst hj;exact ⟨_,rfl,h1⟩
   | succ j =>
    simp only [List.getElem?_cons_succ] at hj
    obtain ⟨u,hu,hr⟩:=h3 j x' hj
    exact ⟨u,by simpa using hu,hr⟩
  ·simp at h
def afterCall (s:St) (args:List Operand) (r:RV):St:=
 match r.flat with
 | true=>s
 | false=>freezeL s (lends s args)
theorem grownBy_of_below {w w':World} (h:Below w.heap.size w w'):w.grownBy w' none:=⟨h.os,h.tape,h.output,h.size,fun k hk _=>h.block k hk⟩
theorem RepArgs.append {S:Nat→Prop} {xs ys:List XV} {us vs:Array Value} (h1:RepArgs w S xs us) (h2:RepArgs w S ys vs):RepArgs w S (xs++ys) (us++vs):=by
 refine ⟨by simp [h1.1,h2.1],fun j x hj=>?_⟩
 by_cases hlt:j<xs.length
 ·rw [List.getElem?_append_left hlt] at hj
  rw [Array.getElem?_append_left (by rw [h1.1];exact hlt)]
  exact h1.2 j x hj
 ·rw [List.getElem?_append_right (by omega)] at hj
  rw [Array.getElem?_append_right (by rw [h1.1];omega),h1.1]
  exact h2.2 _ x hj
theorem fnOf_ok {S:Nat→Prop} {B:Nat→Prop} {tm:Nat→Value} {v:AV} {u:Value} {g:FuncId} {caps:List XV} (h:RepAV w S B s tm v u) (hf:fnOf v=some (g,caps)) :
  ∃us:Array Value,u=.func (.func g) #[] us∧RepArgs w S caps us:=by
 unfold fnOf at hf
 split at hf
 ·injection hf with hf
  injection hf with hf1 hf2
  subst hf1;subst hf2
  cases h
  exact ⟨#[],rfl,rfl,fun j x hj=>by simp at hj⟩
 ·rename_i f' cs
  injection hf with hf
  injection hf with hf1 hf2
  subst hf1;subst hf2
  cases h with
  | clo _ _ U hU =>
   refine ⟨_,rfl,by simp,fun j x hj=>?_⟩
   rw [List.getElem?_map] at hj
   cases hc:cs[j]? with
   | none=>rw [hc] at hj;cases hj
   | some c =>
    rw [hc] at hj
    injection hj with hj
    subst hj
    have hlt:=(List.getElem?_eq_some_iff.1 hc).1
    exact ⟨U j,by simp [List.getElem?_range hlt],hU j c hc⟩
 ·cases hf
theorem RepArgs.mono {S S':Nat→Prop} {xs:List XV} {us:Array Value} (h:RepArgs w S xs us) (hS:∀b,S b→S' b):RepArgs w S' xs us:=
 ⟨h.1,fun j x hj=>let ⟨u,hu,hr⟩:=h.2 j x hj;⟨u,hu,RepX.mono hr hS (fun _ _=>rfl)⟩⟩
theorem Rel.back {d:Nat} {r:RV} {v:Value} {w':World} {S:Nat→Prop} (hR:Rel S0 w0 n s a w) (hd:S0.m≤d∧d<n) (hb:Below w.heap.size w w')
  (hr:RepR w' S r v) (hS:∀b,S b→(Shared S0 w0.heap.size w s (tmOf a) b∨(w.heap.size≤b∧b<w'.heap.size))) (hf:∀b,r.blk v=some b→w.heap.size≤b):Rel S0 w0 n (Ab.put s d r.av) (a.put (some d) v) w':=by
 have hsh:∀b,(Shared S0 w0.heap.size w s (tmOf a) b∨(w.heap.size≤b∧b<w'.heap.size))→Shared S0 w0.heap.size w' s (tmOf a) b:=by
  intro b hbb
  rcases hbb with h | ⟨h1,h2⟩
  ·exact ⟨h.1,Nat.lt_of_lt_of_le h.2.1 hb.size,h.2.2⟩
  ·refine ⟨.inr (.inl (Nat.le_trans hR.below.size h1)),h2,fun k hk=>?_⟩
   have:=((hR.rep k).blk_lt hk).2
   omega
 cases r with
 | x xv=>exact hR.put hd (grownBy_of_below hb) (fun j h=>by cases h) (RepX.mono hr (fun b h=>hsh b (hS b h)) (fun _ _=>rfl)) (fun b h=>by cases h) (fun b h=>by cases h)
 | tup vs =>
  obtain ⟨us,hv,hl,hx⟩:=hr
  exact hR.put hd (grownBy_of_below hb) (fun j h=>by cases h) ⟨us,hv,hl,fun j x hj=>let ⟨u,hu,hr⟩:=hx j x hj;⟨u,hu,RepX.mono hr (fun b h=>hsh b (hS b h)) (fun _ _=>rfl)⟩⟩ (fun b h=>by cases h) (fun b h=>by cases h)
 | own e size xs =>
  obtain ⟨us,hown,hl,hx,hm,hB⟩:=hr
  have hfr:∀b,v.ownBlock=some b→OwnB S0 w0.heap.size b:=fun b h=>.inl (Nat.le_trans hR.below.size (hf b h))
  refine hR.put hd (grownBy_of_below hb) (fun j h=>by cases h) ⟨us,hown,hl.mono (fun b h=>hsh b (hS b h.1)) (fun _ _=>rfl),hx,hm,hfr⟩ hf (fun b hbb=>?_)
  have hvb:v.ownBlock=some b:=hbb
  exact ⟨us,hown,hl.mono (fun c h=>⟨hsh c (hS c h.1),fun e=>h.2 (by rw [hvb,e])⟩) (fun _ _=>rfl),hx,hm,hfr⟩
theorem acall_ok (hR:Rel S0 w0 n s a w) {f:Operand} {args:Array Operand} {r:RV} (hc:acall P s f args.toList r)
  {o:Oper} (ho:∃ts,o.op=.call { callee:=.value f,args:=args,argTypes:=ts }) {d:Nat} (hd:S0.m≤d∧d<n) (hdst:o.dst=some d) {K:Act→World→Prop} {Q:Exit→Act→World→Prop}
  (hK:∀a' w',Rel S0 w0 n (Ab.put (afterCall s args.toList r) d r.av) a' w'→K a' w'):o.wp P a w K Q:=by
 obtain ⟨ts,hop⟩:=ho
 unfold acall at hc
 split at hc
 ·rename_i pp g xs0 e0
  obtain ⟨hpp,⟨fn,hfn,hname,hbody⟩,hcalls⟩:=hc
  obtain ⟨caps,xs,p,q,fv,ef,e2,e1,rfl,rfl⟩:∃caps xs p q fv,sv s f=(p,fv)∧argXs s args.toList=(q,some xs)∧fnOf fv=some (g,caps)∧pp=(p∧q)∧xs0=xs++caps:=by
   unfold callee at e0
   split at e0
   ·rename_i p fv q xs ef e2
    split at e0
    ·rename_i g' caps e1
     simp only [Prod.mk.injEq,Option.some.injEq] at e0
     obtain ⟨rfl,rfl,rfl⟩:=e0
     exact ⟨caps,xs,p,q,fv,ef,e2,e1,rfl,rfl⟩
    ·simp at e0
   ·simp at e0
  obtain ⟨hpf,hp⟩:=hpp
  have hsvf:=hR.sv f (by rw [ef];exact hpf)
  rw [ef] at hsvf
  obtain ⟨us,hfv,hcap⟩:=fnOf_ok hsvf e1
  have hm:args.map a.eval=(args.toList.map a.eval).toArray:=by apply Array.ext';simp
  have hrun:(execOp a.eval o).run P w=.ok (.enter g (args.map a.eval++us)) w:=by
   simp only [execOp,hop,resolve,hfv,Deferred.ofValue,Sem.run_bind,Sem.run_pure,Result.andThen_ok,invoke,callFunc,run_program,hfn,hname,hbody,Bool.false_eq_true,if_false]
   simp
  unfold Oper.wp
  rw [hrun]
  simp only [Oper.upon]
  rw [hm,hdst]
  have hamb:=hR.lt.amb' hR.below
  cases hfl:r.flat with
  | true =>
   have hac:afterCall s args.toList r=s:=by unfold afterCall;rw [hfl]
   rw [hac] at hK
   refine (hcalls w (Lent S0 w0.heap.size w) _ ⟨fun b hb=>hb.2,fun b hb=>hb.elim,fun b _ hb=>hb.elim,hamb,fun b _ hb=>hb.elim⟩ ((argXs_ok hR e2 hp).append (hcap.mono (fun b hb=>⟨hb.1,hb.2.1⟩)))).mono ?_
   rintro e w' ⟨v,rfl,hb,hr,hfr⟩
   exact hK _ w' (hR.back hd hb (hr.flat (S':=fun _=>False) hfl) (fun b hb=>hb.elim) hfr)
  | false =>
   have hac:afterCall s args.toList r=freezeL s (lends s args.toList):=by unfold afterCall;rw [hfl]
   rw [hac] at hK
   have hR':=freezeL_ok (lends s args.toList) s hR
   refine (hcalls w (Shared S0 w0.heap.size w (freezeL s (lends s args.toList)) (tmOf a)) _ ⟨fun b hb=>hb.2.1,fun b hb=>hb.elim,fun b _ hb=>hb.elim,hamb,fun b _ hb=>hb.elim⟩ ((argXs_frozen hR _ e2 hp (fun i hi=>hi)).append (hcap.mono (fun b hb=>⟨hb.1,hb.2.1,fun k hk=>by
    have ho:(freezeL s (lends s args.toList) k).isOwner=true:=by
     cases ho:(freezeL s (lends s args.toList) k).isOwner with
     | true=>rfl
     | false=>rw [blkOf_notOwner ho] at hk;cases hk
    rw [freezeL_owner _ s k ho] at hk
    exact hb.2.2 k hk⟩)))).mono ?_
   rintro e w' ⟨v,rfl,hb,hr,hfr⟩
   exact hK _ w' (hR'.back hd hb hr (fun b h=>h) hfr)
 ·exact hc.elim
theorem argRs_ok (hR:Rel S0 w0 n s a w):∀{args:List Operand} {p:Prop} {xs:List XV},argRs s args=(p,some xs)→p →
  RepArgs w (Lent S0 w0.heap.size w) xs (args.map a.eval).toArray:=by
 intro args
 induction args with
 | nil =>
  intro p xs h _
  simp only [argRs,Prod.mk.injEq,Option.some.injEq] at h
  obtain ⟨_,rfl⟩:=h
  exact ⟨rfl,fun j x hj=>by simp at hj⟩
 | cons x r ih =>
  intro p xs h hp
  simp only [argRs] at h
  split at h
  ·rename_i q v q' vs e1 e2
   simp only [Prod.mk.injEq,Option.some.injEq] at h
   obtain ⟨rfl,rfl⟩:=h
   have h1:=argR_ok hR e1 hp.1
   obtain ⟨h2,h3⟩:=ih e2 hp.2
   refine ⟨by simpa using h2,fun j y hj=>?_⟩
   cases j with
   | zero=>simp at hj;subst hj;exact ⟨a.eval x,by simp,h1⟩
   | succ j =>
    simp only [List.getElem?_cons_succ] at hj
    obtain ⟨u,hu,hr⟩:=h3 j y hj
    exact ⟨u,by simpa using hu,hr⟩
  ·simp at h
theorem callR_ok (hR:Rel S0 w0 n s a w) {f:Operand} {args:Array Operand} {d:Nat} {kr:RV→Prop} {m:Prop} (hc:callR P (calleeR s f args.toList) kr m)
  {o:Oper} (ho:∃ts,o.op=.call { callee:=.value f,args:=args,argTypes:=ts }) (hd:S0.m≤d) (hdst:o.dst=some d) {K:Act→World→Prop} {Q:Exit→Act→World→Prop}
  (hK:∀r,kr r→d<n∧∀a' w',Rel S0 w0 n (Ab.put s d r.av) a' w'→K a' w') (hm:m→o.wp P a w K Q):o.wp P a w K Q:=by
 obtain ⟨ts,hop⟩:=ho
 unfold callR at hc
 split at hc
 ·rename_i pp g xs0 e0
  obtain ⟨hpp,⟨r,⟨⟨fn,hfn,hname,hbody⟩,hcalls⟩,hfl,hk⟩ | hcm⟩:=hc
  rotate_left
  ·exact hm hcm
  obtain ⟨hdn,hK⟩:=hK r hk
  obtain ⟨caps,xs,p,q,fv,ef,e2,e1,rfl,rfl⟩:∃caps xs p q fv,sv s f=(p,fv)∧argRs s args.toList=(q,some xs)∧fnOf fv=some (g,caps)∧pp=(p∧q)∧xs0=xs++caps:=by
   unfold calleeR at e0
   split at e0
   ·split at e0
    ·rename_i p fv q xs ef e2
     split at e0
     ·rename_i g' caps e1
      simp only [Prod.mk.injEq,Option.some.injEq] at e0
      obtain ⟨rfl,rfl,rfl⟩:=e0
      exact ⟨caps,xs,p,q,fv,ef,e2,e1,rfl,rfl⟩
     ·simp at e0
    ·simp at e0
   ·simp at e0
  obtain ⟨hpf,hp⟩:=hpp
  have hsvf:=hR.sv f (by rw [ef];exact hpf)
  rw [ef] at hsvf
  obtain ⟨us,hfv,hcap⟩:=fnOf_ok hsvf e1
  have hm:args.map a.eval=(args.toList.map a.eval).toArray:=by apply Array.ext';simp
  have hrun:(execOp a.eval o).run P w=.ok (.enter g (args.map a.eval++us)) w:=by
   simp only [execOp,hop,resolve,hfv,Deferred.ofValue,Sem.run_bind,Sem.run_pure,Result.andThen_ok,invoke,callFunc,run_program,hfn,hname,hbody,Bool.false_eq_true,if_false]
   simp
  unfold Oper.wp
  rw [hrun]
  simp only [Oper.upon]
  rw [hm,hdst]
  have hamb:=hR.lt.amb' hR.below
  refine (hcalls w (Lent S0 w0.heap.size w) _ ⟨fun b hb=>hb.2,fun b hb=>hb.elim,fun b _ hb=>hb.elim,hamb,fun b _ hb=>hb.elim⟩ ((argRs_ok hR e2 hp).append (hcap.mono (fun b hb=>⟨hb.1,hb.2.1⟩)))).mono ?_
  rintro e w' ⟨v,rfl,hb,hr,hfr⟩
  exact hK _ w' (hR.back ⟨hd,hdn⟩ hb (hr.flat (S':=fun _=>False) hfl) (fun b hb=>hb.elim) hfr)
 ·exact hm hc
end
end Go.Ab
namespace Go.Ab
open Go Go.RowKit
variable [Amb]
def AV.bare:AV→Bool
 | .x _=>true
 | .box _=>true
 | .own _ _ _=>true
 | .mp _ _ _=>true
 | .gbox _ _=>true
 | .gown _ _ _ _=>true
 | .dead=>true
 | _=>false
theorem AV.bare_refs {a:AV} (h:a.bare=true) (j:Nat):a.refs j=false:=by
 cases a<;>first | rfl | (simp [AV.bare] at h)
theorem RepAV.bare {w:World} {S S' O O':Nat→Prop} {s s':St} {tm tm':Nat→Value} {a:AV} {v:Value} (h:RepAV w S O s tm a v) (hb:a.bare=true) (hS:∀b,S b→S' b) (hO:∀b,blkOf a v=some b→O b→O' b):RepAV w S' O' s' tm' a v:=by
 cases a with
 | dead=>trivial
 | x xv=>exact RepX.mono h hS (fun _ _=>rfl)
 | box cs =>
  obtain ⟨b,arr,t,rfl,hh,hl,hB⟩:=h
  exact ⟨b,arr,t,rfl,hh,hl.mono hS (fun _ _=>rfl),hO b rfl hB⟩
 | own e size xs =>
  obtain ⟨us,hown,hl,hx,hm,hB⟩:=h
  exact ⟨us,hown,hl.mono hS (fun _ _=>rfl),hx,hm,fun b hb=>hO b hb (hB b hb)⟩
 | mp c bs es =>
  obtain ⟨b,ents,rfl,hh,hB,he⟩:=h
  exact ⟨b,ents,rfl,hh,hO b rfl hB,he.mono hS (fun _ _=>rfl)⟩
 | gbox b cs =>
  obtain ⟨arr,t,hh,hl,hB⟩:=h
  exact ⟨arr,t,hh,hl.mono hS (fun _ _=>rfl),hO b rfl hB⟩
 | gown g e size xs =>
  obtain ⟨us,hown,hl,hx,hm,hB⟩:=h
  exact ⟨us,hown,hl.mono hS (fun _ _=>rfl),hx,hm,fun b hb=>hO b hb (hB b hb)⟩
 | _=>simp [AV.bare] at hb
abbrev deadSt:St:=fun _=>.dead
abbrev noTm:Nat→Value:=fun _=>undef
def argSt (args:List AV):St:=fun i=>(args[i]?).getD .dead
def tmV (vs:Array Value):Nat→Value:=fun j=>(vs[j]?).getD undef
theorem tmV_some {vs:Array Value} {j:Nat} {u:Value} (h:vs[j]?=some u):tmV vs j=u:=by unfold tmV;rw [h];rfl
def argOk (args:List AV):AV→Bool
 | .ptr2 i _=>(argSt args i).isOwner
 | .cloR _ caps=>caps.all fun c=>match c with
  | .inl _=>true
  | .inr p=>(argSt args p.1).isOwner
 | a=>a.bare
theorem argOk_bare {args:List AV} {a:AV} (h:a.bare=true):argOk args a=true:=by
 cases a<;>first | exact h | (simp [AV.bare] at h)
theorem argOk_refs {args:List AV} {a:AV} (h:argOk args a=true) {j:Nat} (hr:a.refs j=true):(argSt args j).isOwner=true:=by
 cases a<;>first | (simp [AV.refs] at hr;done) | (simp [argOk,AV.bare] at h;done) | skip
 ·rename_i f caps
  simp only [AV.refs] at hr
  obtain ⟨c,hc,hd⟩:=List.any_eq_true.1 hr
  simp only [argOk] at h
  have:=List.all_eq_true.1 h c hc
  cases c with
  | inl c=>cases hd
  | inr p =>
   obtain rfl:p.1=j:=by simpa [capRef] using hd
   exact this
 ·rename_i i off
  obtain rfl:i=j:=by simpa [AV.refs] using hr
  exact h
theorem CapRep.mono' {w:World} {S S':Nat→Prop} {s:St} {tm:Nat→Value} {c:CV ⊕ (Nat×Nat)} {u:Value} (h:CapRep w S s tm c u) (hS:∀b,S b→S' b):CapRep w S' s tm c u:=by
 cases c with
 | inl c=>exact RepC.mono h hS (fun _ _=>rfl)
 | inr p =>
  rw [capRep_inr] at h ⊢
  split at h
  ·rename_i hi;rw [if_pos hi];exact h
  ·rename_i hi;rw [if_neg hi];exact h.mono hS (fun _ _=>rfl) (fun _ h=>h)
theorem RepAV.argOk {w:World} {S S' O O':Nat→Prop} {s:St} {tm:Nat→Value} {args:List AV} {a:AV} {v:Value} (h:RepAV w S O s tm a v) (ha:Ab.argOk args a=true) (hS:∀b,S b→S' b) (hO:∀b,blkOf a v=some b→O b→O' b):RepAV w S' O' s tm a v:=by
 cases hb:a.bare with
 | true=>exact h.bare hb hS hO
 | false =>
  cases a<;>first | (simp [AV.bare] at hb;done) | (simp [Ab.argOk,AV.bare] at ha;done) | skip
  ·obtain ⟨us,hv,hl,hc⟩:=h
   exact ⟨us,hv,hl,fun j c hj=>let ⟨u,hu,hr⟩:=hc j c hj;⟨u,hu,hr.mono' hS⟩⟩
  ·exact Ind.mono h hS (fun _ _=>rfl) (fun _ h=>h)
structure RepMs (w:World) (E:Env) (args:List AV) (vs:Array Value):Prop where
 size:vs.size≤args.length
 rep:∀(j:Nat) (a:AV),args[j]?=some a→argOk args a=true∧RepAV w E.rd E.lent (argSt args) (tmV vs) a (tmV vs j)
 inj:∀(i j:Nat) (x y:AV) (b:Nat),args[i]?=some x→blkOf x (tmV vs i)=some b→args[j]?=some y→blkOf y (tmV vs j)=some b→i=j
 all:∀b,E.lent b→∃(j:Nat) (x:AV),args[j]?=some x∧blkOf x (tmV vs j)=some b
def Owned (outs:List AV) (vs:Array Value) (b:Nat):Prop:=∃(j:Nat) (o:AV),outs[j]?=some o∧blkOf o (tmV vs j)=some b
def After (w w':World) (E:Env) (outs:List AV) (vs:Array Value):Nat→Prop:=
 fun b=>(E.rd b∨E.lent b∨(w.heap.size≤b∧b<w'.heap.size))∧¬Owned outs vs b
def outFits:AV→AV→Bool
 | .x _,.dead=>true
 | .box _,.box _=>true
 | .box _,.dead=>true
 | .own _ _ _,.own _ _ _=>true
 | .own _ _ _,.x _=>true
 | .own _ _ _,.dead=>true
 | .mp _ _ _,.mp _ _ _=>true
 | .mp _ _ _,.dead=>true
 | .gbox b _,.gbox b' _=>b==b'
 | .gbox _ _,.dead=>true
 | .cloR _ _,.dead=>true
 | .ptr2 _ _,.dead=>true
 | _,_=>false
def outsFit:List AV→List AV→Bool
 | [],[]=>true
 | a::r,o::q=>outFits a o&&outsFit r q
 | _,_=>false
def outFitsG:AV→AV→Bool
 | .own _ _ _,.gown _ _ _ _=>true
 | .gown _ _ _ _,.gown _ _ _ _=>true
 | a,o=>outFits a o
theorem outFitsG_of {a o:AV} (h:outFits a o=true):outFitsG a o=true:=by
 cases a<;>cases o<;>first | rfl | exact h
theorem outsFit_at:∀{args outs:List AV},outsFit args outs=true→args.length=outs.length∧∀(j:Nat) (a o:AV),args[j]?=some a→outs[j]?=some o→outFits a o=true
 | [],[],_=>⟨rfl,fun j a o h=>by simp at h⟩
 | a::r,o::q,h=>by
  simp only [outsFit,Bool.and_eq_true] at h
  obtain ⟨h1,h2⟩:=outsFit_at h.2
  refine ⟨by simp [h1],fun j a' o' ha ho=>?_⟩
  cases j with
  | zero=>simp at ha ho;subst ha;subst ho;exact h.1
  | succ j=>simp at ha ho;exact h2 j a' o' ha ho
def ACallsM (P:Program) (f:FuncId) (args:List AV) (r:RV) (outs:List AV):Prop:=
 Callable P f∧outsFit args outs=true∧∀(w:World) (E:Env) (vs:Array Value),Base E w→RepMs w E args vs →
  Calls P f vs w fun e w'=>∃v,e=.returned v∧Kept E.lent w w'∧RepR w' (After w w' E outs vs) r v∧(∀b,r.blk v=some b→After w w' E outs vs b∧¬E.rd b) ∧
   ∀(j:Nat) (o:AV),outs[j]?=some o→RepAV w' (fun b=>After w w' E outs vs b∧r.blk v≠some b) E.lent deadSt noTm o (tmV vs j)
theorem blk_out {a o:AV} {u:Value} {b:Nat} {w:World} {S O:Nat→Prop} {s:St} {tm:Nat→Value} (hf:outFits a o=true) (hr:RepAV w S O s tm a u) (h:blkOf o u=some b):blkOf a u=some b:=by
 cases a with
 | box cs=>cases o with
  | box cs'=>obtain ⟨b',arr,t,rfl,_⟩:=hr;exact h
  | dead=>cases h
  | _=>simp [outFits] at hf
 | mp c bs es=>cases o with
  | mp c' bs' es'=>obtain ⟨b',ents,rfl,_⟩:=hr;exact h
  | dead=>cases h
  | _=>simp [outFits] at hf
 | own e z xs=>cases o with
  | own e' z' xs'=>exact h
  | dead=>cases h
  | x v=>cases h
  | _=>simp [outFits] at hf
 | gbox b1 cs=>cases o with
  | gbox b2 cs'=>obtain rfl:b1=b2:=by simpa [outFits] using hf
                 exact h
  | dead=>cases h
  | _=>simp [outFits] at hf
 | _=>cases o<;>first | (simp [outFits] at hf;done) | (cases h)
theorem blk_in {a o:AV} {u:Value} {b:Nat} {w:World} {S O:Nat→Prop} {s:St} {tm:Nat→Value} (hf:outFits a o=true) (ho:o.isOwner=true) (hr:RepAV w S O s tm a u) (h:blkOf a u=some b):blkOf o u=some b:=by
 cases a with
 | box cs=>cases o with
  | box cs'=>obtain ⟨b',arr,t,rfl,_⟩:=hr;exact h
  | dead=>cases ho
  | _=>simp [outFits] at hf
 | mp c bs es=>cases o with
  | mp c' bs' es'=>obtain ⟨b',ents,rfl,_⟩:=hr;exact h
  | dead=>cases ho
  | _=>simp [outFits] at hf
 | own e z xs=>cases o with
  | own e' z' xs'=>exact h
  | dead=>cases ho
  | x v=>cases ho
  | _=>simp [outFits] at hf
 | gbox b1 cs=>cases o with
  | gbox b2 cs'=>obtain rfl:b1=b2:=by simpa [outFits] using hf
                 exact h
  | dead=>cases ho
  | _=>simp [outFits] at hf
 | _=>cases o<;>first | (simp [outFits] at hf;done) | (cases ho)
theorem outFits_ne {a o:AV} (hn:∀g e z xs,o≠.gown g e z xs) (h:outFitsG a o=true):outFits a o=true:=by
 cases o<;>first | (cases a<;>exact h) | exact absurd rfl (hn _ _ _ _)
theorem blk_inG {a o:AV} {u:Value} {b:Nat} {w:World} {S O:Nat→Prop} {s:St} {tm:Nat→Value} (hf:outFitsG a o=true) (ho:o.isOwner=true) (hv:o.valOf=a.valOf) (hr:RepAV w S O s tm a u) (h:blkOf a u=some b):blkOf o u=some b:=by
 cases a with
 | own e z xs=>cases o with
  | gown g e' z' xs' =>
   have h1:g=Value.bool true:=congrFun hv (.bool true)
   have h2:g=Value.bool false:=congrFun hv (.bool false)
   rw [h1] at h2;cases h2
  | _=>exact blk_in (a:=.own e z xs) (outFits_ne (by rintro _ _ _ _ ⟨⟩) hf) ho hr h
 | gown g e z xs=>cases o with
  | gown g' e' z' xs' =>
   have h1:g'=g:=congrFun hv undef
   rw [h1];exact h
  | _=>exact blk_in (a:=.gown g e z xs) (outFits_ne (by rintro _ _ _ _ ⟨⟩) hf) ho hr h
 | _ =>
  refine blk_in ?_ ho hr h
  cases o<;>first | exact hf | skip
section
variable {P:Program} {S0:Env} {w0 w:World} {n:Nat} {s:St} {a:Act}
def argM (s:St) (x:Operand):Prop×Option (AV×Option Nat):=
 match sv s x with
 | (p,.x xv)=>(p,some (.x xv,none))
 | (p,.alias i)=>match s i with
  | .own e z xs=>(p,some (.own e z xs,some i))
  | .mp c bs es=>(p,some (.mp c bs es,some i))
  | _=>(False,none)
 | (p,.ptr i 0)=>match s i with
  | .box cs=>(p,some (.box cs,some i))
  | _=>(False,none)
 | (p,.cloR f caps)=>(p,some (.cloR f caps,none))
 | (p,.ptr2 i off)=>(p,some (.ptr2 i off,none))
 | _=>(False,none)
def argMs (s:St):List Operand→Prop×Option (List (AV×Option Nat))
 | []=>(True,some [])
 | x::r=>match argM s x,argMs s r with
  | (p,some v),(q,some vs)=>(p∧q,some (v::vs))
  | _,_=>(False,none)
def capM (s:St):CV ⊕ (Nat×Nat)→Option (AV×Option Nat)
 | .inl c=>some (.x (.one c),none)
 | .inr (i,0)=>match s i with
  | .box cs=>some (.box cs,some i)
  | _=>none
 | .inr (i,off)=>bif decide (1000000≤off) then some (.ptr2 i (off-1000000),none) else none
def capMs (s:St):List (CV ⊕ (Nat×Nat))→Option (List (AV×Option Nat))
 | []=>some []
 | c::r=>match capM s c,capMs s r with
  | some x,some xs=>some (x::xs)
  | _,_=>none
def fnM (s:St):AV→Option (FuncId×List (AV×Option Nat))
 | .cloR f caps=>(capMs s caps).map fun xs=>(f,xs)
 | a=>(fnOf a).map fun p=>(p.1,p.2.map fun x=>(.x x,none))
def calleeM (s:St) (f:Operand) (args:List Operand):Prop×Option (FuncId×List (AV×Option Nat)):=
 match sv s f,argMs s args with
 | (p,a),(q,some xs)=>match fnM s a with
  | some (g,caps)=>(p∧q,some (g,xs++caps))
  | none=>(False,none)
 | _,_=>(False,none)
def setOut (s:St) (i:Nat) (o:AV):St:=
 match o with
 | .box _=>fun j=>if j=i then o else s j
 | .mp _ _ _=>fun j=>if j=i then o else s j
 | _=>fun j=>if j=i then o else if (s j).refs i then .dead else s j
def setOuts (s:St):List (AV×Option Nat)→List AV→St
 | (_,some i)::l,o::outs=>setOuts (setOut s i o) l outs
 | (_,none)::l,_::outs=>setOuts s l outs
 | _,_=>s
def slotsOf (l:List (AV×Option Nat)):List Nat:=l.filterMap (·.2)
def noLinks (xs:List (AV×Option Nat)):Bool:=xs.all fun y=>y.1.told
theorem told_any {cs:List CV} (h:(AV.box cs).told=true) {j:Nat} (hj:cs[j]?=some .any):False:=by
 simp only [AV.told,Bool.not_eq_true'] at h
 rw [List.any_eq_false] at h
 exact h _ (List.mem_of_getElem? hj) rfl
theorem told_anyC {x:AV} {cs:List CV} (hx:x.boxC=some cs) (h:x.told=true) {j:Nat} (hj:cs[j]?=some .any):False:=by
 cases x with
 | box c =>
  obtain rfl:c=cs:=by simpa [AV.boxC] using hx
  exact told_any h hj
 | gbox b c =>
  obtain rfl:c=cs:=by simpa [AV.boxC] using hx
  exact told_any (cs:=c) h hj
 | _=>cases hx
def AV.toBox:AV→Bool
 | .cloR _ _=>true
 | .ptr2 _ _=>true
 | _=>false
def IsArg (S0:Env) (w0:World) (s:St) (a:Act) (w:World) (x:AV×Option Nat) (u:Value):Prop:=
 match x.2 with
 | none=>((∃xv,x.1=.x xv)∨x.1.toBox=true)∧RepIn S0 w0 s a w x.1 u
 | some i=>s i=x.1∧x.1.bare=true∧x.1.isOwner=true∧u=tmOf a i
theorem argM_ok (hR:Rel S0 w0 n s a w) {x:Operand} {p:Prop} {y:AV×Option Nat} (h:argM s x=(p,some y)) (hp:p):IsArg S0 w0 s a w y (a.eval x):=by
 have hsv:=hR.sv x
 unfold argM at h
 split at h
 ·rename_i q xv e
  simp only [Prod.mk.injEq,Option.some.injEq] at h
  obtain ⟨rfl,rfl⟩:=h
  rw [e] at hsv
  exact ⟨.inl ⟨xv,rfl⟩,hsv hp⟩
 ·rename_i q i e
  rw [e] at hsv
  split at h
  ·rename_i hs
   simp only [Prod.mk.injEq,Option.some.injEq] at h
   obtain ⟨rfl,rfl⟩:=h
   exact ⟨hs,rfl,rfl,(RepAV.alias_own (hsv hp) hs).1⟩
  ·rename_i hs
   simp only [Prod.mk.injEq,Option.some.injEq] at h
   obtain ⟨rfl,rfl⟩:=h
   exact ⟨hs,rfl,rfl,(RepAV.alias_mp (hsv hp) hs).1⟩
  ·simp at h
 ·rename_i q i e
  rw [e] at hsv
  split at h
  ·rename_i cs hs
   simp only [Prod.mk.injEq,Option.some.injEq] at h
   obtain ⟨rfl,rfl⟩:=h
   obtain ⟨b,hv,hk⟩:=hsv hp
   have hi:=hR.rep i
   rw [hs] at hi hk
   obtain ⟨b',arr,t,hv',_⟩:=hi
   rw [hv'] at hk
   obtain rfl:b'=b:=by simpa [blkOf] using hk
   exact ⟨hs,rfl,rfl,by rw [hv,hv']⟩
  ·simp at h
 ·rename_i q f caps e
  simp only [Prod.mk.injEq,Option.some.injEq] at h
  obtain ⟨rfl,rfl⟩:=h
  rw [e] at hsv
  exact ⟨.inr rfl,hsv hp⟩
 ·rename_i q i off e
  simp only [Prod.mk.injEq,Option.some.injEq] at h
  obtain ⟨rfl,rfl⟩:=h
  rw [e] at hsv
  exact ⟨.inr rfl,hsv hp⟩
 ·simp at h
theorem argMs_ok (hR:Rel S0 w0 n s a w):∀{args:List Operand} {p:Prop} {ys:List (AV×Option Nat)},argMs s args=(p,some ys)→p→ys.length=args.length∧∀(j:Nat) (y:AV×Option Nat),ys[j]?=some y→∃u,(args.map a.eval)[j]?=some u∧IsArg S0 w0 s a w y u:=by
 intro args
 induction args with
 | nil =>
  intro p ys h _
  simp only [argMs,Prod.mk.injEq,Option.some.injEq] at h
  obtain ⟨_,rfl⟩:=h
  exact ⟨rfl,fun j y hj=>by simp at hj⟩
 | cons x r ih =>
  intro p ys h hp
  simp only [argMs] at h
  split at h
  ·rename_i q v q' vs e1 e2
   simp only [Prod.mk.injEq,Option.some.injEq] at h
   obtain ⟨rfl,rfl⟩:=h
   obtain ⟨h1,h2⟩:=ih e2 hp.2
   refine ⟨by simp [h1],fun j y hj=>?_⟩
   cases j with
   | zero=>simp at hj;subst hj;exact ⟨_,rfl,argM_ok hR e1 hp.1⟩
   | succ j=>simp at hj;simpa using h2 j y hj
  ·simp at h
theorem capMs_ok:∀{caps:List (CV ⊕ (Nat×Nat))} {us:List Value} {ys:List (AV×Option Nat)},Rel S0 w0 n s a w→us.length=caps.length →
  (∀(j:Nat) (c:CV ⊕ (Nat×Nat)),caps[j]?=some c→∃u,us[j]?=some u∧CapRep w (Shared S0 w0.heap.size w s (tmOf a)) s (tmOf a) c u)→capMs s caps=some ys→ys.length=us.length∧∀(j:Nat) (y:AV×Option Nat),ys[j]?=some y→∃u,us[j]?=some u∧IsArg S0 w0 s a w y u
 | [],us,ys,_,hl,_,h=>by
  simp only [capMs,Option.some.injEq] at h
  subst h
  exact ⟨by simpa using hl.symm,fun j y hj=>by simp at hj⟩
 | c::caps,us,ys,hR,hl,hc,h=>by
  cases us with
  | nil=>simp at hl
  | cons u us =>
   simp only [capMs] at h
   split at h
   ·rename_i x xs e1 e2
    injection h with h
    subst h
    obtain ⟨h1,h2⟩:=capMs_ok (us:=us) hR (by simpa using hl) (fun j c hj=>by simpa using hc (j+1) c (by simpa using hj)) e2
    refine ⟨by simp [h1],fun j y hj=>?_⟩
    cases j with
    | succ j=>simp at hj;simpa using h2 j y hj
    | zero =>
     simp at hj;subst hj
     obtain ⟨u',hu,hcu⟩:=hc 0 c rfl
     simp at hu;subst hu
     refine ⟨u,rfl,?_⟩
     unfold capM at e1
     split at e1
     ·injection e1 with e1;subst e1
      exact ⟨.inl ⟨_,rfl⟩,hcu⟩
     ·rename_i i
      split at e1
      ·rename_i cs hs
       injection e1 with e1;subst e1
       rw [capRep_inr,if_pos (by simp)] at hcu
       obtain ⟨b,hv,hk⟩:=hcu
       have hi:=hR.rep i
       dsimp only at hk
       rw [hs] at hi hk
       obtain ⟨b',arr,t,hv',_⟩:=hi
       rw [hv'] at hk
       obtain rfl:b'=b:=by simpa [blkOf] using hk
       exact ⟨hs,rfl,rfl,by rw [hv,hv']⟩
      ·cases e1
     ·rename_i i off _
      by_cases hoff:1000000≤off
      ·simp only [hoff,decide_true,cond_true,Option.some.injEq] at e1
       subst e1
       rw [capRep_inr,if_neg (by simp only;omega)] at hcu
       exact ⟨.inr rfl,hcu⟩
      ·simp [hoff] at e1
   ·cases h
structure AfterSt (s s1:St) (L:List (Nat×AV)):Prop where
 new:∀i o,(i,o)∈L→s1 i=o
 old:∀j,(∀o,(j,o)∉L)→s1 j=s j∨(s1 j=.dead∧∃k,(s j).refs k=true)
 ref:∀j k,(s1 j).refs k=true→s1 j=s j∧(∀o,(k,o)∈L→o.isOwner=true∧o.size=(s k).size∧o.len=(s k).len∧o.valOf=(s k).valOf)∧((∀o,(k,o)∉L)→s1 k=s k)
theorem AfterSt.nil (s:St):AfterSt s s []:=
 ⟨fun i o h=>(by cases h),fun j _=>.inl rfl,fun j k h=>⟨rfl,fun o h=>(by cases h),fun _=>rfl⟩⟩
theorem setOut_after {s:St} {i:Nat} {o:AV} (hwf:∀i j,(s i).refs j=true→(s j).isOwner=true) (hf:outFitsG (s i) o=true) (hso:(s i).isOwner=true) (hb:o.bare=true):AfterSt s (setOut s i o) [(i,o)]:=by
 have hown:∀j,(s j).refs i=true→j≠i:=by
  rintro j h rfl
  rw [refs_owner h] at hso;cases hso
 have plain:(o.isOwner=true∧o.size=(s i).size∧o.len=(s i).len∧o.valOf=(s i).valOf)→AfterSt s (fun j=>if j=i then o else s j) [(i,o)]:=by
  intro hk
  refine ⟨fun i' o' h=>?_,fun j h=>.inl ?_,fun j k h=>?_⟩
  ·simp at h;obtain ⟨rfl,rfl⟩:=h;simp
  ·have:j≠i:=by rintro rfl;exact h o (by simp)
   simp [this]
  ·by_cases hj:j=i
   ·subst hj;simp only [if_pos] at h;rw [AV.bare_refs hb] at h;cases h
   ·simp only [if_neg hj] at h ⊢
    refine ⟨trivial,fun o' ho=>?_,fun hk'=>?_⟩
    ·simp at ho;obtain ⟨rfl,rfl⟩:=ho;exact hk
    ·have:k≠i:=by rintro rfl;exact hk' o (by simp)
     simp [this]
 have kill:AfterSt s (fun j=>if j=i then o else if (s j).refs i then .dead else s j) [(i,o)]:=by
  refine ⟨fun i' o' h=>?_,fun j h=>?_,fun j k h=>?_⟩
  ·simp at h;obtain ⟨rfl,rfl⟩:=h;simp
  ·have:j≠i:=by rintro rfl;exact h o (by simp)
   simp only [if_neg this]
   cases hr:(s j).refs i with
   | true=>exact .inr ⟨by simp,i,hr⟩
   | false=>exact .inl (by simp)
  ·by_cases hj:j=i
   ·subst hj;simp only [if_pos] at h;rw [AV.bare_refs hb] at h;cases h
   ·simp only [if_neg hj] at h ⊢
    cases hr:(s j).refs i with
    | true=>rw [hr] at h;cases h
    | false =>
     rw [hr] at h
     simp only [Bool.false_eq_true,if_false] at h ⊢
     have hki:k≠i:=by rintro rfl;rw [hr] at h;cases h
     refine ⟨trivial,fun o' ho=>?_,fun _=>?_⟩
     ·simp at ho;exact absurd ho.1 hki
     ·simp only [if_neg hki]
      have hko:=hwf j k h
      cases hr2:(s k).refs i with
      | true=>rw [refs_owner hr2] at hko;cases hko
      | false=>simp
 unfold setOut
 cases o with
 | box cs =>
  refine plain ⟨rfl,?_⟩
  cases hs:s i<;>rw [hs] at hf<;>first | exact ⟨rfl,rfl,rfl⟩ | (simp [outFitsG,outFits] at hf)
 | mp c bs es =>
  refine plain ⟨rfl,?_⟩
  cases hs:s i<;>rw [hs] at hf<;>first | exact ⟨rfl,rfl,rfl⟩ | (simp [outFitsG,outFits] at hf)
 | _=>exact kill
theorem AfterSt.wf {s s1:St} {L:List (Nat×AV)} (h:AfterSt s s1 L) (hwf:∀i j,(s i).refs j=true→(s j).isOwner=true):∀i j,(s1 i).refs j=true→(s1 j).isOwner=true:=by
 intro i j hij
 obtain ⟨h1,h2,h3⟩:=h.ref i j hij
 by_cases hj:∃o,(j,o)∈L
 ·obtain ⟨o,ho⟩:=hj
  rw [h.new j o ho];exact (h2 o ho).1
 ·rw [h3 (fun o ho=>hj ⟨o,ho⟩)]
  rw [h1] at hij
  exact hwf i j hij
theorem AfterSt.trans {s s' s1:St} {i:Nat} {o:AV} {L:List (Nat×AV)} (h:AfterSt s s' [(i,o)]) (k:AfterSt s' s1 L) (hb:o.bare=true) (hi:∀o',(i,o')∉L):AfterSt s s1 ((i,o)::L):=by
 have hsi:s' i=o:=h.new i o (by simp)
 have hs1i:s1 i=o:=by
  rcases k.old i hi with e | ⟨_,m,e⟩
  ·rw [e,hsi]
  ·rw [hsi,AV.bare_refs hb] at e;cases e
 refine ⟨fun j o' hj=>?_,fun j hj=>?_,fun j m hjm=>?_⟩
 ·rcases List.mem_cons.1 hj with e | e
  ·injection e with e1 e2;subst e1;subst e2;exact hs1i
  ·exact k.new j o' e
 ·have hji:j≠i:=by rintro rfl;exact hj o (by simp)
  have hjL:∀o',(j,o')∉L:=fun o' h'=>hj o' (by simp [h'])
  rcases h.old j (fun o' h'=>by simp at h';exact hji h'.1) with e | ⟨e1,m,e2⟩
  ·rcases k.old j hjL with e' | ⟨e1,m,e2⟩
   ·exact .inl (by rw [e',e])
   ·exact .inr ⟨e1,m,by rw [←e];exact e2⟩
  ·rcases k.old j hjL with e' | ⟨e3,_⟩
   ·exact .inr ⟨by rw [e',e1],m,e2⟩
   ·exact .inr ⟨e3,m,e2⟩
 ·obtain ⟨h1,h2,h3⟩:=k.ref j m hjm
  obtain ⟨h4,h5,h6⟩:=h.ref j m (by rw [←h1];exact hjm)
  refine ⟨by rw [h1,h4],fun o' ho=>?_,fun ho=>?_⟩
  ·rcases List.mem_cons.1 ho with e | e
   ·injection e with e1 e2;subst e1;subst e2;exact h5 _ (by simp)
   ·have hmi:m≠i:=by rintro rfl;exact hi o' e
    have:=h2 o' e
    rw [h6 (fun o'' h'=>by simp at h';exact hmi h'.1)] at this
    exact this
  ·have hmi:m≠i:=by rintro rfl;exact ho o (by simp)
   rw [h3 (fun o' h'=>ho o' (by simp [h'])),h6 (fun o'' h'=>by simp at h';exact hmi h'.1)]
def pairs:List (AV×Option Nat)→List AV→List (Nat×AV)
 | (_,some i)::l,o::outs=>(i,o)::pairs l outs
 | (_,none)::l,_::outs=>pairs l outs
 | _,_=>[]
theorem pairs_mem:∀{l:List (AV×Option Nat)} {outs:List AV} {i:Nat} {o:AV},(i,o)∈pairs l outs→∃(j:Nat) (x:AV),l[j]?=some (x,some i)∧outs[j]?=some o
 | [],_,i,o,h=>by simp [pairs] at h
 | (x,none)::l,[],i,o,h=>by simp [pairs] at h
 | (x,some k)::l,[],i,o,h=>by simp [pairs] at h
 | (x,none)::l,q::outs,i,o,h=>by
  simp only [pairs] at h
  obtain ⟨j,y,h1,h2⟩:=pairs_mem h
  exact ⟨j+1,y,by simpa using h1,by simpa using h2⟩
 | (x,some k)::l,q::outs,i,o,h=>by
  simp only [pairs] at h
  rcases List.mem_cons.1 h with e | e
  ·injection e with e1 e2;subst e1;subst e2;exact ⟨0,x,rfl,rfl⟩
  ·obtain ⟨j,y,h1,h2⟩:=pairs_mem e
   exact ⟨j+1,y,by simpa using h1,by simpa using h2⟩
theorem mem_pairs:∀{l:List (AV×Option Nat)} {outs:List AV} {i j:Nat} {x o:AV},l[j]?=some (x,some i)→outs[j]?=some o→(i,o)∈pairs l outs
 | [],_,i,j,x,o,h,_=>by simp at h
 | p::l,[],i,j,x,o,_,h=>by simp at h
 | (y,q)::l,p::outs,i,0,x,o,h,k=>by
  simp at h k
  obtain ⟨rfl,rfl⟩:=h
  subst k
  simp [pairs]
 | (y,q)::l,p::outs,i,j+1,x,o,h,k=>by
  simp at h k
  have:=mem_pairs h k
  cases q with
  | none=>simpa [pairs] using this
  | some m=>simp [pairs,this]
theorem mem_slots {l:List (AV×Option Nat)} {i j:Nat} {x:AV} (h:l[j]?=some (x,some i)):i∈slotsOf l:=by
 unfold slotsOf
 rw [List.mem_filterMap]
 exact ⟨_,List.mem_of_getElem? h,rfl⟩
theorem slot_inj:∀{l:List (AV×Option Nat)} {i j k:Nat} {x y:AV},(slotsOf l).Nodup→l[j]?=some (x,some i)→l[k]?=some (y,some i)→j=k
 | [],i,j,k,x,y,_,h,_=>by simp at h
 | p::l,i,0,0,x,y,_,_,_=>rfl
 | (p,q)::l,i,0,k+1,x,y,hn,h,h'=>by
  simp at h h'
  obtain ⟨rfl,rfl⟩:=h
  simp only [slotsOf,List.filterMap_cons] at hn
  exact absurd (mem_slots h') (List.nodup_cons.1 hn).1
 | (p,q)::l,i,j+1,0,x,y,hn,h,h'=>by
  simp at h h'
  obtain ⟨rfl,rfl⟩:=h'
  simp only [slotsOf,List.filterMap_cons] at hn
  exact absurd (mem_slots h) (List.nodup_cons.1 hn).1
 | (p,q)::l,i,j+1,k+1,x,y,hn,h,h'=>by
  simp at h h'
  have hn':(slotsOf l).Nodup:=by
   cases q with
   | none=>simpa [slotsOf] using hn
   | some m=>simp only [slotsOf,List.filterMap_cons] at hn;exact (List.nodup_cons.1 hn).2
  rw [slot_inj hn' h h']
theorem setOuts_after:∀(l:List (AV×Option Nat)) (outs:List AV) (s:St),(∀i j,(s i).refs j=true→(s j).isOwner=true)→(slotsOf l).Nodup→l.length=outs.length →
  (∀(j:Nat) (x:AV) (i:Nat) (o:AV),l[j]?=some (x,some i)→outs[j]?=some o→outFitsG (s i) o=true∧(s i).isOwner=true∧o.bare=true)→AfterSt s (setOuts s l outs) (pairs l outs)
 | [],outs,s,hwf,_,_,_=>by cases outs<;>exact AfterSt.nil s
 | (x,q)::l,[],s,_,_,h,_=>by simp at h
 | (x,none)::l,o::outs,s,hwf,hn,hl,h=>by
  simp only [setOuts,pairs]
  exact setOuts_after l outs s hwf (by simpa [slotsOf] using hn) (by simpa using hl) (fun j y i o' h1 h2=>h (j+1) y i o' (by simpa using h1) (by simpa using h2))
 | (x,some i)::l,o::outs,s,hwf,hn,hl,h=>by
  simp only [setOuts,pairs]
  obtain ⟨h1,h2,h3⟩:=h 0 x i o rfl rfl
  have hA:=setOut_after hwf h1 h2 h3
  simp only [slotsOf,List.filterMap_cons] at hn
  have hni:=(List.nodup_cons.1 hn).1
  have hkeep:∀j,j∈slotsOf l→(s j).isOwner=true→setOut s i o j=s j:=by
   intro j hj ho
   have hji:j≠i:=by rintro rfl;exact hni hj
   rcases hA.old j (fun o' h'=>by simp at h';exact hji h'.1) with e | ⟨_,k,e⟩
   ·exact e
   ·rw [refs_owner e] at ho;cases ho
  refine hA.trans (setOuts_after l outs _ (hA.wf hwf) (List.nodup_cons.1 hn).2 (by simpa using hl) (fun j y m o' k1 k2=>?_)) h3 (fun o' h'=>?_)
  ·obtain ⟨e1,e2,e3⟩:=h (j+1) y m o' (by simpa using k1) (by simpa using k2)
   rw [hkeep m (mem_slots k1) e2]
   exact ⟨e1,e2,e3⟩
  ·obtain ⟨j,y,h4,_⟩:=pairs_mem h'
   exact hni (mem_slots h4)
theorem Rel.put2 {X:Nat→Prop} {d:Nat} {r:AV} {v:Value} (hd:S0.m≤d∧d<n) (hpin:∀j,j<S0.m→tmOf a j=S0.val j) (hdef:a.defers=[]) (hsz:a.tmps.size=n) (hbel:Kept S0.lent w0 w) (hlt:Base S0 w0)
  (hrep:∀i,RepAV w (fun b=>Shared S0 w0.heap.size w s (tmOf a) b∧¬X b) (OwnB S0 w0.heap.size) s (tmOf a) (s i) (tmOf a i))
  (hinj:∀i j b,blkOf (s i) (tmOf a i)=some b→blkOf (s j) (tmOf a j)=some b→i=j) (hout:∀i,n≤i→(s i).apart=true) (hwf:∀i j,(s i).refs j=true→(s j).isOwner=true)
  (hrr:∀j,r.refs j=false) (hr:RepAV w (fun b=>Shared S0 w0.heap.size w s (tmOf a) b∧¬X b) (OwnB S0 w0.heap.size) s (tmOf a) r v) (hX:∀b,blkOf r v=some b→X b) (hXo:∀i b,blkOf (s i) (tmOf a i)=some b→¬X b) :
  Rel S0 w0 n (Ab.put s d r) (a.put (some d) v) w:=by
 have hdt:d<a.tmps.size:=by rw [hsz];exact hd.2
 have htm:=tmOf_put a d v hdt
 have htmo:∀i,i≠d→tmOf (a.put (some d) v) i=tmOf a i:=fun i hi=>by rw [htm,if_neg hi]
 have htmd:tmOf (a.put (some d) v) d=v:=by rw [htm,if_pos rfl]
 have hblk:∀i b,blkOf (Ab.put s d r i) (tmOf (a.put (some d) v) i)=some b→(i=d∧blkOf r v=some b)∨(i≠d∧blkOf (s i) (tmOf a i)=some b):=by
  intro i b hb
  by_cases hi:i=d
  ·subst hi
   rw [htmd,put_same (hrr i)] at hb
   exact .inl ⟨rfl,hb⟩
  ·rw [htmo i hi] at hb
   exact .inr ⟨hi,put_blk hi hb⟩
 have hsub:∀b,(Shared S0 w0.heap.size w s (tmOf a) b∧¬X b)→Shared S0 w0.heap.size w (Ab.put s d r) (tmOf (a.put (some d) v)) b:=by
  rintro b ⟨⟨h1,h2,h3⟩,hx⟩
  refine ⟨h1,h2,fun i hi=>?_⟩
  rcases hblk i b hi with ⟨_,h⟩ | ⟨_,h⟩
  ·exact hx (hX b h)
  ·exact h3 i h
 refine ⟨hdef,by simp [Act.put,hsz],hbel,hlt,fun i=>?_,fun i j b hbi hbj=>?_,fun i hi=>?_,put_wf hwf (fun j hj=>by rw [hrr] at hj;cases hj),fun j hj=>by rw [htmo j (by omega)];exact hpin j hj⟩
 ·by_cases hi:i=d
  ·subst hi
   rw [htmd,put_same (hrr i)]
   refine hr.mono hsub (fun _ _=>rfl) (fun _ _=>rfl) (fun j hj=>?_) (fun i' _ _ _ _ hl _ _=>by have:=(AV.hasLink_refs hl).1;rw [hrr] at this;cases this)
   have:=hrr j
   rw [AV.refs_of_refsL hj] at this;cases this
  ·rw [htmo i hi]
   rcases put_other (s:=s) (v:=r) hi with hp | ⟨_,_,hp⟩
   ·rw [hp]
    have hjd:∀j,(s i).refs j=true→j≠d:=by
     rintro j hjr rfl
     have:Ab.put s j r i=.dead:=put_killed hi (hwf i j hjr) hjr
     rw [hp] at this
     rw [this] at hjr;cases hjr
    refine (hrep i).mono hsub (fun _ _=>rfl) (fun _ _=>rfl) (fun j hj=>?_) (fun i' off d' cs b hl hs' _=>⟨⟨cs,by rw [put_owner (hjd i' (AV.hasLink_refs hl).1) (AV.boxC_owner hs')];exact hs',rfl⟩,rfl⟩)
    have hjr:=AV.refs_of_refsL hj
    have hjo:=hwf i j hjr
    have hjd:=hjd j hjr
    exact ⟨htmo j hjd,fun _=>by rw [put_owner hjd hjo];exact ⟨hjo,rfl,rfl,rfl⟩,fun b hb=>by rw [put_owner hjd hjo];exact hb⟩
   ·rw [hp];trivial
 ·rcases hblk i b hbi with ⟨hi,h1⟩ | ⟨hi,h1⟩<;>rcases hblk j b hbj with ⟨hj,h2⟩ | ⟨hj,h2⟩
  ·rw [hi,hj]
  ·exact absurd (hX b h1) (hXo j b h2)
  ·exact absurd (hX b h2) (hXo i b h1)
  ·exact hinj i j b h1 h2
 ·have hid:i≠d:=by omega
  rcases put_other (s:=s) (v:=r) hid with hp | ⟨_,_,hp⟩
  ·rw [hp];exact hout i hi
  ·rw [hp];rfl
theorem Rel.lentBack (hR:Rel S0 w0 n s a w) {ys:List (AV×Option Nat)} {outs:List AV} {vs:Array Value} {r:RV} {v:Value} {w':World} {s1:St} {d:Nat} {E:Env} (hd:S0.m≤d∧d<n)
  (hvs:∀(j:Nat) (y:AV×Option Nat),ys[j]?=some y→∃u,vs[j]?=some u∧IsArg S0 w0 s a w y u) (hl:ys.length=outs.length) (hfit':∀(j:Nat) (x:AV×Option Nat) (o:AV),ys[j]?=some x→outs[j]?=some o→outFitsG x.1 o=true) (hnl:∀(j i off d:Nat),(s j).hasLink i off d→i∈slotsOf ys→False)
  (hinj:∀(i j:Nat) (x y:AV) (b:Nat),outs[i]?=some x→blkOf x (tmV vs i)=some b→outs[j]?=some y→blkOf y (tmV vs j)=some b→i=j)
  (hErd:E.rd=Shared S0 w0.heap.size w s (tmOf a)) (hElent:∀b,E.lent b↔∃i,i∈slotsOf ys∧blkOf (s i) (tmOf a i)=some b)
  (hk:Kept E.lent w w') (hr:RepR w' (After w w' E outs vs) r v) (hrb:∀b,r.blk v=some b→After w w' E outs vs b∧¬E.rd b)
  (hout:∀(j:Nat) (o:AV),outs[j]?=some o→RepAV w' (fun b=>After w w' E outs vs b∧r.blk v≠some b) (fun b=>E.lent b∨w.heap.size≤b) deadSt noTm o (tmV vs j))
  (hA:AfterSt s s1 (pairs ys outs)):Rel S0 w0 n (Ab.put s1 d r.av) (a.put (some d) v) w':=by
 have hslot:∀i,i∈slotsOf ys→∃(j:Nat) (x:AV) (o:AV),ys[j]?=some (x,some i)∧outs[j]?=some o∧vs[j]?=some (tmOf a i)∧s i=x∧x.bare=true∧x.isOwner=true∧outFitsG x o=true:=by
  intro i hi
  unfold slotsOf at hi
  rw [List.mem_filterMap] at hi
  obtain ⟨⟨x,q⟩,hm,hq⟩:=hi
  dsimp only at hq
  subst hq
  obtain ⟨j,hj⟩:=List.getElem?_of_mem hm
  have hlt:j<outs.length:=by rw [←hl];exact (List.getElem?_eq_some_iff.1 hj).1
  obtain ⟨u,hu,hs,hb,ho,rfl⟩:=hvs j _ hj
  exact ⟨j,x,outs[j],hj,List.getElem?_eq_getElem hlt,hu,hs,hb,ho,hfit' j _ _ hj (List.getElem?_eq_getElem hlt)⟩
 have hpair:∀i o,(i,o)∈pairs ys outs→i∈slotsOf ys∧∃(j:Nat),outs[j]?=some o∧vs[j]?=some (tmOf a i)∧(s i).bare=true∧(s i).isOwner=true∧outFitsG (s i) o=true:=by
  intro i o h
  obtain ⟨j,x,h1,h2⟩:=pairs_mem h
  obtain ⟨u,hu,hs,hb,ho,rfl⟩:=hvs j _ h1
  dsimp only at hs hb ho
  subst hs
  exact ⟨mem_slots h1,j,h2,hu,hb,ho,hfit' j _ o h1 h2⟩
 have hkey:∀i,i∈slotsOf ys→∃o,(i,o)∈pairs ys outs:=by
  intro i hi
  obtain ⟨j,x,o,h1,h2,_⟩:=hslot i hi
  exact ⟨o,mem_pairs h1 h2⟩
 have hbareO:∀{x o:AV},outFitsG x o=true→o.bare=true:=by
  intro x o h
  cases x<;>cases o<;>first | rfl | (simp [outFitsG,outFits] at h)
 have hnew:∀j o b,(j,o)∈pairs ys outs→blkOf o (tmOf a j)=some b→E.lent b∨w.heap.size≤b:=by
  intro j o b ho hb
  obtain ⟨_,k,h1,h2,_,_,hf⟩:=hpair j o ho
  have hoj:=hout k o h1
  rw [tmV_some h2] at hoj
  exact (hoj.blk_lt hb).1
 have hblk1:∀j b,blkOf (s1 j) (tmOf a j)=some b→(∃o,(j,o)∈pairs ys outs∧blkOf o (tmOf a j)=some b)∨((∀o,(j,o)∉pairs ys outs)∧blkOf (s j) (tmOf a j)=some b):=by
  intro j b hb
  by_cases hj:∃o,(j,o)∈pairs ys outs
  ·obtain ⟨o,ho⟩:=hj
   rw [hA.new j o ho] at hb
   exact .inl ⟨o,ho,hb⟩
  ·have hno:∀o,(j,o)∉pairs ys outs:=fun o ho=>hj ⟨o,ho⟩
   rcases hA.old j hno with e | ⟨e,_⟩<;>rw [e] at hb
   ·exact .inr ⟨hno,hb⟩
   ·cases hb
 have howned:∀b,Owned outs vs b→E.lent b∨w.heap.size≤b:=by
  rintro b ⟨j,o,h1,h3⟩
  exact ((hout j o h1).blk_lt h3).1
 have hown1:∀i o b,(i,o)∈pairs ys outs→blkOf o (tmOf a i)=some b→Owned outs vs b:=by
  intro i o b h hb
  obtain ⟨_,j,h1,h2,_⟩:=hpair i o h
  exact ⟨j,o,h1,by rw [tmV_some h2];exact hb⟩
 have hlentO:∀b,E.lent b→OwnB S0 w0.heap.size b∧b<w.heap.size:=by
  intro b hb
  obtain ⟨i,_,hi⟩:=(hElent b).1 hb
  exact (hR.rep i).blk_lt hi
 have hafter:∀b,After w w' E outs vs b→Shared S0 w0.heap.size w' s1 (tmOf a) b:=by
  rintro b ⟨h,hno⟩
  have hnone:∀i,blkOf (s1 i) (tmOf a i)=some b→(∀o,(i,o)∉pairs ys outs)∧blkOf (s i) (tmOf a i)=some b:=by
   intro i hi
   rcases hblk1 i b hi with ⟨o,ho,hb⟩ | h
   ·exact absurd (hown1 i o b ho hb) hno
   ·exact h
  rcases h with h | h | ⟨h1,h2⟩
  ·rw [hErd] at h
   exact ⟨h.1,Nat.lt_of_lt_of_le h.2.1 hk.size,fun i hi=>h.2.2 i (hnone i hi).2⟩
  ·obtain ⟨k1,k2⟩:=hlentO b h
   refine ⟨.inr k1,Nat.lt_of_lt_of_le k2 hk.size,fun i hi=>?_⟩
   obtain ⟨h3,h4⟩:=hnone i hi
   obtain ⟨m,hm,hmb⟩:=(hElent b).1 h
   have:=hR.inj i m b h4 hmb
   subst this
   obtain ⟨o,ho⟩:=hkey i hm
   exact h3 o ho
  ·refine ⟨.inr (.inl (Nat.le_trans hR.below.size h1)),h2,fun i hi=>?_⟩
   have:=((hR.rep i).blk_lt (hnone i hi).2).2
   omega
 have hsh:∀b,Shared S0 w0.heap.size w s (tmOf a) b→Shared S0 w0.heap.size w' s1 (tmOf a) b∧¬r.blk v=some b:=by
  intro b hb
  refine ⟨hafter b ⟨.inl (by rw [hErd];exact hb),fun ho=>?_⟩,fun h=>(hrb b h).2 (by rw [hErd];exact hb)⟩
  rcases howned b ho with h | h
  ·obtain ⟨i,_,hi⟩:=(hElent b).1 h
   exact hb.2.2 i hi
  ·have:=hb.2.1;omega
 have hnlent:∀b,Shared S0 w0.heap.size w s (tmOf a) b→¬E.lent b:=by
  intro b hb hl
  obtain ⟨i,_,hi⟩:=(hElent b).1 hl
  exact hb.2.2 i hi
 have hrep:∀i,RepAV w' (fun b=>Shared S0 w0.heap.size w' s1 (tmOf a) b∧¬r.blk v=some b) (OwnB S0 w0.heap.size) s1 (tmOf a) (s1 i) (tmOf a i):=by
  intro i
  by_cases hi:∃o,(i,o)∈pairs ys outs
  ·obtain ⟨o,ho⟩:=hi
   obtain ⟨_,j,h1,h2,_,_,hf⟩:=hpair i o ho
   rw [hA.new i o ho]
   have hoj:=hout j o h1
   rw [tmV_some h2] at hoj
   refine hoj.bare (hbareO hf) (fun b hb=>⟨hafter b hb.1,hb.2⟩) (fun b _ hb=>hb.elim (fun h=>(hlentO b h).1) (fun h=>.inl (Nat.le_trans hR.below.size h)))
  ·have hno:∀o,(i,o)∉pairs ys outs:=fun o ho=>hi ⟨o,ho⟩
   rcases hA.old i hno with e | ⟨e,_⟩
   ·rw [e]
    refine (hR.rep i).mono hsh (fun b hb=>hk.block b hb.2.1 (hnlent b hb)) (fun b hb=>?_) (fun k hkr=>?_) (fun i' off d' cs b hl hs' hb'=>?_)
    rotate_right
    ·have hnp:∀o,(i',o)∉pairs ys outs:=by
      intro o ho
      exact hnl i i' off d' hl (hpair i' o ho).1
     obtain ⟨_,_,h3⟩:=hA.ref i i' (by rw [e];exact (AV.hasLink_refs hl).1)
     refine ⟨⟨cs,by rw [h3 hnp];exact hs',rfl⟩,World.cell?_of_block (hk.block b ((hR.rep i').blk_lt hb').2 (fun hlb=>?_))⟩
     obtain ⟨m,hm,hmb⟩:=(hElent b).1 hlb
     have:=hR.inj i' m b hb' hmb
     subst this
     obtain ⟨o,ho⟩:=hkey i' hm
     exact hnp o ho
    ·refine hk.block b ((hR.rep i).blk_lt hb).2 (fun hl=>?_)
     obtain ⟨m,hm,hmb⟩:=(hElent b).1 hl
     have:=hR.inj i m b hb hmb
     subst this
     exact hi (hkey i hm)
    ·obtain ⟨_,h2,h3⟩:=hA.ref i k (by rw [e];exact AV.refs_of_refsL hkr)
     by_cases hkL:∃o,(k,o)∈pairs ys outs
     ·obtain ⟨o,ho⟩:=hkL
      have h4:=h2 o ho
      rw [hA.new k o ho]
      refine ⟨rfl,fun _=>h4,fun b hb=>?_⟩
      obtain ⟨_,j,k1,k2,kb,ko,kf⟩:=hpair k o ho
      have hrk:=(hR.rep k).bare (S':=fun _=>True) (O':=fun _=>True) (s':=deadSt) (tm':=noTm) kb (fun _ _=>trivial) (fun _ _ _=>trivial)
      exact blk_inG kf h4.1 h4.2.2.2 hrk hb
     ·have h4:=h3 (fun o ho=>hkL ⟨o,ho⟩)
      exact ⟨rfl,fun h=>by rw [h4];exact ⟨h,rfl,rfl,rfl⟩,fun b hb=>by rw [h4];exact hb⟩
   ·rw [e];trivial
 have hbel:Kept S0.lent w0 w':=by
  refine ⟨hk.os.trans hR.below.os,hk.tape.trans hR.below.tape,hk.output.trans hR.below.output,Nat.le_trans hR.below.size hk.size,fun b hb hn=>?_⟩
  rw [hk.block b (Nat.lt_of_lt_of_le hb hR.below.size) (fun hl=>?_)]
  ·exact hR.below.block b hb hn
  ·rcases (hlentO b hl).1 with h | h
   ·omega
   ·exact hn h
 have hout1:∀i,n≤i→(s1 i).apart=true:=by
  intro i hi
  have hsi:=hR.out i hi
  by_cases hL:∃o,(i,o)∈pairs ys outs
  ·obtain ⟨o,ho⟩:=hL
   obtain ⟨_,_,_,_,_,hown,hf⟩:=hpair i o ho
   obtain ⟨_,_,_,_,e⟩:=apart_owner hsi hown
   rw [hA.new i o ho]
   rw [e] at hf
   cases o<;>first | rfl | (simp [outFitsG,outFits] at hf)
  ·rcases hA.old i (fun o ho=>hL ⟨o,ho⟩) with e | ⟨e,_⟩
   ·rw [e,hsi]
   ·rw [e];rfl
 have hXo:∀i b,blkOf (s1 i) (tmOf a i)=some b→¬r.blk v=some b:=by
  intro i b hb hrv
  exact (hafter b (hrb b hrv).1).2.2 i hb
 have hav:RepAV w' (fun b=>Shared S0 w0.heap.size w' s1 (tmOf a) b∧¬r.blk v=some b) (OwnB S0 w0.heap.size) s1 (tmOf a) r.av v:=by
  cases r with
  | x xv=>exact RepX.mono hr (fun b hb=>⟨hafter b hb,fun h=>by cases h⟩) (fun _ _=>rfl)
  | tup us=>exact ⟨hr.choose,hr.choose_spec.1,hr.choose_spec.2.1,fun j x hj=>let ⟨u,hu,hx⟩:=hr.choose_spec.2.2 j x hj;⟨u,hu,RepX.mono hx (fun b hb=>⟨hafter b hb,fun h=>by cases h⟩) (fun _ _=>rfl)⟩⟩
  | own e z xs =>
   obtain ⟨us,hown,hl',hx,hm,hB⟩:=hr
   refine ⟨us,hown,hl'.mono (fun b hb=>⟨hafter b hb.1,hb.2⟩) (fun _ _=>rfl),hx,hm,fun b hb=>?_⟩
   obtain ⟨h1,h2⟩:=hrb b hb
   rcases h1.1 with h | h | h
   ·exact absurd h h2
   ·exact (hlentO b h).1
   ·exact .inl (Nat.le_trans hR.below.size h.1)
 have hinj1:∀i j b,blkOf (s1 i) (tmOf a i)=some b→blkOf (s1 j) (tmOf a j)=some b→i=j:=by
  have mix:∀i j o b,(i,o)∈pairs ys outs→blkOf o (tmOf a i)=some b→(∀o,(j,o)∉pairs ys outs)→blkOf (s j) (tmOf a j)=some b→False:=by
   intro i j o b ho hb hno hj
   rcases hnew i o b ho hb with h | h
   ·obtain ⟨m,hm,hmb⟩:=(hElent b).1 h
    have:=hR.inj j m b hj hmb
    subst this
    obtain ⟨o',ho'⟩:=hkey j hm
    exact hno o' ho'
   ·have:=((hR.rep j).blk_lt hj).2;omega
  intro i j b hi hj
  rcases hblk1 i b hi with ⟨o,ho,hb⟩ | ⟨hno,hb⟩<;>rcases hblk1 j b hj with ⟨o',ho',hb'⟩ | ⟨hno',hb'⟩
  ·obtain ⟨k1,x1,e1,e2⟩:=pairs_mem ho
   obtain ⟨k2,x2,f1,f2⟩:=pairs_mem ho'
   obtain ⟨u1,hu1,_,_,_,rfl⟩:=hvs k1 _ e1
   obtain ⟨u2,hu2,_,_,_,rfl⟩:=hvs k2 _ f1
   have:=hinj k1 k2 o o' b e2 (by rw [tmV_some hu1];exact hb) f2 (by rw [tmV_some hu2];exact hb')
   subst this
   rw [e1] at f1
   simp only [Option.some.injEq,Prod.mk.injEq] at f1
   exact f1.2
  ·exact (mix i j o b ho hb hno' hb').elim
  ·exact (mix j i o' b ho' hb' hno hb).elim
  ·exact hR.inj i j b hb hb'
 refine Rel.put2 (X:=fun b=>r.blk v=some b) hd hR.pin hR.defers hR.size hbel hR.lt hrep hinj1 hout1 (hA.wf hR.wf) (fun j=>by cases r<;>rfl) hav (fun b hb=>?_) hXo
 cases r with
 | own e z xs=>exact hb
 | _=>cases hb
def posOf (i:Nat):List (AV×Option Nat)→Nat→Option Nat
 | [],_=>none
 | (_,some k)::l,j=>bif k==i then some j else posOf i l (j+1)
 | (_,none)::l,j=>posOf i l (j+1)
def trC (L:List (AV×Option Nat)):List (CV ⊕ (Nat×Nat))→Option (List (CV ⊕ (Nat×Nat)))
 | []=>some []
 | .inl c::r=>match trC L r with
  | some cs=>some (.inl c::cs)
  | none=>none
 | .inr (i,off)::r=>match posOf i L 0,trC L r with
  | some j,some cs=>some (.inr (j,off)::cs)
  | _,_=>none
def trA (L:List (AV×Option Nat)):AV→AV
 | .cloR f caps=>match trC L caps with
  | some cs=>.cloR f cs
  | none=>.dead
 | .ptr2 i off=>match posOf i L 0 with
  | some j=>.ptr2 j off
  | none=>.dead
 | a=>a
def trAs (L:List (AV×Option Nat)):List (AV×Option Nat)→List AV
 | []=>[]
 | y::r=>trA L y.1::trAs L r
theorem trAs_at (L:List (AV×Option Nat)):∀(l:List (AV×Option Nat)) (j:Nat),(trAs L l)[j]?=(l[j]?).map fun y=>trA L y.1
 | [],j=>by simp [trAs]
 | y::r,0=>rfl
 | y::r,j+1=>by simpa [trAs] using trAs_at L r j
def AV.toSlots:AV→List Nat
 | .cloR _ caps=>caps.filterMap capSlot
 | .ptr2 i _=>[i]
 | _=>[]
def addN (l:List Nat):List Nat→List Nat→List Nat
 | [],r=>r
 | i::t,r=>bif l.contains i then addN l t r else i::addN l t r
def needsIn (l:List Nat):List (AV×Option Nat)→List Nat
 | []=>[]
 | (x,_)::r=>addN l x.toSlots (needsIn l r)
def ghost (s:St) (xs:List (AV×Option Nat)):Option (Nat×List CV):=
 match needsIn (slotsOf xs) xs with
 | []=>none
 | i::_=>match s i with
  | .box cs=>some (i,cs)
  | _=>none
def callN (P:Program) (g:FuncId) (xs:List (AV×Option Nat)) (k:List (AV×Option Nat)→RV→List AV→Prop):Option (Nat×List CV)→Prop
 | none=>∃r outs,ACallsM P g (trAs xs xs) r outs∧k xs r outs
 | some (i,cs)=>(AV.box cs).told=true∧(slotsOf (xs++[(.box cs,some i)])).Nodup∧∃r outs co,(∀b,ACallsM P g (trAs (xs++[(.box cs,some i)]) xs++[.gbox b cs]) r (outs++[.gbox b co]))∧k (xs++[(.box cs,some i)]) r (outs++[.box co])
def callM (P:Program) (s:St) (c:Prop×Option (FuncId×List (AV×Option Nat))) (k:List (AV×Option Nat)→RV→List AV→Prop):Prop:=
 match c with
 | (p,some (g,xs))=>p∧noLinks xs=true∧(slotsOf xs).Nodup∧callN P g xs k (ghost s xs)
 | _=>False
def callF (P:Program) (s:St) (c:Prop×Option (FuncId×List (AV×Option Nat))) (zs:List (AV×Option Nat)) (r:RV) (outs:List AV):Prop:=
 match c with
 | (p,some (g,xs))=>p∧noLinks xs=true∧(slotsOf xs).Nodup∧((ghost s xs=none∧zs=xs∧ACallsM P g (trAs xs xs) r outs) ∨
   ∃i cs,ghost s xs=some (i,cs)∧zs=xs++[(.box cs,some i)]∧(AV.box cs).told=true∧(slotsOf zs).Nodup∧∃outs' co,outs=outs'++[.box co]∧∀b,ACallsM P g (trAs zs xs++[.gbox b cs]) r (outs'++[.gbox b co]))
 | _=>False
theorem callM_iff {P:Program} {s:St} {c:Prop×Option (FuncId×List (AV×Option Nat))} {k:List (AV×Option Nat)→RV→List AV→Prop}:callM P s c k↔∃zs r outs,callF P s c zs r outs∧k zs r outs:=by
 unfold callM callF
 obtain ⟨p,q⟩:=c
 cases q with
 | none=>exact ⟨fun h=>h.elim,fun ⟨_,_,_,h,_⟩=>h.elim⟩
 | some q =>
  obtain ⟨g,xs⟩:=q
  dsimp only
  cases hg:ghost s xs with
  | none =>
   constructor
   ·rintro ⟨h1,h2,h3,r,outs,h4,h5⟩
    exact ⟨xs,r,outs,⟨h1,h2,h3,.inl ⟨rfl,rfl,h4⟩⟩,h5⟩
   ·rintro ⟨zs,r,outs,⟨h1,h2,h3,⟨_,rfl,h4⟩ | ⟨i,cs,h,_⟩⟩,h5⟩
    ·exact ⟨h1,h2,h3,r,outs,h4,h5⟩
    ·cases h
  | some q =>
   obtain ⟨i,cs⟩:=q
   constructor
   ·rintro ⟨h1,h2,h3,h4,h5,r,outs,co,h6,h7⟩
    exact ⟨_,r,_,⟨h1,h2,h3,.inr ⟨i,cs,rfl,rfl,h4,h5,outs,co,rfl,h6⟩⟩,h7⟩
   ·rintro ⟨zs,r,outs,⟨h1,h2,h3,⟨h,_⟩ | ⟨i',cs',h,rfl,h4,h5,outs',co,rfl,h6⟩⟩,h7⟩
    ·cases h
    ·simp only [Option.some.injEq,Prod.mk.injEq] at h
     obtain ⟨rfl,rfl⟩:=h
     exact ⟨h1,h2,h3,h4,h5,r,outs',co,h6,h7⟩
theorem callM_mono {P:Program} {s:St} {c:Prop×Option (FuncId×List (AV×Option Nat))} {k k':List (AV×Option Nat)→RV→List AV→Prop} (h:callM P s c k) (hk:∀zs r outs,k zs r outs→k' zs r outs):callM P s c k':=by
 obtain ⟨zs,r,outs,h1,h2⟩:=callM_iff.1 h
 exact callM_iff.2 ⟨zs,r,outs,h1,hk _ _ _ h2⟩
theorem outsFit_mk:∀{args outs:List AV},args.length=outs.length→(∀(j:Nat) (a o:AV),args[j]?=some a→outs[j]?=some o→outFits a o=true)→outsFit args outs=true
 | [],[],_,_=>rfl
 | a::r,[],h,_=>by simp at h
 | [],o::q,h,_=>by simp at h
 | a::r,o::q,h,k=>by
  simp only [outsFit,Bool.and_eq_true]
  exact ⟨k 0 a o rfl rfl,outsFit_mk (by simpa using h) (fun j a' o' h1 h2=>k (j+1) a' o' (by simpa using h1) (by simpa using h2))⟩
theorem trAs_len (L:List (AV×Option Nat)):∀(l:List (AV×Option Nat)),(trAs L l).length=l.length
 | []=>rfl
 | _::r=>by simp [trAs,trAs_len L r]
theorem trA_fits {L:List (AV×Option Nat)} {x o:AV} (h:outFits (trA L x) o=true):outFits x o=true:=by
 cases x<;>first | exact h | skip
 ·simp only [trA] at h
  split at h
  ·cases o<;>first | rfl | (simp [outFits] at h)
  ·simp [outFits] at h
 ·simp only [trA] at h
  split at h
  ·cases o<;>first | rfl | (simp [outFits] at h)
  ·simp [outFits] at h
theorem callF_fits {P:Program} {s:St} {c:Prop×Option (FuncId×List (AV×Option Nat))} {zs:List (AV×Option Nat)} {r:RV} {outs:List AV} (h:callF P s c zs r outs):outsFit (zs.map (·.1)) outs=true∧(slotsOf zs).Nodup∧∃p g xs,c=(p,some (g,xs))∧(zs=xs∨∃i cs,ghost s xs=some (i,cs)∧zs=xs++[(.box cs,some i)]):=by
 have one:∀{L xs:List (AV×Option Nat)} {outs:List AV},outsFit (trAs L xs) outs=true→outsFit (xs.map (·.1)) outs=true:=by
  intro L xs outs h
  obtain ⟨h1,h2⟩:=outsFit_at h
  refine outsFit_mk (by simpa [trAs_len] using h1) (fun j a o ha ho=>?_)
  rw [List.getElem?_map] at ha
  cases hy:xs[j]? with
  | none=>rw [hy] at ha;cases ha
  | some y =>
   rw [hy] at ha
   injection ha with ha
   dsimp only at ha
   subst ha
   exact trA_fits (h2 j _ o (by rw [trAs_at,hy];rfl) ho)
 have app:∀{xs outs:List AV} {x o:AV},outsFit (xs++[x]) (outs++[o])=true→xs.length=outs.length→outsFit xs outs=true:=by
  intro xs
  induction xs with
  | nil=>intro outs x o _ h;cases outs with | nil=>rfl | cons _ _=>simp at h
  | cons y ys ih =>
   intro outs x o h hl
   cases outs with
   | nil=>simp at hl
   | cons q qs =>
    simp only [List.cons_append,outsFit,Bool.and_eq_true] at h ⊢
    exact ⟨h.1,ih h.2 (by simpa using hl)⟩
 have app2:∀{xs outs:List AV} {x o:AV},outsFit xs outs=true→outFits x o=true→outsFit (xs++[x]) (outs++[o])=true:=by
  intro xs
  induction xs with
  | nil=>intro outs x o h k;cases outs with | nil=>simp [outsFit,k] | cons _ _=>simp [outsFit] at h
  | cons y ys ih =>
   intro outs x o h k
   cases outs with
   | nil=>simp [outsFit] at h
   | cons q qs =>
    simp only [List.cons_append,outsFit,Bool.and_eq_true] at h ⊢
    exact ⟨h.1,ih h.2 k⟩
 unfold callF at h
 split at h
 ·rename_i p g xs
  obtain ⟨_,_,h3,⟨_,rfl,h4⟩ | ⟨i,cs,hg,rfl,_,h5,outs',co,rfl,h6⟩⟩:=h
  ·exact ⟨one h4.2.1,h3,p,g,_,rfl,.inl rfl⟩
  ·refine ⟨?_,h5,p,g,xs,rfl,.inr ⟨i,cs,hg,rfl⟩⟩
   have hf:=(h6 0).2.1
   have hl:(trAs (xs++[(AV.box cs,some i)]) xs).length=outs'.length:=by
    have:=(outsFit_at hf).1
    simpa using this
   rw [List.map_append]
   exact app2 (one (app hf hl)) rfl
 ·exact h.elim
theorem posOf_spec {i:Nat}:∀{L:List (AV×Option Nat)} {k j:Nat},posOf i L k=some j→k≤j∧∃x,L[j-k]?=some (x,some i)
 | [],k,j,h=>by cases h
 | (x,none)::l,k,j,h=>by
  obtain ⟨h1,y,h2⟩:=posOf_spec (L:=l) h
  refine ⟨by omega,y,?_⟩
  rw [show j-k=(j-(k+1))+1 by omega]
  simpa using h2
 | (x,some m)::l,k,j,h=>by
  simp only [posOf] at h
  cases hm:m==i with
  | true =>
   rw [hm] at h
   simp only [cond_true,Option.some.injEq] at h
   subst h
   rw [beq_iff_eq] at hm
   subst hm
   exact ⟨Nat.le_refl _,x,by simp⟩
  | false =>
   rw [hm] at h
   obtain ⟨h1,y,h2⟩:=posOf_spec (L:=l) h
   refine ⟨by omega,y,?_⟩
   rw [show j-k=(j-(k+1))+1 by omega]
   simpa using h2
theorem trC_spec {L:List (AV×Option Nat)}:∀{caps cs:List (CV ⊕ (Nat×Nat))},trC L caps=some cs→cs.length=caps.length∧∀(m:Nat) (c:CV ⊕ (Nat×Nat)),cs[m]?=some c →
  (∃x,c=.inl x∧caps[m]?=some (.inl x))∨∃i j off x,c=.inr (j,off)∧caps[m]?=some (.inr (i,off))∧L[j]?=some (x,some i)
 | [],cs,h=>by
  simp only [trC,Option.some.injEq] at h
  subst h
  exact ⟨rfl,fun m c hm=>by simp at hm⟩
 | .inl x::r,cs,h=>by
  simp only [trC] at h
  split at h
  ·rename_i cs' e
   injection h with h
   subst h
   obtain ⟨h1,h2⟩:=trC_spec e
   refine ⟨by simp [h1],fun m c hm=>?_⟩
   cases m with
   | zero=>simp at hm;subst hm;exact .inl ⟨x,rfl,rfl⟩
   | succ m=>simp at hm;simpa using h2 m c hm
  ·cases h
 | .inr (i,off)::r,cs,h=>by
  simp only [trC] at h
  split at h
  ·rename_i j cs' e1 e
   injection h with h
   subst h
   obtain ⟨h1,h2⟩:=trC_spec e
   refine ⟨by simp [h1],fun m c hm=>?_⟩
   cases m with
   | zero =>
    simp at hm;subst hm
    obtain ⟨_,x,hx⟩:=posOf_spec e1
    exact .inr ⟨i,j,off,x,rfl,rfl,by simpa using hx⟩
   | succ m=>simp at hm;simpa using h2 m c hm
  ·cases h
theorem fnM_ok (hR:Rel S0 w0 n s a w) {v:AV} {u:Value} {g:FuncId} {caps:List (AV×Option Nat)} (h:RepIn S0 w0 s a w v u) (hf:fnM s v=some (g,caps)) :
  ∃us:Array Value,u=.func (.func g) #[] us∧us.size=caps.length∧∀(j:Nat) (y:AV×Option Nat),caps[j]?=some y→∃x,us[j]?=some x∧IsArg S0 w0 s a w y x:=by
 have plain:∀{q:FuncId×List XV},fnOf v=some q→g=q.1→caps=q.2.map (fun x=>(AV.x x,none))→∃us:Array Value,u=.func (.func g) #[] us∧us.size=caps.length∧∀(j:Nat) (y:AV×Option Nat),caps[j]?=some y→∃x,us[j]?=some x∧IsArg S0 w0 s a w y x:=by
  rintro ⟨g',xs⟩ hq rfl rfl
  obtain ⟨us,h1,h2,h3⟩:=fnOf_ok h hq
  refine ⟨us,h1,by simp [h2],fun j y hj=>?_⟩
  rw [List.getElem?_map] at hj
  cases hx:xs[j]? with
  | none=>rw [hx] at hj;cases hj
  | some x =>
   rw [hx] at hj
   injection hj with hj
   subst hj
   obtain ⟨z,hz,hr⟩:=h3 j x hx
   exact ⟨z,hz,.inl ⟨x,rfl⟩,hr⟩
 cases v with
 | cloR f cs =>
  obtain ⟨us,rfl,hl,hc⟩:=h
  simp only [fnM] at hf
  cases hcm:capMs s cs with
  | none=>rw [hcm] at hf;cases hf
  | some ys =>
   rw [hcm] at hf
   simp only [Option.map_some,Option.some.injEq,Prod.mk.injEq] at hf
   obtain ⟨rfl,rfl⟩:=hf
   obtain ⟨h1,h2⟩:=capMs_ok (us:=us.toList) hR (by simpa using hl) (fun j c hj=>by simpa using hc j c hj) hcm
   exact ⟨us,rfl,by simpa using h1.symm,fun j y hj=>by simpa using h2 j y hj⟩
 | _ =>
  simp only [fnM] at hf
  cases hq:fnOf _ with
  | none=>rw [hq] at hf;cases hf
  | some q =>
   rw [hq] at hf
   simp only [Option.map_some,Option.some.injEq,Prod.mk.injEq] at hf
   exact plain hq hf.1.symm hf.2.symm
structure Args (S0:Env) (w0:World) (s:St) (a:Act) (w:World) (zs:List (AV×Option Nat)) (vz:Array Value) (args:List AV) (vs:Array Value):Prop where
 val:∀(j:Nat) (y:AV×Option Nat),zs[j]?=some y→∃u,vz[j]?=some u∧IsArg S0 w0 s a w y u
 len:args.length=zs.length
 size:vs.size≤zs.length
 at_:∀(j:Nat) (y:AV×Option Nat),zs[j]?=some y→(args[j]?=some (trA zs y.1)∧tmV vs j=tmV vz j)∨(∃cs b,y.1=.box cs∧args[j]?=some (.gbox b cs)∧tmV vz j=.pointer (some ⟨b,0,none⟩)) ∨
  (∃g e z xs,(y.1=.own e z xs∨∃g',y.1=.gown g' e z xs)∧args[j]?=some (.gown g e z xs)∧g=y.1.valOf (tmV vz j))
theorem Args.rep (hR:Rel S0 w0 n s a w) {zs:List (AV×Option Nat)} {vz:Array Value} {args:List AV} {vs:Array Value} (h:Args S0 w0 s a w zs vz args vs) (hnd:(slotsOf zs).Nodup) {E:Env} (hErd:E.rd=Shared S0 w0.heap.size w s (tmOf a)) (hElent:∀b,E.lent b↔∃i,i∈slotsOf zs∧blkOf (s i) (tmOf a i)=some b):RepMs w E args vs:=by
 have hslot:∀{i j:Nat} {x:AV},zs[j]?=some (x,some i)→∃y,args[j]?=some y∧(y.isOwner=true∧argOk args y=true)∧(∀b,blkOf (s i) (tmOf a i)=some b↔blkOf y (tmV vs j)=some b)∧RepAV w E.rd E.lent (argSt args) (tmV vs) y (tmV vs j):=by
  intro i j x hj
  obtain ⟨u,hu,hs,hbr,hown,hut⟩:=h.val j _ hj
  dsimp only at hs hbr hown
  have huv:tmV vz j=tmOf a i:=by rw [tmV_some hu,hut]
  have hrep:=hR.rep i
  have hl:∀b,blkOf (s i) (tmOf a i)=some b→E.lent b:=fun b hb=>(hElent b).2 ⟨i,mem_slots hj,hb⟩
  rcases h.at_ j _ hj with ⟨h1,h2⟩ | ⟨cs,b',h1,h2,h3⟩ | ⟨g,e,z,xs',h1,h2,h3⟩
  ·have:trA zs x=x:=by cases x<;>first | rfl | (simp [AV.bare] at hbr)
   dsimp only at h1
   rw [this] at h1
   refine ⟨x,h1,⟨hown,argOk_bare hbr⟩,fun b=>by rw [h2,huv,hs],?_⟩
   rw [h2,huv,←hs]
   rw [←hs] at hbr
   exact hrep.bare hbr (fun b hb=>by rw [hErd];exact hb) (fun b hb _=>hl b hb)
  ·dsimp only at h1
   rw [huv] at h3
   rw [hs,h1,h3] at hrep hl
   refine ⟨_,h2,⟨rfl,rfl⟩,fun b=>by rw [hs,h1,h3];rfl,?_⟩
   obtain ⟨b2,arr,t,e,hh,hrl,hO⟩:=hrep
   obtain rfl:b2=b':=by simpa using e.symm
   exact ⟨arr,t,hh,hrl.mono (fun b hb=>by rw [hErd];exact hb) (fun _ _=>rfl),hl _ rfl⟩
  ·dsimp only at h1 h3
   rw [huv] at h3
   refine ⟨_,h2,⟨rfl,rfl⟩,fun b=>?_,?_⟩
   ·rw [hs]
    rcases h1 with h1 | ⟨g',h1⟩
    ·rw [h1] at h3 ⊢
     rw [h3];exact Iff.rfl
    ·rw [h1] at h3 ⊢
     rw [h3];exact Iff.rfl
   ·rw [hs] at hrep hl
    rcases h1 with h1 | ⟨g',h1⟩
    ·rw [h1] at h3 hrep hl
     obtain rfl:g=tmOf a i:=h3
     obtain ⟨us,hown',hrl,hx,hm,hO⟩:=hrep
     exact ⟨us,hown',hrl.mono (fun b hb=>by rw [hErd];exact hb) (fun _ _=>rfl),hx,hm,fun b hb=>hl b hb⟩
    ·rw [h1] at h3 hrep hl
     obtain rfl:g=g':=h3
     obtain ⟨us,hown',hrl,hx,hm,hO⟩:=hrep
     exact ⟨us,hown',hrl.mono (fun b hb=>by rw [hErd];exact hb) (fun _ _=>rfl),hx,hm,fun b hb=>hl b hb⟩
 have hbox:∀{i j:Nat} {x:AV} {b:Nat},zs[j]?=some (x,some i)→blkOf (s i) (tmOf a i)=some b→(argSt args j).isOwner=true∧blkOf (argSt args j) (tmV vs j)=some b:=by
  intro i j x b hj hb
  obtain ⟨y,h1,h2,h3,_⟩:=hslot hj
  have e:argSt args j=y:=by unfold argSt;rw [h1];rfl
  rw [e]
  exact ⟨h2.1,(h3 b).1 hb⟩
 have hsome:∀{j:Nat} {x:AV},args[j]?=some x→∃y,zs[j]?=some y:=fun hj=>⟨_,List.getElem?_eq_getElem (by rw [←h.len];exact (List.getElem?_eq_some_iff.1 hj).1)⟩
 have hflat:∀{j:Nat} {x y:AV} {u:Value},zs[j]?=some (y,none)→args[j]?=some x→blkOf x u=none:=by
  intro j x y u hy hx
  obtain ⟨u',hu,hi⟩:=h.val j _ hy
  rcases h.at_ j _ hy with ⟨h1,_⟩ | ⟨cs,b,h1,_⟩ | ⟨g,e,z,xs',h1,_⟩
  ·rw [h1] at hx
   injection hx with hx
   subst hx
   rcases hi.1 with ⟨xv,hx⟩ | hx
   ·dsimp only at hx ⊢
    rw [hx];rfl
   ·dsimp only at hx ⊢
    cases y<;>first | (cases hx;done) | skip
    ·simp only [trA];split<;>rfl
    ·simp only [trA];split<;>rfl
  ·rcases hi.1 with ⟨xv,hx⟩ | hx
   ·rw [h1] at hx;cases hx
   ·rw [h1] at hx;cases hx
  ·dsimp only at h1
   rcases hi.1 with ⟨xv,hx⟩ | hx<;>dsimp only at hx
   ·rw [hx] at h1;rcases h1 with h1 | ⟨_,h1⟩<;>cases h1
   ·rcases h1 with h1 | ⟨_,h1⟩<;>rw [h1] at hx<;>cases hx
 have hslot':∀{j:Nat} {x:AV} {b:Nat},args[j]?=some x→blkOf x (tmV vs j)=some b→∃i y,zs[j]?=some (y,some i)∧blkOf (s i) (tmOf a i)=some b:=by
  intro j x b hj hb
  obtain ⟨⟨y,q⟩,hy⟩:=hsome hj
  cases q with
  | none=>rw [hflat hy hj] at hb;cases hb
  | some i =>
   obtain ⟨y',h1,_,h3,_⟩:=hslot hy
   rw [hj] at h1
   injection h1 with h1
   subst h1
   exact ⟨i,y,hy,(h3 b).2 hb⟩
 refine ⟨by rw [h.len];exact h.size,fun j x hj=>?_,fun i j x y b h1 h3 h4 h6=>?_,fun b hb=>?_⟩
 ·obtain ⟨⟨y,q⟩,hy⟩:=hsome hj
  cases q with
  | some i =>
   obtain ⟨y',h1,h2,_,h4⟩:=hslot hy
   rw [hj] at h1
   injection h1 with h1
   subst h1
   exact ⟨h2.2,h4⟩
  | none =>
   obtain ⟨u,hu,hi⟩:=h.val j _ hy
   rcases h.at_ j _ hy with ⟨h1,h2⟩ | ⟨cs,b,h1,_⟩ | ⟨g,e,z,xs',h1,_⟩
   ·rw [h1] at hj
    injection hj with hj
    subst hj
    rw [h2,tmV_some hu]
    obtain ⟨hk,hr⟩:=hi
    dsimp only at hk hr ⊢
    rcases hk with ⟨xv,hx⟩ | hx
    ·subst hx
     exact ⟨rfl,RepX.mono hr (fun b hb=>by rw [hErd];exact hb) (fun _ _=>rfl)⟩
    ·cases y<;>first | (cases hx;done) | skip
     ·rename_i f caps
      simp only [trA]
      cases hc:trC zs caps with
      | none=>exact ⟨rfl,trivial⟩
      | some cs =>
       obtain ⟨us,hv,hl,hcap⟩:=hr
       obtain ⟨k1,k2⟩:=trC_spec hc
       have hown:∀{i:Nat} {off:Nat} {u':Value},CapRep w (Shared S0 w0.heap.size w s (tmOf a)) s (tmOf a) (.inr (i,off)) u'→∃b,blkOf (s i) (tmOf a i)=some b:=by
        intro i off u' hc
        rw [capRep_inr] at hc
        split at hc
        ·obtain ⟨b,_,e⟩:=hc;exact ⟨b,e⟩
        ·obtain ⟨_,b,_,_,_,e⟩:=hc;exact ⟨b,e⟩
       refine ⟨?_,us,hv,by rw [hl,k1],fun m c hm=>?_⟩
       ·simp only [argOk]
        rw [List.all_eq_true]
        intro c hc'
        obtain ⟨m,hm⟩:=List.getElem?_of_mem hc'
        rcases k2 m c hm with ⟨x,rfl,_⟩ | ⟨i,j',off,x,rfl,hm2,hz⟩
        ·rfl
        ·obtain ⟨u',_,hu'⟩:=hcap m _ hm2
         obtain ⟨b,hb⟩:=hown hu'
         exact (hbox hz hb).1
       ·rcases k2 m c hm with ⟨x,rfl,hm2⟩ | ⟨i,j',off,x,rfl,hm2,hz⟩
        ·obtain ⟨u',h5,h6⟩:=hcap m _ hm2
         exact ⟨u',h5,RepC.mono h6 (fun b hb=>by rw [hErd];exact hb) (fun _ _=>rfl)⟩
        ·obtain ⟨u',h5,h6⟩:=hcap m _ hm2
         refine ⟨u',h5,?_⟩
         rw [capRep_inr] at h6 ⊢
         split at h6
         ·rename_i hi
          rw [if_pos hi]
          obtain ⟨b,e1,e2⟩:=h6
          exact ⟨b,e1,(hbox hz e2).2⟩
         ·rename_i hi
          rw [if_neg hi]
          obtain ⟨b1,b,e1,e2,e3,e4⟩:=h6
          exact ⟨b1,b,e1,by rw [hErd];exact e2,e3,(hbox hz e4).2⟩
     ·rename_i i off
      simp only [trA]
      cases hc:posOf i zs 0 with
      | none=>exact ⟨rfl,trivial⟩
      | some j' =>
       obtain ⟨_,x,hz⟩:=posOf_spec hc
       obtain ⟨b1,b,e1,e2,e3,e4⟩:=hr
       exact ⟨(hbox hz e4).1,b1,b,e1,by rw [hErd];exact e2,e3,(hbox hz e4).2⟩
   ·rcases hi.1 with ⟨xv,hx⟩ | hx
    ·rw [h1] at hx;cases hx
    ·rw [h1] at hx;cases hx
   ·dsimp only at h1
    rcases hi.1 with ⟨xv,hx⟩ | hx<;>dsimp only at hx
    ·rw [hx] at h1;rcases h1 with h1 | ⟨_,h1⟩<;>cases h1
    ·rcases h1 with h1 | ⟨_,h1⟩<;>rw [h1] at hx<;>cases hx
 ·obtain ⟨i1,y1,e1,e2⟩:=hslot' h1 h3
  obtain ⟨i2,y2,f1,f2⟩:=hslot' h4 h6
  have:=hR.inj i1 i2 b e2 f2
  subst this
  exact slot_inj hnd e1 f1
 ·obtain ⟨i,hi,hb'⟩:=(hElent b).1 hb
  unfold slotsOf at hi
  rw [List.mem_filterMap] at hi
  obtain ⟨⟨x,q⟩,hm,hq⟩:=hi
  dsimp only at hq
  subst hq
  obtain ⟨j,hj⟩:=List.getElem?_of_mem hm
  obtain ⟨y,h1,_,h3,_⟩:=hslot hj
  exact ⟨j,y,h1,(h3 b).1 hb'⟩
structure OutsAre (zs:List (AV×Option Nat)) (vz:Array Value) (args:List AV) (vs:Array Value) (outs outsC:List AV):Prop where
 len:outs.length=outsC.length
 at_:∀(j:Nat) (o:AV) (y:AV×Option Nat),outs[j]?=some o→zs[j]?=some y→(outsC[j]?=some o∧args[j]?=some (trA zs y.1)∧tmV vs j=tmV vz j) ∨
  (∃cs b co,y.1=.box cs∧args[j]?=some (.gbox b cs)∧tmV vz j=.pointer (some ⟨b,0,none⟩)∧o=.box co∧outsC[j]?=some (.gbox b co))
theorem callM_core (hR:Rel S0 w0 n s a w) {g:FuncId} {zs:List (AV×Option Nat)} {vz:Array Value} {args:List AV} {vs:Array Value} {r:RV} {outs outsC:List AV} {d:Nat} (hA:Args S0 w0 s a w zs vz args vs) (hnd:(slotsOf zs).Nodup) (hnl:noLinks zs=true)
  (hC:ACallsM P g args r outsC) (hO:OutsAre zs vz args vs outs outsC) (hd:S0.m≤d∧d<n) :
  Calls P g vs w fun e w'=>∃v,e=.returned v∧Rel S0 w0 n (Ab.put (setOuts s zs outs) d r.av) (a.put (some d) v) w':=by
 obtain ⟨_,hfit,hcalls⟩:=hC
 obtain ⟨hl1,hfa⟩:=outsFit_at hfit
 have hzl:zs.length=outs.length:=by rw [hO.len,←hl1,hA.len]
 let E:Env:=⟨Shared S0 w0.heap.size w s (tmOf a),fun b=>∃i,i∈slotsOf zs∧blkOf (s i) (tmOf a i)=some b,0,fun _=>undef⟩
 have hE:Base E w:=by
  refine ⟨fun b hb=>hb.2.1,fun b ⟨i,_,hi⟩=>((hR.rep i).blk_lt hi).2,fun b hb ⟨i,_,hi⟩=>hb.2.2 i hi,hR.lt.amb' hR.below,fun b hb ⟨i,_,hi⟩=>?_⟩
  rcases ((hR.rep i).blk_lt hi).1 with h | h
  ·have:=Amb.lt hR.lt.amb hb;omega
  ·exact hR.lt.far b hb h
 have hfit':outsFit (zs.map (·.1)) outs=true:=by
  refine outsFit_mk (by simpa using hzl) (fun j x o h1 h2=>?_)
  rw [List.getElem?_map] at h1
  cases hy:zs[j]? with
  | none=>rw [hy] at h1;cases h1
  | some y =>
   rw [hy] at h1
   injection h1 with h1
   dsimp only at h1
   rcases hO.at_ j o y h2 hy with ⟨k1,k2,_⟩ | ⟨cs,b,co,k1,_,_,rfl,_⟩
   ·have:=hfa j _ o k2 k1
    rw [h1] at this
    cases x<;>first | exact this | skip
    ·simp only [trA] at this
     split at this
     ·cases o<;>first | rfl | (simp [outFits] at this)
     ·simp [outFits] at this
    ·simp only [trA] at this
     split at this
     ·cases o<;>first | rfl | (simp [outFits] at this)
     ·simp [outFits] at this
   ·rw [←h1,k1];rfl
 have howned:∀b,Owned outsC vs b↔Owned outs vz b:=by
  have hz:∀{j:Nat} {o:AV},outs[j]?=some o→∃y,zs[j]?=some y:=fun h=>⟨_,List.getElem?_eq_getElem (by rw [hzl];exact (List.getElem?_eq_some_iff.1 h).1)⟩
  refine fun b=>⟨fun ⟨j,oC,h1,h2⟩=>?_,fun ⟨j,o,h1,h2⟩=>?_⟩
  ·obtain ⟨o,ho⟩:∃o,outs[j]?=some o:=⟨_,List.getElem?_eq_getElem (by rw [hO.len];exact (List.getElem?_eq_some_iff.1 h1).1)⟩
   obtain ⟨y,hy⟩:=hz ho
   refine ⟨j,o,ho,?_⟩
   rcases hO.at_ j o y ho hy with ⟨k1,_,k3⟩ | ⟨cs,b',co,_,_,k3,rfl,k5⟩
   ·rw [h1] at k1
    injection k1 with k1
    rw [←k1,←k3];exact h2
   ·rw [h1] at k5
    injection k5 with k5
    subst k5
    rw [k3];exact h2
  ·obtain ⟨y,hy⟩:=hz h1
   rcases hO.at_ j o y h1 hy with ⟨k1,_,k3⟩ | ⟨cs,b',co,_,_,k3,rfl,k5⟩
   ·exact ⟨j,o,k1,by rw [k3];exact h2⟩
   ·rw [k3] at h2
    exact ⟨j,_,k5,h2⟩
 have haft:∀w',After w w' E outsC vs=After w w' E outs vz:=by
  intro w'
  funext b
  simp only [After,howned b]
 refine (hcalls w E vs hE (hA.rep hR hnd rfl (fun b=>Iff.rfl))).mono ?_
 rintro e w' ⟨v,rfl,hkept,hr,hrb,hout⟩
 rw [haft w'] at hr hrb hout
 refine ⟨v,rfl,?_⟩
 have hAs:AfterSt s (setOuts s zs outs) (pairs zs outs):=by
  refine setOuts_after zs outs s hR.wf hnd hzl (fun j x i o h1 h2=>?_)
  obtain ⟨u,hu,hs,hb,ho,_⟩:=hA.val j _ h1
  dsimp only at hs hb ho
  subst hs
  have hf:=(outsFit_at hfit').2 j _ o (by rw [List.getElem?_map,h1];rfl) h2
  refine ⟨outFitsG_of hf,ho,?_⟩
  revert hf
  dsimp only
  generalize s i=z
  intro hf
  cases z<;>cases o<;>first | rfl | (simp [outFits] at hf)
 have hvz:∀{j:Nat} {o:AV} {b:Nat},outs[j]?=some o→blkOf o (tmV vz j)=some b→∃i x,zs[j]?=some (x,some i)∧blkOf (s i) (tmOf a i)=some b:=by
  intro j o b h1 h2
  obtain ⟨⟨x,q⟩,hy⟩:∃y,zs[j]?=some y:=⟨_,List.getElem?_eq_getElem (by rw [hzl];exact (List.getElem?_eq_some_iff.1 h1).1)⟩
  have hf:=(outsFit_at hfit').2 j x o (by rw [List.getElem?_map,hy];rfl) h1
  obtain ⟨u,hu,hq⟩:=hA.val j _ hy
  cases q with
  | none =>
   have:o=.dead:=by
    rcases hq.1 with ⟨xv,hx⟩ | hx
    ·dsimp only at hx
     subst hx
     cases o<;>first | rfl | (simp [outFits] at hf)
    ·cases x<;>first | (cases hx;done) | (cases o<;>first | rfl | (simp [outFits] at hf))
   rw [this] at h2;cases h2
  | some i =>
   obtain ⟨hs,hb,ho,rfl⟩:=hq
   dsimp only at hs
   rw [tmV_some hu] at h2
   refine ⟨i,x,hy,?_⟩
   subst hs
   exact blk_out hf (hR.rep i) h2
 have hinj:∀(i j:Nat) (x y:AV) (b:Nat),outs[i]?=some x→blkOf x (tmV vz i)=some b→outs[j]?=some y→blkOf y (tmV vz j)=some b→i=j:=by
  intro i j x y b h1 h2 h3 h4
  obtain ⟨i1,x1,e1,e2⟩:=hvz h1 h2
  obtain ⟨i2,x2,f1,f2⟩:=hvz h3 h4
  have:=hR.inj i1 i2 b e2 f2
  subst this
  exact slot_inj hnd e1 f1
 refine hR.lentBack hd hA.val hzl (fun j x o h1 h2=>outFitsG_of ((outsFit_at hfit').2 j x.1 o (by rw [List.getElem?_map,h1];rfl) h2)) (fun j i off d hl hi=>?_) hinj rfl (fun b=>Iff.rfl) hkept hr hrb (fun j o ho=>?_) hAs
 ·obtain ⟨_,cs2,b2,k1,k2,_⟩:=(hR.rep j).link_spec hl
  unfold slotsOf at hi
  rw [List.mem_filterMap] at hi
  obtain ⟨⟨x,q⟩,hm,hq⟩:=hi
  dsimp only at hq
  subst hq
  obtain ⟨j',hj'⟩:=List.getElem?_of_mem hm
  obtain ⟨u,hu,hs,_⟩:=hA.val j' _ hj'
  dsimp only at hs
  have ht:=List.all_eq_true.1 hnl _ hm
  dsimp only at ht
  rw [←hs] at ht
  exact told_anyC k1 ht k2
 obtain ⟨y,hy⟩:∃y,zs[j]?=some y:=⟨_,List.getElem?_eq_getElem (by rw [hzl];exact (List.getElem?_eq_some_iff.1 ho).1)⟩
 rcases hO.at_ j o y ho hy with ⟨k1,_,k3⟩ | ⟨cs,b',co,_,_,k3,rfl,k5⟩
 ·rw [←k3]
  have:=hout j o k1
  refine this.bare ?_ (fun _ h=>h) (fun b _ h=>.inl h)
  have hf:=(outsFit_at hfit').2 j y.1 o (by rw [List.getElem?_map,hy];rfl) ho
  revert hf
  generalize y.1=z
  intro hf
  cases z<;>cases o<;>first | rfl | (simp [outFits] at hf)
 ·rw [k3]
  obtain ⟨arr,t,hh,hl,hB⟩:=hout j _ k5
  exact ⟨b',arr,t,rfl,hh,hl,.inl hB⟩
theorem ghost_slot {s:St} {xs:List (AV×Option Nat)} {i:Nat} {cs:List CV} (h:ghost s xs=some (i,cs)):s i=.box cs:=by
 unfold ghost at h
 split at h
 ·cases h
 ·split at h
  ·rename_i hs
   simp only [Option.some.injEq,Prod.mk.injEq] at h
   obtain ⟨rfl,rfl⟩:=h
   exact hs
  ·cases h
theorem callM_ok (hR:Rel S0 w0 n s a w) {f:Operand} {args:Array Operand} {d:Nat} {K:St→Prop} (hc:callM P s (calleeM s f args.toList) (fun xs r outs=>d<n∧K (Ab.put (setOuts s xs outs) d r.av)))
  {o:Oper} (ho:∃ts,o.op=.call { callee:=.value f,args:=args,argTypes:=ts }) (hdst:o.dst=some d) (hdm:S0.m≤d) {K':Act→World→Prop} {Q:Exit→Act→World→Prop}
  (hK:∀s' a' w',Rel S0 w0 n s' a' w'→K s'→K' a' w'):o.wp P a w K' Q:=by
 obtain ⟨ts,hop⟩:=ho
 unfold callM at hc
 split at hc
 ·rename_i pp g ys e0
  obtain ⟨hpp,hnlk,hnd,hcn⟩:=hc
  obtain ⟨caps,xs,p,q,fv,ef,e2,e1,rfl,rfl⟩:∃caps xs p q fv,sv s f=(p,fv)∧argMs s args.toList=(q,some xs)∧fnM s fv=some (g,caps)∧pp=(p∧q)∧ys=xs++caps:=by
   unfold calleeM at e0
   split at e0
   ·rename_i p fv q xs ef e2
    split at e0
    ·rename_i g' caps e1
     simp only [Prod.mk.injEq,Option.some.injEq] at e0
     obtain ⟨rfl,rfl,rfl⟩:=e0
     exact ⟨caps,xs,p,q,fv,ef,e2,e1,rfl,rfl⟩
    ·simp at e0
   ·simp at e0
  obtain ⟨hpf,hp⟩:=hpp
  have hsvf:=hR.sv f (by rw [ef];exact hpf)
  rw [ef] at hsvf
  obtain ⟨us,hfv,hul,hcap⟩:=fnM_ok hR hsvf e1
  obtain ⟨hal,harg⟩:=argMs_ok hR e2 hp
  have hm:args.map a.eval=(args.toList.map a.eval).toArray:=by apply Array.ext';simp
  have hvs:∀(j:Nat) (y:AV×Option Nat),(xs++caps)[j]?=some y→∃u,((args.toList.map a.eval).toArray++us)[j]?=some u∧IsArg S0 w0 s a w y u:=by
   intro j y hj
   by_cases hlt:j<xs.length
   ·rw [List.getElem?_append_left hlt] at hj
    obtain ⟨u,hu,hi⟩:=harg j y hj
    refine ⟨u,?_,hi⟩
    rw [Array.getElem?_append_left (by simp [←hal];exact hlt)]
    simpa using hu
   ·rw [List.getElem?_append_right (by omega)] at hj
    obtain ⟨u,hu,hi⟩:=hcap _ y hj
    refine ⟨u,?_,hi⟩
    rw [Array.getElem?_append_right (by simp [←hal];omega)]
    simpa [hal] using hu
  have hsz:((args.toList.map a.eval).toArray++us).size=(xs++caps).length:=by simp [hal,hul]
  have fin:Callable P g→(Calls P g ((args.toList.map a.eval).toArray++us) w fun e w'=>∃v s',e=.returned v∧K s'∧Rel S0 w0 n s' (a.put (some d) v) w')→o.wp P a w K' Q:=by
   rintro ⟨fn,hfn,hname,hbody⟩ hcalls
   have hrun:(execOp a.eval o).run P w=.ok (.enter g (args.map a.eval++us)) w:=by
    simp only [execOp,hop,resolve,hfv,Deferred.ofValue,Sem.run_bind,Sem.run_pure,Result.andThen_ok,invoke,callFunc,run_program,hfn,hname,hbody,Bool.false_eq_true,if_false]
    simp
   unfold Oper.wp
   rw [hrun]
   simp only [Oper.upon]
   rw [hm,hdst]
   refine hcalls.mono ?_
   rintro e w' ⟨v,s',rfl,hk,hR'⟩
   exact hK _ _ _ hR' hk
  generalize ((args.toList.map a.eval).toArray++us)=vs at hvs hsz fin
  generalize xs++caps=ys at hvs hsz hnlk hnd hcn
  cases hgh:ghost s ys with
  | none =>
   rw [hgh] at hcn
   obtain ⟨r,outs,hC,hd,hk⟩:=hcn
   have hA:Args S0 w0 s a w ys vs (trAs ys ys) vs:=⟨hvs,by
    have h1:∀(L l:List (AV×Option Nat)),(trAs L l).length=l.length:=fun L l=>by induction l<;>simp_all [trAs]
    exact h1 _ _,by omega,fun j y hy=>.inl ⟨by rw [trAs_at,hy];rfl,rfl⟩⟩
   refine fin hC.1 ((callM_core hR hA hnd hnlk hC ⟨rfl,fun j o y h1 h2=>.inl ⟨h1,by rw [trAs_at,h2];rfl,rfl⟩⟩ ⟨hdm,hd⟩).mono ?_)
   rintro e w' ⟨v,rfl,hR'⟩
   exact ⟨v,_,rfl,hk,hR'⟩
  | some q =>
   obtain ⟨i,cs⟩:=q
   have hsi:=ghost_slot hgh
   rw [hgh] at hcn
   obtain ⟨hst,hnd',r,outs,co,hC,hd,hk⟩:=hcn
   have hrep:=hR.rep i
   rw [hsi] at hrep
   obtain ⟨b,arr,t,htm,hh,hl,hB⟩:=hrep
   have hCb:=hC b
   have h1:∀(L l:List (AV×Option Nat)),(trAs L l).length=l.length:=fun L l=>by induction l<;>simp_all [trAs]
   have hzv:∀(j:Nat) (y:AV×Option Nat),(ys++[(AV.box cs,some i)])[j]?=some y→∃u,(vs.push (tmOf a i))[j]?=some u∧IsArg S0 w0 s a w y u:=by
    intro j y hj
    by_cases hlt:j<ys.length
    ·rw [List.getElem?_append_left hlt] at hj
     obtain ⟨u,hu,hi⟩:=hvs j y hj
     exact ⟨u,by rw [Array.getElem?_push_lt (by omega)];rw [Array.getElem?_eq_getElem (by omega)] at hu;exact hu,hi⟩
    ·rw [List.getElem?_append_right (by omega)] at hj
     have hj0:j-ys.length=0:=by
      have:=(List.getElem?_eq_some_iff.1 hj).1
      simp at this;omega
     rw [hj0] at hj
     simp only [List.getElem?_cons_zero,Option.some.injEq] at hj
     subst hj
     refine ⟨tmOf a i,?_,hsi,rfl,rfl,rfl⟩
     rw [show j=vs.size by omega]
     simp
   have hcase:∀(j:Nat) (y:AV×Option Nat),(ys++[(AV.box cs,some i)])[j]?=some y→(j<ys.length∧ys[j]?=some y)∨(j=ys.length∧y=(.box cs,some i)):=by
    intro j y hj
    by_cases hlt:j<ys.length
    ·rw [List.getElem?_append_left hlt] at hj;exact .inl ⟨hlt,hj⟩
    ·rw [List.getElem?_append_right (by omega)] at hj
     have hj0:j-ys.length=0:=by
      have:=(List.getElem?_eq_some_iff.1 hj).1
      simp at this;omega
     rw [hj0] at hj
     simp only [List.getElem?_cons_zero,Option.some.injEq] at hj
     exact .inr ⟨by omega,hj.symm⟩
   have hleft:∀(j:Nat) (y:AV×Option Nat),j<ys.length→ys[j]?=some y→(trAs (ys++[(AV.box cs,some i)]) ys++[AV.gbox b cs])[j]?=some (trA (ys++[(AV.box cs,some i)]) y.1)∧tmV vs j=tmV (vs.push (tmOf a i)) j:=by
    intro j y hlt hy
    refine ⟨by rw [List.getElem?_append_left (by rw [h1];exact hlt),trAs_at,hy];rfl,?_⟩
    unfold tmV
    rw [Array.getElem?_push_lt (by omega),Array.getElem?_eq_getElem (by omega)]
   have hright:(trAs (ys++[(AV.box cs,some i)]) ys++[AV.gbox b cs])[ys.length]?=some (.gbox b cs)∧tmV (vs.push (tmOf a i)) ys.length=.pointer (some ⟨b,0,none⟩):=by
    refine ⟨by rw [List.getElem?_append_right (by rw [h1];omega),h1];simp,?_⟩
    unfold tmV
    rw [show ys.length=vs.size by omega]
    simp [htm]
   have hA:Args S0 w0 s a w (ys++[(.box cs,some i)]) (vs.push (tmOf a i)) (trAs (ys++[(.box cs,some i)]) ys++[.gbox b cs]) vs:=by
    refine ⟨hzv,by simp [h1],by simp;omega,fun j y hy=>?_⟩
    rcases hcase j y hy with ⟨k1,k2⟩ | ⟨rfl,rfl⟩
    ·exact .inl (hleft j y k1 k2)
    ·exact .inr (.inl ⟨cs,b,rfl,hright.1,hright.2⟩)
   have hlo:outs.length=ys.length:=by
    have:=(outsFit_at hCb.2.1).1
    simp [h1] at this
    omega
   have hO:OutsAre (ys++[(.box cs,some i)]) (vs.push (tmOf a i)) (trAs (ys++[(.box cs,some i)]) ys++[.gbox b cs]) vs (outs++[.box co]) (outs++[.gbox b co]):=by
    refine ⟨by simp,fun j o y ho hy=>?_⟩
    rcases hcase j y hy with ⟨k1,k2⟩ | ⟨rfl,rfl⟩
    ·rw [List.getElem?_append_left (by omega)] at ho
     exact .inl ⟨by rw [List.getElem?_append_left (by omega)];exact ho,hleft j y k1 k2⟩
    ·rw [List.getElem?_append_right (by omega)] at ho
     simp only [hlo,Nat.sub_self,List.getElem?_cons_zero,Option.some.injEq] at ho
     exact .inr ⟨cs,b,co,rfl,hright.1,hright.2,ho.symm,by rw [List.getElem?_append_right (by omega)];simp [hlo]⟩
   have hnl':noLinks (ys++[(AV.box cs,some i)])=true:=by
    unfold noLinks at hnlk ⊢
    rw [List.all_append,hnlk]
    simp [hst]
   refine fin hCb.1 ((callM_core hR hA hnd' hnl' hCb hO ⟨hdm,hd⟩).mono ?_)
   rintro e w' ⟨v,rfl,hR'⟩
   exact ⟨v,_,rfl,hk,hR'⟩
 ·exact hc.elim
end
end Go.Ab
namespace Go.Ab
open Go Go.RowKit
variable [Amb]
section
variable {P:Program} {S0:Env} {w0 w:World} {n:Nat} {s:St} {a:Act}
theorem getElem?_setRange {α:Type} (cs vs:List α) (o j:Nat) (h:o+vs.length≤cs.length) :
  (setRange cs o vs)[j]?=if j<o then cs[j]? else if j<o+vs.length then vs[j-o]? else cs[j]?:=by
 simp only [setRange,List.append_assoc]
 rw [List.getElem?_append]
 simp only [List.length_take]
 by_cases h1:j<o
 ·rw [if_pos (by omega),if_pos h1,List.getElem?_take,if_pos h1]
 ·rw [if_neg (by omega),if_neg h1,List.getElem?_append]
  by_cases h2:j<o+vs.length
  ·rw [if_pos (by omega),if_pos h2];congr 1;omega
  ·rw [if_neg (by omega),if_neg h2,List.getElem?_drop];congr 1;omega
theorem setRange_nested {α:Type} (f c:List α) (o size off:Nat) (h:o+size≤f.length) (hc:off+c.length≤size) :
  setRange f o (setRange ((f.drop o).take size) off c)=setRange f (o+off) c:=by
 have hl:((f.drop o).take size).length=size:=by rw [List.length_take,List.length_drop];omega
 apply List.ext_getElem?
 intro j
 have hsl:(setRange ((f.drop o).take size) off c).length=size:=by rw [setRange_len _ _ _ (by omega),hl]
 rw [getElem?_setRange f _ o j (by omega),getElem?_setRange ((f.drop o).take size) c off (j-o) (by omega),getElem?_setRange f c (o+off) j (by omega),hsl]
 have hA:((f.drop o).take size)[j-o]?=if j-o<size then f[o+(j-o)]? else none:=by
  rw [List.getElem?_take];split<;>simp
 rw [hA]
 repeat' split
 all_goals first | rfl | (exfalso;omega) | (congr 1;omega)
theorem setRange_take {α:Type} (f c:List α) (o m:Nat) (h:o+c.length≤m) (hm:m≤f.length):(setRange f o c).take m=setRange (f.take m) o c:=by
 apply List.ext_getElem?
 intro j
 have hl:(f.take m).length=m:=by rw [List.length_take];omega
 rw [List.getElem?_take,getElem?_setRange _ _ _ _ (by omega),getElem?_setRange _ _ _ _ (by omega)]
 by_cases h1:j<m
 ·rw [if_pos h1]
  simp only [List.getElem?_take,if_pos h1]
 ·rw [if_neg h1,if_neg (by omega),if_neg (by omega),List.getElem?_take,if_neg h1]
def TK.cells:TK→Option Nat
 | .one=>some 1
 | .agg n=>some n
 | .bad=>none
def astore (P:Program) (s:St) (t:TypeId) (addr x:Prop×AV):Prop×St:=
 match addr,x,(tk P t).cells with
 | (p,.ptr i off),(q,.x xv),some m=>match s i with
  | .box cs=>(p∧q∧xv.cells.length=m∧off+m≤cs.length,match anyIn cs off m with
   | false=>fun j=>if j=i then .box (setRange cs off xv.cells) else s j
   | true=>fun j=>if j=i then .box (setRange cs off xv.cells) else unlink s i off m j)
  | .gbox b cs=>(p∧q∧xv.cells.length=m∧off+m≤cs.length,match anyIn cs off m with
   | false=>fun j=>if j=i then .gbox b (setRange cs off xv.cells) else s j
   | true=>fun j=>if j=i then .gbox b (setRange cs off xv.cells) else unlink s i off m j)
  | _=>(False,s)
 | (p,.eptr i k off),(q,.x xv),some m=>match s i with
  | .own e size xs=>(p∧q∧xv.cells.length=m∧k<xs.length∧off+m≤size,fun j=>if j=i then .own e size (xs.set k (setRange (xs.getD k []) off xv.cells)) else s j)
  | _=>(False,s)
 | _,_,_=>(False,s)
theorem tk_cells {t:TypeId} {m:Nat} (h:(tk P t).cells=some m) (hs:∀i,P.info? t=some i→tk P t=.one→i.size=1):(sizeOf t).run P w=.ok m w:=by
 cases hk:tk P t with
 | bad=>rw [hk] at h;cases h
 | agg k =>
  rw [hk] at h
  injection h with h
  subst h
  obtain ⟨i,hi,hsz,_⟩:=tk_agg (w:=w) hk
  rw [run_sizeOf hi,hsz]
 | one =>
  rw [hk] at h
  injection h with h
  subst h
  have:∃ty,P.underlying t=some ty:=by
   unfold tk at hk
   split at hk<;>first | cases hk | skip
   rename_i ty hu _ _ _ _
   exact ⟨ty,hu⟩
  obtain ⟨ty,hu⟩:=this
  obtain ⟨i,hi⟩:=info_of_underlying hu
  rw [run_sizeOf hi,hs i hi hk]
def OneOk (P:Program) (t:TypeId):Bool:=
 match P.info? t,tk P t with
 | some i,.one=>i.size==1
 | _,_=>true
theorem oneOk_spec {t:TypeId} (h:OneOk P t=true):∀i,P.info? t=some i→tk P t=.one→i.size=1:=by
 intro i hi hk
 unfold OneOk at h
 rw [hi,hk] at h
 simpa using h
theorem run_storeAt (t:TypeId) (g o:Nat) (ty:TypeId) (cur:Array Value) (v:Value) {m:Nat} (hsz:(sizeOf t).run P w=.ok m w) (hm:v.cells.size=m)
  {fz:Nat×Nat} (hg:w.heap[g]?=some (.cells cur ty fz)) (hfz:rowFree fz cur.size) (hl:o+m≤cur.size) (h1:∀u∈v.cells.toList,u.oneCell'=true) :
  (Instr.storeAt t (.pointer (some ⟨g,o,none⟩)) v).run P w=.ok () (w.setRow g (setRange cur.toList o v.cells.toList).toArray):=by
 have hst:=run_storeCells_T P g o ty fz v.cells.toList 0 cur w hg hfz (by simp;omega) h1
 simp only [Nat.add_zero] at hst
 simp only [Instr.storeAt,Instr.sureAddr,storeVar,Sem.run_bind,Sem.run_pure,Result.andThen_ok,hsz,hm,ne_eq,not_true_eq_false,if_false,hst,setRange]
theorem setRow_grown (g:Nat) (cs:Array Value):w.grownBy (w.setRow g cs) (some g)∧(w.setRow g cs).heap.size=w.heap.size:=by
 refine ⟨⟨rfl,rfl,rfl,by simp [World.setRow],fun k _ hk=>setRow_other w g k cs (fun e=>hk (by rw [e]))⟩,by simp [World.setRow]⟩
theorem astore_ok (hR:Rel S0 w0 n s a w) {t:TypeId} {x y:Prop×AV} {u v:Value} (hx:Knows S0 w0 s a w x u) (hy:Knows S0 w0 s a w y v) (ht:OneOk P t=true) (hp:(astore P s t x y).1) :
  ∃w',(Instr.storeAt t u v).run P w=.ok () w'∧Rel S0 w0 n (astore P s t x y).2 a w':=by
 obtain ⟨p,x⟩:=x
 obtain ⟨q,y⟩:=y
 unfold astore at hp ⊢
 split at hp
 ·rename_i p' i off q' xv m e1 e2 e3
  injection e1 with e1 e1';subst e1;subst e1'
  injection e2 with e2 e2';subst e2;subst e2'
  split at hp
  ·rename_i cs hs
   obtain ⟨h1,h2,h3,h4⟩:=hp
   have hsz:=tk_cells (P:=P) (w:=w) e3 (oneOk_spec ht)
   obtain ⟨b,rfl,hb⟩:=hx h1
   have hrep:=RepX.cells (hy h2)
   have hi:=hR.rep i
   rw [hs] at hi hb
   obtain ⟨b',arr,ty,hv,hh,hl1,hB⟩:=hi
   rw [hv] at hb
   obtain rfl:b'=b:=by simpa [blkOf] using hb
   have hl:=hl1
   have hvs:v.cells.size=m:=by have:=hrep.1;rw [h3] at this;simpa using this
   have harr:arr.size=cs.length:=by have:=hl.1;simpa using this
   refine ⟨_,run_storeAt t b' off ty arr v hsz hvs hh (.inl rfl) (by omega) hrep.oneCells,?_⟩
   obtain ⟨hg,hgs⟩:=setRow_grown (w:=w) b' (setRange arr.toList off v.cells.toList).toArray
   have key:∀s1:St,Rel S0 w0 n s1 a w→s1 i=.box cs→(∀c,Shared S0 w0.heap.size w s1 (tmOf a) c↔Shared S0 w0.heap.size w s (tmOf a) c)→(∀j o d,(s1 j).hasLink i o d→o<off∨off+m≤o) →
     Rel S0 w0 n (fun j=>if j=i then .box (setRange cs off xv.cells) else s1 j) a (w.setRow b' (setRange arr.toList off v.cells.toList).toArray):=by
    intro s1 hR1 hs1 hsh hlk
    refine hR1.write (r:=.box (setRange cs off xv.cells)) (b:=b') (by rw [hs1,hv];rfl) hg hgs (by rw [hv];rfl) rfl (by rw [hs1];rfl) (by rw [hs1];rfl) (by rw [hs1];rfl) (fun s'=>?_) (fun j o d cs2 hl hs2=>?_)
    ·have hsame:∀c,Shared S0 w0.heap.size w s1 (tmOf a) c→(w.setRow b' (setRange arr.toList off v.cells.toList).toArray).heap[c]?=w.heap[c]?:=by
      intro c hc
      refine hg.block c hc.2.1 (fun e=>?_)
      injection e with e
      subst e
      exact hc.2.2 i (by rw [hs1,hv];rfl)
     refine ⟨b',_,ty,hv,setRow_heap w b' arr _ ty _ hh,?_,hB⟩
     exact (hl1.setRange hrep off).mono (fun b hb=>(hsh b).2 hb) (fun b hb=>hsame b ((hsh b).2 hb))
    ·rw [hs1] at hs2
     obtain rfl:cs=cs2:=by simpa [AV.boxC] using hs2
     have ho:=hlk j o d hl
     have hne:∀{α:Type} (l c:List α),off+c.length≤l.length→c.length=m→(setRange l off c)[o]?=l[o]?:=by
      intro α l c h1 h2
      rw [getElem?_setRange _ _ _ _ h1]
      rcases ho with ho | ho
      ·rw [if_pos ho]
      ·rw [if_neg (by omega),if_neg (by omega)]
     refine ⟨⟨_,rfl,hne _ _ (by rw [h3];exact h4) h3⟩,?_⟩
     rw [cell_of_row w b' o arr ty (0,0) hh,cell_of_row _ b' o _ ty (0,0) (setRow_heap w b' arr _ ty _ hh)]
     have:=hne arr.toList v.cells.toList (by simp [harr,hvs];omega) (by simp [hvs])
     simpa using this
   cases hany:anyIn cs off m with
   | false =>
    refine key s hR hs (fun _=>Iff.rfl) (fun j o d hl=>?_)
    obtain ⟨_,cs2,b2,k1,k2,_⟩:=(hR.rep j).link_spec hl
    rw [hs] at k1
    obtain rfl:cs=cs2:=by simpa [AV.boxC] using k1
    exact anyIn_false hany k2
   | true =>
    have hsi:unlink s i off m i=.box cs:=by rw [unlink_owner (by rw [hs];rfl),hs]
    have hown:∀j,(s j).isOwner=true→unlink s i off m j=s j:=fun j=>unlink_owner
    refine key _ (hR.forget (fun j=>unlink_or s i off m j) (fun j k hjk=>?_)) hsi (fun c=>?_) (fun j o d hl=>?_)
    ·have e:(s j).refs k=true:=by
      rcases unlink_or s i off m j with e | e<;>rw [e] at hjk
      ·exact hjk
      ·cases hjk
     exact hown k (hR.wf j k e)
    ·constructor
     ·rintro ⟨k1,k2,k3⟩
      refine ⟨k1,k2,fun j hj=>k3 j ?_⟩
      have ho:(s j).isOwner=true:=by
       cases h:(s j).isOwner with
       | true=>rfl
       | false=>rw [blkOf_notOwner h] at hj;cases hj
      rw [hown j ho];exact hj
     ·rintro ⟨k1,k2,k3⟩
      refine ⟨k1,k2,fun j hj=>k3 j ?_⟩
      rcases unlink_or s i off m j with e | e<;>rw [e] at hj
      ·exact hj
      ·cases hj
    ·rcases Nat.lt_or_ge o off with h | h
     ·exact .inl h
     ·rcases Nat.lt_or_ge o (off+m) with h' | h'
      ·exfalso
       have h2:unlink s i off m j=.dead:=by
        unfold unlink
        have:(s j).linkIn i off m=true:=by
         rcases unlink_or s i off m j with e | e
         ·rw [e] at hl;exact AV.linkIn_has hl h h'
         ·rw [e] at hl;exact hl.elim
        rw [this]
       rw [h2] at hl;exact hl.elim
      ·exact .inr h'
  ·rename_i b cs hs
   obtain ⟨h1,h2,h3,h4⟩:=hp
   have hsz:=tk_cells (P:=P) (w:=w) e3 (oneOk_spec ht)
   obtain ⟨b',rfl,hb⟩:=hx h1
   have hrep:=RepX.cells (hy h2)
   have hi:=hR.rep i
   rw [hs] at hi hb
   obtain ⟨arr,ty,hh,hl,hB⟩:=hi
   obtain rfl:b=b':=by simpa [blkOf] using hb
   have hvs:v.cells.size=m:=by have:=hrep.1;rw [h3] at this;simpa using this
   have harr:arr.size=cs.length:=by have:=hl.1;simpa using this
   refine ⟨_,run_storeAt t b off ty arr v hsz hvs hh (.inl rfl) (by omega) hrep.oneCells,?_⟩
   obtain ⟨hg,hgs⟩:=setRow_grown (w:=w) b (setRange arr.toList off v.cells.toList).toArray
   have key:∀s1:St,Rel S0 w0 n s1 a w→s1 i=.gbox b cs→(∀c,Shared S0 w0.heap.size w s1 (tmOf a) c↔Shared S0 w0.heap.size w s (tmOf a) c)→(∀j o d,(s1 j).hasLink i o d→o<off∨off+m≤o) →
     Rel S0 w0 n (fun j=>if j=i then .gbox b (setRange cs off xv.cells) else s1 j) a (w.setRow b (setRange arr.toList off v.cells.toList).toArray):=by
    intro s1 hR1 hs1 hsh hlk
    refine hR1.write (r:=.gbox b (setRange cs off xv.cells)) (b:=b) (by rw [hs1];rfl) hg hgs rfl rfl (by rw [hs1];rfl) (by rw [hs1];rfl) (by rw [hs1];rfl) (fun s'=>?_) (fun j o d cs2 hl hs2=>?_)
    ·have hsame:∀c,Shared S0 w0.heap.size w s1 (tmOf a) c→(w.setRow b (setRange arr.toList off v.cells.toList).toArray).heap[c]?=w.heap[c]?:=by
      intro c hc
      refine hg.block c hc.2.1 (fun e=>?_)
      injection e with e
      subst e
      exact hc.2.2 i (by rw [hs1];rfl)
     refine ⟨_,ty,setRow_heap w b arr _ ty _ hh,?_,hB⟩
     exact (hl.setRange hrep off).mono (fun b hb=>(hsh b).2 hb) (fun b hb=>hsame b ((hsh b).2 hb))
    ·rw [hs1] at hs2
     obtain rfl:cs=cs2:=by simpa [AV.boxC] using hs2
     have ho:=hlk j o d hl
     have hne:∀{α:Type} (l c:List α),off+c.length≤l.length→c.length=m→(setRange l off c)[o]?=l[o]?:=by
      intro α l c h1 h2
      rw [getElem?_setRange _ _ _ _ h1]
      rcases ho with ho | ho
      ·rw [if_pos ho]
      ·rw [if_neg (by omega),if_neg (by omega)]
     refine ⟨⟨_,rfl,hne _ _ (by rw [h3];exact h4) h3⟩,?_⟩
     rw [cell_of_row w b o arr ty (0,0) hh,cell_of_row _ b o _ ty (0,0) (setRow_heap w b arr _ ty _ hh)]
     have:=hne arr.toList v.cells.toList (by simp [harr,hvs];omega) (by simp [hvs])
     simpa using this
   cases hany:anyIn cs off m with
   | false =>
    refine key s hR hs (fun _=>Iff.rfl) (fun j o d hl=>?_)
    obtain ⟨_,cs2,b2,k1,k2,_⟩:=(hR.rep j).link_spec hl
    rw [hs] at k1
    obtain rfl:cs=cs2:=by simpa [AV.boxC] using k1
    exact anyIn_false hany k2
   | true =>
    have hsi:unlink s i off m i=.gbox b cs:=by rw [unlink_owner (by rw [hs];rfl),hs]
    have hown:∀j,(s j).isOwner=true→unlink s i off m j=s j:=fun j=>unlink_owner
    refine key _ (hR.forget (fun j=>unlink_or s i off m j) (fun j k hjk=>?_)) hsi (fun c=>?_) (fun j o d hl=>?_)
    ·have e:(s j).refs k=true:=by
      rcases unlink_or s i off m j with e | e<;>rw [e] at hjk
      ·exact hjk
      ·cases hjk
     exact hown k (hR.wf j k e)
    ·constructor
     ·rintro ⟨k1,k2,k3⟩
      refine ⟨k1,k2,fun j hj=>k3 j ?_⟩
      have ho:(s j).isOwner=true:=by
       cases h:(s j).isOwner with
       | true=>rfl
       | false=>rw [blkOf_notOwner h] at hj;cases hj
      rw [hown j ho];exact hj
     ·rintro ⟨k1,k2,k3⟩
      refine ⟨k1,k2,fun j hj=>k3 j ?_⟩
      rcases unlink_or s i off m j with e | e<;>rw [e] at hj
      ·exact hj
      ·cases hj
    ·rcases Nat.lt_or_ge o off with h | h
     ·exact .inl h
     ·rcases Nat.lt_or_ge o (off+m) with h' | h'
      ·exfalso
       have h2:unlink s i off m j=.dead:=by
        unfold unlink
        have:(s j).linkIn i off m=true:=by
         rcases unlink_or s i off m j with e | e
         ·rw [e] at hl;exact AV.linkIn_has hl h h'
         ·rw [e] at hl;exact hl.elim
        rw [this]
       rw [h2] at hl;exact hl.elim
      ·exact .inr h'
  ·exact hp.elim
 ·rename_i p' i k off q' xv m e1 e2 e3
  injection e1 with e1 e1';subst e1;subst e1'
  injection e2 with e2 e2';subst e2;subst e2'
  split at hp
  ·rename_i e size xs hs
   obtain ⟨h1,h2,h3,h4,h5⟩:=hp
   have hsz:=tk_cells (P:=P) (w:=w) e3 (oneOk_spec ht)
   obtain ⟨b,rfl,hb⟩:=hx h1
   have hrep:=RepX.cells (hy h2)
   have hi:=hR.rep i
   rw [hs] at hi hb
   obtain ⟨us,hown,hl,hxs,hm,hO⟩:=hi
   have hvs:v.cells.size=m:=by have:=hrep.1;rw [h3] at this;simpa using this
   rcases hown.2 with ⟨hnil,_⟩ | ⟨g,cap,cur,hv,hbg,⟨fz,hh,hfz⟩,hnc,hcm,hcs,htake⟩
   ·rw [hnil] at hb;simp [blkOf,Value.ownBlock] at hb
   ·have hbb:blkOf (AV.own e size xs) (tmOf a i)=some g:=by rw [hv];rfl
    rw [hbb] at hb
    injection hb with hb
    subst hb
    have hsi:(s i).size=size:=by rw [hs];rfl
    have hkl:(xs.getD k []).length=size:=getD_len hxs h4
    have hin:k*size+size≤xs.length*size:=by
     have:(k+1)*size≤xs.length*size:=Nat.mul_le_mul_right _ h4
     rw [Nat.add_mul] at this;omega
    have hcap:xs.length*size≤cap*size:=Nat.mul_le_mul_right _ hnc
    refine ⟨_,run_storeAt t g _ e cur v hsz hvs hh hfz (by rw [hsi];omega) hrep.oneCells,?_⟩
    obtain ⟨hg,hgs⟩:=setRow_grown (w:=w) g (setRange cur.toList (k*(s i).size+off) v.cells.toList).toArray
    refine hR.write (r:=.own e size (xs.set k (setRange (xs.getD k []) off xv.cells))) (b:=g) (by rw [hs];exact hbb) hg hgs (by rw [hv];rfl) rfl (by rw [hs];rfl) (by rw [hs];simp [AV.len]) (by rw [hs];rfl) (fun s'=>?_) (fun j o d cs2 hl2 hs2=>by rw [hs] at hs2;cases hs2)
    have hsame:∀c,Shared S0 w0.heap.size w s (tmOf a) c→(w.setRow g (setRange cur.toList (k*(s i).size+off) v.cells.toList).toArray).heap[c]?=w.heap[c]?:=by
     intro c hc
     refine hg.block c hc.2.1 (fun e=>?_)
     injection e with e
     subst e
     exact hc.2.2 i (by rw [hs];exact hbb)
    have hxs':∀x∈xs.set k (setRange (xs.getD k []) off xv.cells),x.length=size:=by
     intro x hx
     rcases List.mem_or_eq_of_mem_set hx with hx | hx
     ·exact hxs x hx
     ·rw [hx,setRange_len _ _ _ (by rw [hkl,h3];exact h5),hkl]
    have hflat:(xs.set k (setRange (xs.getD k []) off xv.cells)).flatten=setRange xs.flatten (k*size+off) xv.cells:=by
     rw [flatten_set hxs h4 (by rw [setRange_len _ _ _ (by rw [hkl,h3];exact h5),hkl])]
     have hfl:=flatten_length hxs
     have hdrop:(xs.flatten.drop (k*size)).take size=xs.getD k []:=by
      apply List.ext_getElem?
      intro j
      by_cases hj:j<size
      ·rw [List.getElem?_take,if_pos hj,List.getElem?_drop]
       exact flatten_at hxs (c:=(xs.getD k [])[j]'(by omega)) (List.getElem?_eq_getElem (by omega)) |>.trans (List.getElem?_eq_getElem (by omega)).symm
      ·rw [List.getElem?_eq_none (by simp;omega),List.getElem?_eq_none (by omega)]
     rw [←hdrop]
     exact setRange_nested _ _ _ _ _ (by omega) (by omega)
    refine ⟨setRange us (k*size+off) v.cells.toList,⟨?_,.inr ⟨g,cap,_,by rw [List.length_set];exact hv,hbg,⟨fz,setRow_heap w g cur _ e _ hh,by rw [List.size_toArray,setRange_len _ _ _ (by simp [hvs];rw [hsi];omega),Array.length_toList];exact hfz⟩,by simpa using hnc,hcm,?_,?_⟩⟩,?_,hxs',by simpa using hm,hO⟩
    ·have hul:us.length=xs.length*size:=by have:=hown.1;exact this
     rw [setRange_len _ _ _ (by simp [hvs,hul];omega)]
     simpa using hown.1
    ·simp only [List.size_toArray]
     rw [setRange_len _ _ _ (by simp [hvs];rw [hsi];omega)]
     simpa using hcs
    ·rw [hsi]
     simp only [List.length_set]
     rw [←htake]
     exact setRange_take _ _ _ _ (by simp [hvs];omega) (by simp [hcs];omega)
    ·rw [hflat]
     exact (hl.setRange hrep _).mono (fun _ h=>h) hsame
  ·exact hp.elim
 ·exact hp.elim
def linkable (s:St) (addr x:Prop×AV):Option (Prop×Nat×Nat×Nat):=
 match x with
 | (q,.alias d)=>match addr with
  | (p,.ptr i off)=>match s MARK with
   | .res l=>match l.contains (i,off) with
    | true=>some (p∧q,i,off,d)
    | false=>none
   | _=>none
  | _=>none
 | _=>none
def AV.tight:AV→Bool
 | .box _=>true
 | .own _ _ _=>true
 | .mp _ _ _=>true
 | _=>false
theorem AV.tight_owner {a:AV} (h:a.tight=true):a.isOwner=true:=by cases a<;>first | rfl | cases h
def linkStore (P:Program) (s:St) (t:TypeId) (i off d:Nat):Prop×St:=
 match tk P t,s i with
 | .one,.box cs=>(off<cs.length∧(s d).tight=true∧(s (LK i off)).free=true,fun j=>if j=i then .box (cs.set off .any) else if j=LK i off then .link i off d else unlink s i off 1 j)
 | .one,.gbox b cs=>(off<cs.length∧(s d).tight=true∧(s (LK i off)).free=true,fun j=>if j=i then .gbox b (cs.set off .any) else if j=LK i off then .link i off d else unlink s i off 1 j)
 | _,_=>(False,s)
theorem linkable_spec {s:St} {addr x:Prop×AV} {p:Prop} {i off d:Nat} (h:linkable s addr x=some (p,i,off,d)):∃p1 q,addr=(p1,.ptr i off)∧x=(q,.alias d)∧p=(p1∧q):=by
 unfold linkable at h
 split at h
 ·split at h
  ·split at h
   ·split at h
    ·simp only [Option.some.injEq,Prod.mk.injEq] at h
     obtain ⟨rfl,rfl,rfl,rfl⟩:=h
     exact ⟨_,_,rfl,rfl,rfl⟩
    ·cases h
   ·cases h
  ·cases h
 ·cases h
theorem Rel.addLink {k i off d b:Nat} {cs:List CV} (hR:Rel S0 w0 n s a w) (hk:(s k).free=true) (hd:(s d).isOwner=true) (hs:(s i).boxC=some cs) (hc:cs[off]?=some .any) (hb:blkOf (s i) (tmOf a i)=some b) (hv:w.cell? ⟨b,off,none⟩=some ((s d).valOf (tmOf a d))) :
  Rel S0 w0 n (fun j=>if j=k then .link i off d else s j) a w:=by
 have hko:∀j,(s j).isOwner=true→j≠k:=by rintro j h rfl;rw [free_owner hk] at h;cases h
 have hblk:∀j c,blkOf (if j=k then AV.link i off d else s j) (tmOf a j)=some c→j≠k∧blkOf (s j) (tmOf a j)=some c:=by
  intro j c hj
  by_cases hjk:j=k
  ·rw [if_pos hjk] at hj;cases hj
  ·rw [if_neg hjk] at hj;exact ⟨hjk,hj⟩
 have hsub:∀c,Shared S0 w0.heap.size w s (tmOf a) c→Shared S0 w0.heap.size w (fun j=>if j=k then .link i off d else s j) (tmOf a) c:=fun c hc=>⟨hc.1,hc.2.1,fun j hj=>hc.2.2 j (hblk j c hj).2⟩
 have hik:=hko i (AV.boxC_owner hs)
 refine ⟨hR.defers,hR.size,hR.below,hR.lt,fun j=>?_,fun j m c hj hm=>hR.inj j m c (hblk j c hj).2 (hblk m c hm).2,fun j hj=>?_,fun j m hjm=>?_,hR.pin⟩
 ·by_cases hjk:j=k
  ·subst hjk
   simp only [if_pos]
   refine ⟨?_,cs,b,?_,hc,?_,by simp only [if_neg (hko d hd)];exact hv⟩
   ·simp only [if_neg (hko d hd)];exact hd
   ·simp only [if_neg hik];exact hs
   ·simp only [if_neg hik];exact hb
  ·simp only [if_neg hjk]
   refine (hR.rep j).mono hsub (fun _ _=>rfl) (fun _ _=>rfl) (fun m hm=>?_) (fun i' off' d' cs' b' hl hs' _=>⟨⟨cs',by simp only [if_neg (hko i' (AV.boxC_owner hs'))];exact hs',rfl⟩,rfl⟩)
   have hmk:=hko m ((hR.rep j).leads hm)
   simp only [if_neg hmk]
   exact ⟨trivial,fun h=>⟨h,trivial,trivial,trivial⟩,fun c hc=>hc⟩
 ·by_cases hjk:j=k
  ·simp only [if_pos hjk];rfl
  ·simp only [if_neg hjk];exact hR.out j hj
 ·by_cases hjk:j=k
  ·simp only [if_pos hjk] at hjm
   simp only [AV.refs,Bool.or_eq_true,beq_iff_eq] at hjm
   rcases hjm with rfl | rfl
   ·simp only [if_neg hik];exact AV.boxC_owner hs
   ·simp only [if_neg (hko _ hd)];exact hd
  ·simp only [if_neg hjk] at hjm
   have:=hR.wf j m hjm
   simp only [if_neg (hko m this)]
   exact this
theorem set_setRange {α:Type} (l:List α) (o:Nat) (x:α) (h:o<l.length):l.set o x=setRange l o [x]:=by
 apply List.ext_getElem?
 intro j
 rw [getElem?_setRange _ _ _ _ (by simp;omega),List.getElem?_set]
 simp only [List.length_singleton]
 by_cases h1:o=j
 ·subst h1;simp [h]
 ·rw [if_neg h1]
  by_cases h2:j<o
  ·rw [if_pos h2]
  ·rw [if_neg h2,if_neg (by omega)]
theorem linkStore_ok (hR:Rel S0 w0 n s a w) {t:TypeId} {p q:Prop} {i off d:Nat} {u v:Value} (hx:Knows S0 w0 s a w (p,.ptr i off) u) (hy:Knows S0 w0 s a w (q,.alias d) v) (ht:OneOk P t=true) (hpq:p∧q) (hp:(linkStore P s t i off d).1) :
  ∃w',(Instr.storeAt t u v).run P w=.ok () w'∧Rel S0 w0 n (linkStore P s t i off d).2 a w':=by
 unfold linkStore at hp ⊢
 split at hp
 ·rename_i cs hk hs
  obtain ⟨hlt,hdo,hfree⟩:=hp
  have hdo':=AV.tight_owner hdo
  have hval:∀u,(s d).valOf u=u:=fun u=>by cases hsd:s d<;>rw [hsd] at hdo<;>first | rfl | cases hdo
  obtain ⟨hv,_⟩:=hy hpq.2
  rw [hval] at hv
  have hone:v.oneCell'=true:=by
   have h:=hR.rep d
   rw [hv]
   cases hsd:s d<;>rw [hsd] at h hdo<;>first | (cases hdo;done) | skip
   ·obtain ⟨b,arr,ty,e,_⟩:=h;rw [e];rfl
   ·obtain ⟨us,hown,_⟩:=h
    rcases hown.2 with ⟨e,_⟩ | ⟨g,cap,cur,e,_⟩<;>rw [e]<;>rfl
   ·obtain ⟨b,ents,e,_⟩:=h;rw [e];rfl
  obtain ⟨w',h1,h2⟩:=astore_ok (P:=P) hR (t:=t) (x:=(p,.ptr i off)) (y:=(True,.x (.one .any))) (u:=u) (v:=v) hx (fun _=>RepC.any v hone) ht (by
   unfold astore
   simp only [hk,TK.cells,hs]
   exact ⟨hpq.1,trivial,rfl,by omega⟩)
  refine ⟨w',h1,?_⟩
  obtain ⟨b,hub,hbi⟩:=hx hpq.1
  have hbx:=hR.rep i
  rw [hs] at hbx hbi
  obtain ⟨b',arr,ty,hv2,hh,hl,hB⟩:=hbx
  rw [hv2] at hbi
  obtain rfl:b'=b:=by simpa [blkOf] using hbi
  have harr:arr.size=cs.length:=by have:=hl.1;simpa using this
  have hvc:v.cells=#[v]:=by cases v<;>first | rfl | (simp [Value.oneCell'] at hone)
  have hw:w'=w.setRow b' (setRange arr.toList off [v]).toArray:=by
   have hsz:=tk_cells (P:=P) (w:=w) (t:=t) (m:=1) (by rw [hk];rfl) (oneOk_spec ht)
   have:=run_storeAt (P:=P) t b' off ty arr v hsz (by rw [hvc];rfl) hh (.inl rfl) (by omega) (by rw [hvc];simpa using hone)
   rw [hub,this] at h1
   injection h1 with _ h1
   rw [←h1,hvc]
  have hcell:w'.cell? ⟨b',off,none⟩=some v:=by
   rw [hw,cell_of_row _ b' off _ ty (0,0) (setRow_heap w b' arr _ ty _ hh)]
   rw [←set_setRange _ _ _ (by simpa [harr] using hlt)]
   simp [harr,hlt]
  have hset:setRange cs off [CV.any]=cs.set off .any:=(set_setRange cs off .any hlt).symm
  have huo:∀j,(s j).isOwner=true→unlink s i off 1 j=s j:=fun j=>unlink_owner
  have hdi:d≠i∨d=i:=by omega
  have h3:Rel S0 w0 n (fun j=>if j=i then .box (cs.set off .any) else unlink s i off 1 j) a w':=by
   unfold astore at h2
   simp only [hk,TK.cells,hs,XV.cells,hset] at h2
   cases hany:anyIn cs off 1 with
   | true=>rw [hany] at h2;exact h2
   | false =>
    rw [hany] at h2
    refine h2.forget (fun j=>?_) (fun j m hjm=>?_)
    ·by_cases hj:j=i
     ·simp only [if_pos hj];exact .inl trivial
     ·simp only [if_neg hj];exact unlink_or s i off 1 j
    ·by_cases hm:m=i
     ·simp only [if_pos hm]
     ·simp only [if_neg hm]
      refine huo m ?_
      by_cases hj:j=i
      ·simp only [if_pos hj] at hjm;cases hjm
      ·simp only [if_neg hj] at hjm
       rcases unlink_or s i off 1 j with e | e<;>rw [e] at hjm
       ·exact hR.wf j m hjm
       ·cases hjm
  have hLK:LK i off≠i:=by
   intro e
   rw [e,hs] at hfree;cases hfree
  have h4:=h3.addLink (k:=LK i off) (i:=i) (off:=off) (d:=d) (b:=b') (cs:=cs.set off .any) (by
    simp only [if_neg hLK]
    rcases unlink_or s i off 1 (LK i off) with e | e<;>rw [e]
    ·exact hfree
    ·rfl) (by
    by_cases hd:d=i
    ·simp only [if_pos hd];rfl
    ·simp only [if_neg hd];rw [huo d hdo'];exact hdo') (by simp [AV.boxC]) (by simp [hlt]) (by simp only [if_pos];rw [hv2];rfl) (by
    rw [hcell,hv]
    by_cases hd:d=i
    ·subst hd;simp only [if_pos];rfl
    ·simp only [if_neg hd];rw [huo d hdo',hval])
  have e:(fun j=>if j=LK i off then AV.link i off d else if j=i then AV.box (cs.set off .any) else unlink s i off 1 j)=(fun j=>if j=i then .box (cs.set off .any) else if j=LK i off then .link i off d else unlink s i off 1 j):=by
   funext j
   by_cases hj:j=i
   ·subst hj;simp [hLK.symm]
   ·simp [hj]
  rw [e] at h4
  exact h4
 ·rename_i b' cs hk hs
  obtain ⟨hlt,hdo,hfree⟩:=hp
  have hdo':=AV.tight_owner hdo
  have hval:∀u,(s d).valOf u=u:=fun u=>by cases hsd:s d<;>rw [hsd] at hdo<;>first | rfl | cases hdo
  obtain ⟨hv,_⟩:=hy hpq.2
  rw [hval] at hv
  have hone:v.oneCell'=true:=by
   have h:=hR.rep d
   rw [hv]
   cases hsd:s d<;>rw [hsd] at h hdo<;>first | (cases hdo;done) | skip
   ·obtain ⟨b,arr,ty,e,_⟩:=h;rw [e];rfl
   ·obtain ⟨us,hown,_⟩:=h
    rcases hown.2 with ⟨e,_⟩ | ⟨g,cap,cur,e,_⟩<;>rw [e]<;>rfl
   ·obtain ⟨b,ents,e,_⟩:=h;rw [e];rfl
  obtain ⟨w',h1,h2⟩:=astore_ok (P:=P) hR (t:=t) (x:=(p,.ptr i off)) (y:=(True,.x (.one .any))) (u:=u) (v:=v) hx (fun _=>RepC.any v hone) ht (by
   unfold astore
   simp only [hk,TK.cells,hs]
   exact ⟨hpq.1,trivial,rfl,by omega⟩)
  refine ⟨w',h1,?_⟩
  obtain ⟨b,hub,hbi⟩:=hx hpq.1
  have hbx:=hR.rep i
  rw [hs] at hbx hbi
  obtain ⟨arr,ty,hh,hl,hB⟩:=hbx
  obtain rfl:b'=b:=by simpa [blkOf] using hbi
  have harr:arr.size=cs.length:=by have:=hl.1;simpa using this
  have hvc:v.cells=#[v]:=by cases v<;>first | rfl | (simp [Value.oneCell'] at hone)
  have hw:w'=w.setRow b' (setRange arr.toList off [v]).toArray:=by
   have hsz:=tk_cells (P:=P) (w:=w) (t:=t) (m:=1) (by rw [hk];rfl) (oneOk_spec ht)
   have:=run_storeAt (P:=P) t b' off ty arr v hsz (by rw [hvc];rfl) hh (.inl rfl) (by omega) (by rw [hvc];simpa using hone)
   rw [hub,this] at h1
   injection h1 with _ h1
   rw [←h1,hvc]
  have hcell:w'.cell? ⟨b',off,none⟩=some v:=by
   rw [hw,cell_of_row _ b' off _ ty (0,0) (setRow_heap w b' arr _ ty _ hh)]
   rw [←set_setRange _ _ _ (by simpa [harr] using hlt)]
   simp [harr,hlt]
  have hset:setRange cs off [CV.any]=cs.set off .any:=(set_setRange cs off .any hlt).symm
  have huo:∀j,(s j).isOwner=true→unlink s i off 1 j=s j:=fun j=>unlink_owner
  have hdi:d≠i∨d=i:=by omega
  have h3:Rel S0 w0 n (fun j=>if j=i then .gbox b' (cs.set off .any) else unlink s i off 1 j) a w':=by
   unfold astore at h2
   simp only [hk,TK.cells,hs,XV.cells,hset] at h2
   cases hany:anyIn cs off 1 with
   | true=>rw [hany] at h2;exact h2
   | false =>
    rw [hany] at h2
    refine h2.forget (fun j=>?_) (fun j m hjm=>?_)
    ·by_cases hj:j=i
     ·simp only [if_pos hj];exact .inl trivial
     ·simp only [if_neg hj];exact unlink_or s i off 1 j
    ·by_cases hm:m=i
     ·simp only [if_pos hm]
     ·simp only [if_neg hm]
      refine huo m ?_
      by_cases hj:j=i
      ·simp only [if_pos hj] at hjm;cases hjm
      ·simp only [if_neg hj] at hjm
       rcases unlink_or s i off 1 j with e | e<;>rw [e] at hjm
       ·exact hR.wf j m hjm
       ·cases hjm
  have hLK:LK i off≠i:=by
   intro e
   rw [e,hs] at hfree;cases hfree
  have h4:=h3.addLink (k:=LK i off) (i:=i) (off:=off) (d:=d) (b:=b') (cs:=cs.set off .any) (by
    simp only [if_neg hLK]
    rcases unlink_or s i off 1 (LK i off) with e | e<;>rw [e]
    ·exact hfree
    ·rfl) (by
    by_cases hd:d=i
    ·simp only [if_pos hd];rfl
    ·simp only [if_neg hd];rw [huo d hdo'];exact hdo') (by simp [AV.boxC]) (by simp [hlt]) (by simp only [if_pos];rfl) (by
    rw [hcell,hv]
    by_cases hd:d=i
    ·subst hd;simp only [if_pos];rfl
    ·simp only [if_neg hd];rw [huo d hdo',hval])
  have e:(fun j=>if j=LK i off then AV.link i off d else if j=i then AV.gbox b' (cs.set off .any) else unlink s i off 1 j)=(fun j=>if j=i then .gbox b' (cs.set off .any) else if j=LK i off then .link i off d else unlink s i off 1 j):=by
   funext j
   by_cases hj:j=i
   ·subst hj;simp [hLK.symm]
   ·simp [hj]
  rw [e] at h4
  exact h4
 ·exact hp.elim
end
end Go.Ab
namespace Go.Ab
open Go Go.RowKit
variable [Amb]
def gownL (g:Nat→Value):Nat→List (Nat×Nat×List (List CV))→List AV
 | _,[]=>[]
 | k,(e,z,xs)::r=>.gown (g k) e z xs::gownL g (k+1) r
theorem gownL_len (g:Nat→Value):∀(l:List (Nat×Nat×List (List CV))) (k:Nat),(gownL g k l).length=l.length
 | [],_=>rfl
 | _::r,k=>by simp [gownL,gownL_len g r]
theorem gownL_at (g:Nat→Value):∀(l:List (Nat×Nat×List (List CV))) (k j:Nat),(gownL g k l)[j]?=(l[j]?).map fun x=>AV.gown (g (k+j)) x.1 x.2.1 x.2.2
 | [],_,j=>by simp [gownL]
 | (e,z,xs)::r,k,0=>by simp [gownL]
 | (e,z,xs)::r,k,j+1=>by
  simp only [gownL,List.getElem?_cons_succ]
  rw [gownL_at g r (k+1) j]
  congr 2
  funext x
  rw [show k+1+j=k+(j+1) by omega]
def LinksIn (w:World) (s:St) (tm:Nat→Value) (lk:List (Nat×Nat)) (base:Nat):Prop:=
 ∀(k i off:Nat),lk[k]?=some (i,off)→(s (base+k)).isOwner=true∧∃cs b,(s i).boxC=some cs∧cs[off]?=some .any∧blkOf (s i) (tm i)=some b∧w.cell? ⟨b,off,none⟩=some ((s (base+k)).valOf (tm (base+k)))
def ACallsL (P:Program) (f:FuncId) (args:List AV) (gi:List (Nat×Nat×List (List CV))) (lk:List (Nat×Nat)) (r:RV) (outs:List AV) (go:List (Nat×Nat×List (List CV))):Prop:=
 Callable P f∧outsFit args outs=true∧gi.length=lk.length∧go.length=lk.length∧(∀v,r.blk v=none)∧∀(w:World) (E:Env) (vs:Array Value) (g:Nat→Value),Base E w→RepMs w E (args++gownL g 0 gi) vs→LinksIn w (argSt (args++gownL g 0 gi)) (tmV vs) lk args.length →
  Calls P f vs w fun e w'=>∃v g',e=.returned v∧Kept E.lent w w'∧RepR w' (After w w' E (outs++gownL g' 0 go) vs) r v ∧
   (∀(j:Nat) (o:AV),(outs++gownL g' 0 go)[j]?=some o→RepAV w' (After w w' E (outs++gownL g' 0 go) vs) (fun b=>E.lent b∨w.heap.size≤b) deadSt noTm o (tmV vs j)) ∧
   (∀(i j:Nat) (x y:AV) (b:Nat),(outs++gownL g' 0 go)[i]?=some x→blkOf x (tmV vs i)=some b→(outs++gownL g' 0 go)[j]?=some y→blkOf y (tmV vs j)=some b→i=j) ∧
   LinksIn w' (argSt (outs++gownL g' 0 go)) (tmV vs) lk args.length
def slE:AV→Option (Nat×Nat×List (List CV))
 | .own e z xs=>some (e,z,xs)
 | .gown _ e z xs=>some (e,z,xs)
 | _=>none
def linkIs (i off:Nat):AV→Option Nat
 | .link i' o d=>if i'=i∧o=off then some d else none
 | _=>none
theorem linkIs_spec {i off d:Nat} {a:AV} (h:linkIs i off a=some d):a=.link i off d:=by
 unfold linkIs at h
 split at h
 ·split at h
  ·rename_i e;injection h with h;rw [e.1,e.2,h]
  ·cases h
 ·cases h
def linksAt (s:St) (i:Nat):Nat→List CV→List (Nat×Nat×Nat)
 | _,[]=>[]
 | off,c::r=>match c.isAny with
  | true=>match linkIs i off (s (LK i off)) with
   | some d=>(i,off,d)::linksAt s i (off+1) r
   | none=>linksAt s i (off+1) r
  | false=>linksAt s i (off+1) r
def linksOf (s:St):List (AV×Option Nat)→List (Nat×Nat×Nat)
 | []=>[]
 | (x,some i)::r=>match x.boxC with
  | some cs=>linksAt s i 0 cs++linksOf s r
  | none=>linksOf s r
 | (_,none)::r=>linksOf s r
theorem linksAt_spec {s:St} {i:Nat}:∀{cs:List CV} {off:Nat} {l:Nat×Nat×Nat},l∈linksAt s i off cs→l.1=i∧s (LK l.1 l.2.1)=.link l.1 l.2.1 l.2.2
 | [],_,l,h=>by simp [linksAt] at h
 | c::r,off,l,h=>by
  unfold linksAt at h
  split at h
  ·split at h
   ·rename_i d hd
    rcases List.mem_cons.1 h with rfl | h
    ·exact ⟨rfl,linkIs_spec hd⟩
    ·exact linksAt_spec h
   ·exact linksAt_spec h
  ·exact linksAt_spec h
theorem linksOf_spec {s:St}:∀{xs:List (AV×Option Nat)} {l:Nat×Nat×Nat},l∈linksOf s xs→s (LK l.1 l.2.1)=.link l.1 l.2.1 l.2.2
 | [],l,h=>by simp [linksOf] at h
 | (x,some i)::r,l,h=>by
  simp only [linksOf] at h
  split at h
  ·rcases List.mem_append.1 h with h | h
   ·exact (linksAt_spec h).2
   ·exact linksOf_spec h
  ·exact linksOf_spec h
 | (_,none)::r,l,h=>linksOf_spec (xs:=r) h
def gisOf (s:St):List (Nat×Nat×Nat)→Option (List (Nat×Nat×List (List CV)))
 | []=>some []
 | l::r=>match slE (s l.2.2),gisOf s r with
  | some x,some xs=>some (x::xs)
  | _,_=>none
theorem gisOf_at {s:St}:∀{L:List (Nat×Nat×Nat)} {gi:List (Nat×Nat×List (List CV))},gisOf s L=some gi→gi.length=L.length∧∀(k:Nat) (l:Nat×Nat×Nat),L[k]?=some l→∃x,gi[k]?=some x∧slE (s l.2.2)=some x
 | [],gi,h=>by
  simp only [gisOf,Option.some.injEq] at h
  subst h
  exact ⟨rfl,fun k l h=>by simp at h⟩
 | l::r,gi,h=>by
  unfold gisOf at h
  split at h
  ·rename_i x xs e1 e2
   injection h with h
   subst h
   obtain ⟨k1,k2⟩:=gisOf_at e2
   refine ⟨by simp [k1],fun k l' hk=>?_⟩
   cases k with
   | zero=>simp at hk;subst hk;exact ⟨x,rfl,e1⟩
   | succ k=>simp at hk;exact k2 k l' hk
  ·cases h
def lksOf (xs:List (AV×Option Nat)):List (Nat×Nat×Nat)→Option (List (Nat×Nat))
 | []=>some []
 | l::r=>match posOf l.1 xs 0,lksOf xs r with
  | some p,some ps=>some ((p,l.2.1)::ps)
  | _,_=>none
theorem lksOf_at {xs:List (AV×Option Nat)}:∀{L:List (Nat×Nat×Nat)} {lk:List (Nat×Nat)},lksOf xs L=some lk→lk.length=L.length∧∀(k:Nat) (l:Nat×Nat×Nat),L[k]?=some l→∃p x,lk[k]?=some (p,l.2.1)∧xs[p]?=some (x,some l.1)
 | [],lk,h=>by
  simp only [lksOf,Option.some.injEq] at h
  subst h
  exact ⟨rfl,fun k l h=>by simp at h⟩
 | l::r,lk,h=>by
  unfold lksOf at h
  split at h
  ·rename_i p ps e1 e2
   injection h with h
   subst h
   obtain ⟨k1,k2⟩:=lksOf_at e2
   refine ⟨by simp [k1],fun k l' hk=>?_⟩
   cases k with
   | zero =>
    simp at hk;subst hk
    obtain ⟨_,x,hx⟩:=posOf_spec e1
    exact ⟨p,x,rfl,by simpa using hx⟩
   | succ k=>simp at hk;exact k2 k l' hk
  ·cases h
def ownsOf (s:St) (L:List (Nat×Nat×Nat)):List (AV×Option Nat):=L.map fun l=>(s l.2.2,some l.2.2)
def unlinkBoxes (s:St):List (AV×Option Nat)→St
 | []=>s
 | (x,some i)::r=>match x.boxC with
  | some cs=>unlinkBoxes (unlink s i 0 cs.length) r
  | none=>unlinkBoxes s r
 | (_,none)::r=>unlinkBoxes s r
theorem unlinkBoxes_spec:∀(xs:List (AV×Option Nat)) (s:St),(∀j,unlinkBoxes s xs j=s j∨(unlinkBoxes s xs j=.dead∧(s j).isOwner=false)) ∧
  (∀(x:AV) (i:Nat) (cs:List CV) (j off d:Nat),(x,some i)∈xs→x.boxC=some cs→(unlinkBoxes s xs j).hasLink i off d→off<cs.length→False)
 | [],s=>⟨fun j=>.inl rfl,fun x i cs j off d h=>by simp at h⟩
 | (x,none)::r,s=>by
  obtain ⟨h1,h2⟩:=unlinkBoxes_spec r s
  refine ⟨h1,fun x' i cs j off d hm=>?_⟩
  rcases List.mem_cons.1 hm with h | h
  ·cases h
  ·exact h2 x' i cs j off d h
 | (x,some i)::r,s=>by
  simp only [unlinkBoxes]
  cases hx:x.boxC with
  | some cs =>
   dsimp only
   obtain ⟨h1,h2⟩:=unlinkBoxes_spec r (unlink s i 0 cs.length)
   have h0:∀j,unlink s i 0 cs.length j=s j∨(unlink s i 0 cs.length j=.dead∧(s j).isOwner=false):=by
    intro j
    cases ho:(s j).isOwner with
    | true=>exact .inl (unlink_owner ho)
    | false=>rcases unlink_or s i 0 cs.length j with e | e
             ·exact .inl e
             ·exact .inr ⟨e,rfl⟩
   refine ⟨fun j=>?_,fun x' i' cs' j off d hm hb hl hlt=>?_⟩
   ·rcases h1 j with e | ⟨e,ho⟩
    ·rcases h0 j with e' | ⟨e',ho'⟩
     ·exact .inl (by rw [e,e'])
     ·exact .inr ⟨by rw [e,e'],ho'⟩
    ·refine .inr ⟨e,?_⟩
     rcases h0 j with e' | ⟨e',ho'⟩
     ·rw [←e'];exact ho
     ·exact ho'
   ·rcases List.mem_cons.1 hm with h | h
    ·injection h with h3 h4
     injection h4 with h4
     subst h3;subst h4
     rw [hx] at hb
     injection hb with hb
     subst hb
     have hlk:(unlink s i' 0 cs.length j).hasLink i' off d:=by
      rcases h1 j with e | ⟨e,_⟩
      ·rw [←e];exact hl
      ·rw [e] at hl;exact hl.elim
     have:unlink s i' 0 cs.length j=.dead:=by
      have hs:(s j).hasLink i' off d:=by
       rcases unlink_or s i' 0 cs.length j with e | e
       ·rw [←e];exact hlk
       ·rw [e] at hlk;exact hlk.elim
      unfold unlink
      rw [AV.linkIn_has hs (Nat.zero_le _) (by omega)]
     rw [this] at hlk;exact hlk.elim
    ·exact h2 x' i' cs' j off d h hb hl hlt
  | none =>
   dsimp only
   obtain ⟨h1,h2⟩:=unlinkBoxes_spec r s
   refine ⟨h1,fun x' i' cs j off d hm hb=>?_⟩
   rcases List.mem_cons.1 hm with h | h
   ·injection h with h3 h4
    subst h3
    rw [hx] at hb;cases hb
   ·exact h2 x' i' cs j off d h hb
def relink (s:St):List (Nat×Nat×Nat)→St
 | []=>s
 | l::r=>relink (fun j=>if j=LK l.1 l.2.1 then .link l.1 l.2.1 l.2.2 else s j) r
def growY (P:Program) (d:Nat) (s:St) (g:FuncId) (xs:List (AV×Option Nat)) (L:List (Nat×Nat×Nat)) (K:St→Prop):Option (List (Nat×Nat×List (List CV)))→Option (List (Nat×Nat))→Prop
 | some gi,some lk=>(slotsOf (xs++ownsOf s L)).Nodup∧(slotsOf (xs++ownsOf s L)).contains d=false∧∃r outs go,ACallsL P g (trAs (xs++ownsOf s L) xs) gi lk r outs go ∧
   ∀g',K (relink (Ab.put (setOuts (unlinkBoxes s xs) (xs++ownsOf s L) (outs++gownL g' 0 go)) d r.av) L)
 | _,_=>False
def growX (P:Program) (d:Nat) (s:St) (g:FuncId) (xs:List (AV×Option Nat)) (K:St→Prop) (L:List (Nat×Nat×Nat)):Prop:=growY P d s g xs L K (gisOf s L) (lksOf xs L)
def growC (P:Program) (n d:Nat) (s:St) (c:Prop×Option (FuncId×List (AV×Option Nat))) (K:St→Prop):Prop:=
 match c with
 | (p,some (g,xs))=>p∧d<n∧d<MARK∧growX P d s g xs K (linksOf s xs)
 | _=>False
def growO (P:Program) (n:Nat) (o:Oper) (s:St) (K:St→Prop):Prop:=
 o.guard=none∧match o.op,o.dst with
 | .call c,some d=>match c.callee with
  | .value f=>growC P n d s (calleeM s f c.args.toList) K
  | _=>False
 | _,_=>False
section
variable {P:Program} {S0:Env} {w0 w:World} {n:Nat} {s:St} {a:Act}
theorem slE_cases {x:AV} {e z:Nat} {xs:List (List CV)} (h:slE x=some (e,z,xs)):x=.own e z xs∨∃g,x=.gown g e z xs:=by
 cases x<;>first | (cases h;done) | skip
 ·simp only [slE,Option.some.injEq,Prod.mk.injEq] at h
  obtain ⟨rfl,rfl,rfl⟩:=h
  exact .inl rfl
 ·simp only [slE,Option.some.injEq,Prod.mk.injEq] at h
  obtain ⟨rfl,rfl,rfl⟩:=h
  exact .inr ⟨_,rfl⟩
theorem slE_bare {x:AV} {p:Nat×Nat×List (List CV)} (h:slE x=some p):x.bare=true∧x.isOwner=true:=by
 obtain ⟨e,z,xs⟩:=p
 rcases slE_cases h with rfl | ⟨g,rfl⟩<;>exact ⟨rfl,rfl⟩
theorem Rel.relink:∀(L:List (Nat×Nat×Nat)) {s:St},Rel S0 w0 n s a w →
  (∀l∈L,(s (LK l.1 l.2.1)).free=true∧(s l.2.2).isOwner=true∧∃cs b,(s l.1).boxC=some cs∧cs[l.2.1]?=some .any∧blkOf (s l.1) (tmOf a l.1)=some b∧w.cell? ⟨b,l.2.1,none⟩=some ((s l.2.2).valOf (tmOf a l.2.2)))→Rel S0 w0 n (Ab.relink s L) a w
 | [],_,hR,_=>hR
 | l::r,s,hR,h=>by
  obtain ⟨h1,h2,cs,b,h3,h4,h5,h6⟩:=h l (by simp)
  have hko:∀j,(s j).isOwner=true→j≠LK l.1 l.2.1:=by rintro j hj rfl;rw [free_owner h1] at hj;cases hj
  refine Rel.relink r (hR.addLink h1 h2 h3 h4 h5 h6) (fun l' hl'=>?_)
  obtain ⟨k1,k2,cs',b',k3,k4,k5,k6⟩:=h l' (by simp [hl'])
  simp only [if_neg (hko _ k2),if_neg (hko _ (AV.boxC_owner k3))]
  refine ⟨?_,k2,cs',b',k3,k4,k5,k6⟩
  split
  ·rfl
  ·exact k1
theorem growY_ok (hR:Rel S0 w0 n s a w) {g:FuncId} {xs:List (AV×Option Nat)} {vs:Array Value} {d:Nat} {L:List (Nat×Nat×Nat)} {gi:List (Nat×Nat×List (List CV))} {lk:List (Nat×Nat)} {r:RV} {outs:List AV} {go:List (Nat×Nat×List (List CV))} (hd:S0.m≤d∧d<n) (hdM:d<MARK)
  (hvs:∀(j:Nat) (y:AV×Option Nat),xs[j]?=some y→∃u,vs[j]?=some u∧IsArg S0 w0 s a w y u) (hsz:vs.size=xs.length) (hL:L=linksOf s xs) (hgi:gisOf s L=some gi) (hlk:lksOf xs L=some lk)
  (hnd:(slotsOf (xs++ownsOf s L)).Nodup) (hdn:(slotsOf (xs++ownsOf s L)).contains d=false) (hC:ACallsL P g (trAs (xs++ownsOf s L) xs) gi lk r outs go) :
  Calls P g vs w fun e w'=>∃v g',e=.returned v∧Rel S0 w0 n (Ab.relink (Ab.put (setOuts (unlinkBoxes s xs) (xs++ownsOf s L) (outs++gownL g' 0 go)) d r.av) L) (a.put (some d) v) w':=by
 obtain ⟨_,hfit,hgl,hgo,hrb,hcalls⟩:=hC
 obtain ⟨hgiL,hgia⟩:=gisOf_at hgi
 obtain ⟨hlkL,hlka⟩:=lksOf_at hlk
 have hfitl:xs.length=outs.length:=by rw [←(outsFit_at hfit).1,trAs_len]
 obtain ⟨hu1,hu2⟩:=unlinkBoxes_spec xs s
 have huo:∀j,(s j).isOwner=true→unlinkBoxes s xs j=s j:=by
  intro j hj
  rcases hu1 j with e | ⟨_,e⟩
  ·exact e
  ·rw [e] at hj;cases hj
 have hR0:Rel S0 w0 n (unlinkBoxes s xs) a w:=by
  refine hR.forget (fun j=>?_) (fun j k hjk=>?_)
  ·rcases hu1 j with e | ⟨e,_⟩
   ·exact .inl e
   ·exact .inr e
  ·refine huo k ?_
   rcases hu1 j with e | ⟨e,_⟩<;>rw [e] at hjk
   ·exact hR.wf j k hjk
   ·cases hjk
 have hblk0:∀j b,blkOf (unlinkBoxes s xs j) (tmOf a j)=some b↔blkOf (s j) (tmOf a j)=some b:=by
  intro j b
  rcases hu1 j with e | ⟨e,ho⟩
  ·rw [e]
  ·rw [e,blkOf_notOwner ho];simp [blkOf]
 have hsh0:∀b,Shared S0 w0.heap.size w s (tmOf a) b→Shared S0 w0.heap.size w (unlinkBoxes s xs) (tmOf a) b:=fun b hb=>⟨hb.1,hb.2.1,fun j hj=>hb.2.2 j ((hblk0 j b).1 hj)⟩
 have harg0:∀{y:AV×Option Nat} {u:Value},IsArg S0 w0 s a w y u→IsArg S0 w0 (unlinkBoxes s xs) a w y u:=by
  rintro ⟨y,q⟩ u hi
  cases q with
  | some i =>
   obtain ⟨h1,h2,h3,h4⟩:=hi
   dsimp only at h1
   exact ⟨by rw [huo i (by rw [h1];exact h3)];exact h1,h2,h3,h4⟩
  | none =>
   obtain ⟨h1,h2⟩:=hi
   refine ⟨h1,RepAV.mono h2 hsh0 (fun _ _=>rfl) (fun _ _=>rfl) (fun i hi=>?_) (fun i off d cs b hl hs _=>?_)⟩
   ·refine ⟨rfl,fun ho=>by rw [huo i ho];exact ⟨ho,rfl,rfl,rfl⟩,fun b hb=>(hblk0 i b).2 hb⟩
   ·exact ⟨⟨cs,by rw [huo i (AV.boxC_owner hs)];exact hs,rfl⟩,rfl⟩
 have hown:∀{k:Nat} {l:Nat×Nat×Nat},L[k]?=some l→(s l.2.2).isOwner=true∧(s l.2.2).bare=true:=by
  intro k l hk
  obtain ⟨x,_,h2⟩:=hgia k l hk
  exact ⟨(slE_bare h2).2,(slE_bare h2).1⟩
 let vz:Array Value:=vs++(L.map fun l=>tmOf a l.2.2).toArray
 have hvz1:∀j,j<xs.length→vz[j]?=vs[j]?:=fun j hj=>Array.getElem?_append_left (by omega)
 have hvz2:∀k,vz[xs.length+k]?=(L[k]?).map fun l=>tmOf a l.2.2:=by
  intro k
  show (vs++(L.map fun l=>tmOf a l.2.2).toArray)[xs.length+k]?=_
  rw [Array.getElem?_append_right (by omega),show xs.length+k-vs.size=k by omega]
  simp
 have hys1:∀j,j<xs.length→(xs++ownsOf s L)[j]?=xs[j]?:=fun j hj=>List.getElem?_append_left hj
 have hys2:∀k,(xs++ownsOf s L)[xs.length+k]?=(L[k]?).map fun l=>(s l.2.2,some l.2.2):=by
  intro k
  rw [List.getElem?_append_right (by omega),show xs.length+k-xs.length=k by omega]
  simp [ownsOf]
 have hcase:∀(j:Nat) (y:AV×Option Nat),(xs++ownsOf s L)[j]?=some y→(j<xs.length∧xs[j]?=some y)∨∃k l,j=xs.length+k∧L[k]?=some l∧y=(s l.2.2,some l.2.2):=by
  intro j y hj
  by_cases hlt:j<xs.length
  ·rw [hys1 j hlt] at hj;exact .inl ⟨hlt,hj⟩
  ·obtain ⟨k,rfl⟩:∃k,j=xs.length+k:=⟨j-xs.length,by omega⟩
   rw [hys2] at hj
   cases hl:L[k]? with
   | none=>rw [hl] at hj;cases hj
   | some l =>
    rw [hl] at hj
    injection hj with hj
    exact .inr ⟨k,l,rfl,hl,hj.symm⟩
 have hval:∀(j:Nat) (y:AV×Option Nat),(xs++ownsOf s L)[j]?=some y→∃u,vz[j]?=some u∧IsArg S0 w0 s a w y u:=by
  intro j y hj
  rcases hcase j y hj with ⟨hlt,h⟩ | ⟨k,l,rfl,hl,rfl⟩
  ·obtain ⟨u,hu,hi⟩:=hvs j y h
   exact ⟨u,by rw [hvz1 j hlt];exact hu,hi⟩
  ·refine ⟨tmOf a l.2.2,by rw [hvz2,hl];rfl,rfl,(hown hl).2,(hown hl).1,rfl⟩
 let G:Nat→Value:=fun k=>match L[k]? with
  | some l=>(s l.2.2).valOf (tmOf a l.2.2)
  | none=>undef
 have hG:∀{k:Nat} {l:Nat×Nat×Nat},L[k]?=some l→G k=(s l.2.2).valOf (tmOf a l.2.2):=by
  intro k l hk
  show (match L[k]? with | some l=>(s l.2.2).valOf (tmOf a l.2.2) | none=>undef)=_
  rw [hk]
 let A:List AV:=trAs (xs++ownsOf s L) xs++gownL G 0 gi
 have hA1:∀j,j<xs.length→A[j]?=(xs[j]?).map fun y=>trA (xs++ownsOf s L) y.1:=fun j hj=>by
  show (trAs (xs++ownsOf s L) xs++gownL G 0 gi)[j]?=_
  rw [List.getElem?_append_left (by rw [trAs_len];exact hj),trAs_at]
 have hA2:∀k,A[xs.length+k]?=(gi[k]?).map fun x=>AV.gown (G k) x.1 x.2.1 x.2.2:=by
  intro k
  show (trAs (xs++ownsOf s L) xs++gownL G 0 gi)[xs.length+k]?=_
  rw [List.getElem?_append_right (by rw [trAs_len];omega),trAs_len,show xs.length+k-xs.length=k by omega,gownL_at,Nat.zero_add]
 have hArgs:Args S0 w0 s a w (xs++ownsOf s L) vz A vs:=by
  refine ⟨hval,?_,?_,fun j y hj=>?_⟩
  ·show (trAs (xs++ownsOf s L) xs++gownL G 0 gi).length=_
   simp [trAs_len,gownL_len,hgiL,ownsOf]
  ·simp only [List.length_append];omega
  ·rcases hcase j y hj with ⟨hlt,h⟩ | ⟨k,l,rfl,hl,rfl⟩
   ·refine .inl ⟨by rw [hA1 j hlt,h];rfl,?_⟩
    unfold tmV
    rw [hvz1 j hlt]
   ·obtain ⟨⟨e,z,ys⟩,h1,h2⟩:=hgia k l hl
    refine .inr (.inr ⟨G k,e,z,ys,slE_cases h2,by rw [hA2,h1];rfl,?_⟩)
    rw [hG hl]
    unfold tmV
    rw [hvz2,hl]
    rfl
 let E:Env:=⟨Shared S0 w0.heap.size w s (tmOf a),fun b=>∃i,i∈slotsOf (xs++ownsOf s L)∧blkOf (s i) (tmOf a i)=some b,0,fun _=>undef⟩
 have hE:Base E w:=by
  refine ⟨fun b hb=>hb.2.1,fun b ⟨i,_,hi⟩=>((hR.rep i).blk_lt hi).2,fun b hb ⟨i,_,hi⟩=>hb.2.2 i hi,hR.lt.amb' hR.below,fun b hb ⟨i,_,hi⟩=>?_⟩
  rcases ((hR.rep i).blk_lt hi).1 with h | h
  ·have:=Amb.lt hR.lt.amb hb;omega
  ·exact hR.lt.far b hb h
 have hRep:RepMs w E A vs:=hArgs.rep hR hnd rfl (fun b=>Iff.rfl)
 have hlink:∀{k:Nat} {l:Nat×Nat×Nat},L[k]?=some l→∃cs b p x,(s l.1).boxC=some cs∧cs[l.2.1]?=some .any∧blkOf (s l.1) (tmOf a l.1)=some b∧w.cell? ⟨b,l.2.1,none⟩=some ((s l.2.2).valOf (tmOf a l.2.2))∧lk[k]?=some (p,l.2.1)∧xs[p]?=some (x,some l.1)∧p<xs.length∧s l.1=x∧x.bare=true∧vs[p]?=some (tmOf a l.1):=by
  intro k l hk
  have hs:=linksOf_spec (s:=s) (xs:=xs) (l:=l) (by rw [←hL];exact List.mem_of_getElem? hk)
  have hrep:=hR.rep (LK l.1 l.2.1)
  rw [hs] at hrep
  obtain ⟨_,cs,b,h1,h2,h3,h4⟩:=hrep
  obtain ⟨p,x,h5,h6⟩:=hlka k l hk
  obtain ⟨u,h7,h8,h9,_,h10⟩:=hvs p _ h6
  exact ⟨cs,b,p,x,h1,h2,h3,h4,h5,h6,(List.getElem?_eq_some_iff.1 h6).1,h8,h9,by rw [h7,h10]⟩
 have htrA:∀{x:AV} {Z:List (AV×Option Nat)},x.bare=true→trA Z x=x:=by
  intro x Z hx
  cases x<;>first | rfl | (simp [AV.bare] at hx)
 have hlt0:∀(k i off:Nat),lk[k]?=some (i,off)→∃l,L[k]?=some l:=fun k i off h=>⟨_,List.getElem?_eq_getElem (by rw [←hlkL];exact (List.getElem?_eq_some_iff.1 h).1)⟩
 have hLin:LinksIn w (argSt A) (tmV vs) lk (trAs (xs++ownsOf s L) xs).length:=by
  rw [trAs_len]
  intro k i off hk
  obtain ⟨l,hl⟩:=hlt0 k i off hk
  obtain ⟨cs,b,p,x,h1,h2,h3,h4,h5,h6,h7,h8,h9,h10⟩:=hlink hl
  rw [hk] at h5
  simp only [Option.some.injEq,Prod.mk.injEq] at h5
  obtain ⟨rfl,rfl⟩:=h5
  obtain ⟨⟨e,z,ys⟩,g1,g2⟩:=hgia k l hl
  have ea:argSt A i=s l.1:=by unfold argSt;rw [hA1 i h7,h6];simp [htrA h9,h8]
  have eg:argSt A (xs.length+k)=.gown (G k) e z ys:=by unfold argSt;rw [hA2,g1];rfl
  refine ⟨by rw [eg];rfl,cs,b,by rw [ea];exact h1,h2,?_,?_⟩
  ·rw [ea,tmV_some h10];exact h3
  ·rw [eg,h4,←hG hl];rfl
 refine (hcalls w E vs G hE hRep hLin).mono ?_
 rintro e w' ⟨v,g',rfl,hkept,hr,hout,hinj,hLo⟩
 refine ⟨v,g',rfl,?_⟩
 have hO1:∀j,j<xs.length→(outs++gownL g' 0 go)[j]?=outs[j]?:=fun j hj=>List.getElem?_append_left (by omega)
 have hO2:∀k,(outs++gownL g' 0 go)[xs.length+k]?=(go[k]?).map fun x=>AV.gown (g' k) x.1 x.2.1 x.2.2:=by
  intro k
  rw [List.getElem?_append_right (by omega),show xs.length+k-outs.length=k by omega,gownL_at,Nat.zero_add]
 have hzl:(xs++ownsOf s L).length=(outs++gownL g' 0 go).length:=by
  simp [gownL_len,ownsOf,hgo,hlkL,hfitl]
 have hfitA:∀(j:Nat) (x:AV×Option Nat) (o:AV),(xs++ownsOf s L)[j]?=some x→(outs++gownL g' 0 go)[j]?=some o→outFitsG x.1 o=true:=by
  intro j x o h1 h2
  rcases hcase j x h1 with ⟨hlt,h⟩ | ⟨k,l,rfl,hl,rfl⟩
  ·rw [hO1 j hlt] at h2
   exact outFitsG_of (trA_fits ((outsFit_at hfit).2 j _ o (by rw [trAs_at,h];rfl) h2))
  ·rw [hO2] at h2
   cases hgk:go[k]? with
   | none=>rw [hgk] at h2;cases h2
   | some q =>
    rw [hgk] at h2
    injection h2 with h2
    subst h2
    obtain ⟨⟨e,z,ys⟩,_,g2⟩:=hgia k l hl
    dsimp only
    rcases slE_cases g2 with e1 | ⟨_,e1⟩<;>rw [e1]<;>rfl
 have hslot0:∀{j:Nat} {x:AV} {i:Nat},(xs++ownsOf s L)[j]?=some (x,some i)→unlinkBoxes s xs i=x∧x.bare=true∧x.isOwner=true∧s i=x:=by
  intro j x i h
  obtain ⟨u,hu,hs,hb,ho,_⟩:=hval j _ h
  dsimp only at hs hb ho
  exact ⟨by rw [huo i (by rw [hs];exact ho)];exact hs,hb,ho,hs⟩
 have hAs:AfterSt (unlinkBoxes s xs) (setOuts (unlinkBoxes s xs) (xs++ownsOf s L) (outs++gownL g' 0 go)) (pairs (xs++ownsOf s L) (outs++gownL g' 0 go)):=by
  refine setOuts_after _ _ _ hR0.wf hnd hzl (fun j x i o h1 h2=>?_)
  obtain ⟨e1,e2,e3,_⟩:=hslot0 h1
  rw [e1]
  have hf:=hfitA j _ o h1 h2
  refine ⟨hf,e3,?_⟩
  cases x<;>cases o<;>first | rfl | (simp [outFitsG,outFits] at hf)
 have hbv:∀(j:Nat) (o:AV),(outs++gownL g' 0 go)[j]?=some o→∀b,blkOf o (tmV vz j)=some b↔blkOf o (tmV vs j)=some b:=by
  intro j o h b
  by_cases hlt:j<xs.length
  ·have:tmV vz j=tmV vs j:=by unfold tmV;rw [hvz1 j hlt]
   rw [this]
  ·obtain ⟨k,rfl⟩:∃k,j=xs.length+k:=⟨j-xs.length,by omega⟩
   rw [hO2] at h
   cases hgk:go[k]? with
   | none=>rw [hgk] at h;cases h
   | some q=>rw [hgk] at h;injection h with h;subst h;exact Iff.rfl
 have haft:After w w' E (outs++gownL g' 0 go) vs=After w w' E (outs++gownL g' 0 go) vz:=by
  funext b
  have:Owned (outs++gownL g' 0 go) vs b↔Owned (outs++gownL g' 0 go) vz b:=
   ⟨fun ⟨j,o,h1,h2⟩=>⟨j,o,h1,(hbv j o h1 b).2 h2⟩,fun ⟨j,o,h1,h2⟩=>⟨j,o,h1,(hbv j o h1 b).1 h2⟩⟩
  simp only [After,this]
 rw [haft] at hr hout
 have hErd:E.rd=Shared S0 w0.heap.size w (unlinkBoxes s xs) (tmOf a):=by
  funext b
  exact propext ⟨hsh0 b,fun hb=>⟨hb.1,hb.2.1,fun j hj=>hb.2.2 j ((hblk0 j b).2 hj)⟩⟩
 have hElent:∀b,E.lent b↔∃i,i∈slotsOf (xs++ownsOf s L)∧blkOf (unlinkBoxes s xs i) (tmOf a i)=some b:=
  fun b=>⟨fun ⟨i,h1,h2⟩=>⟨i,h1,(hblk0 i b).2 h2⟩,fun ⟨i,h1,h2⟩=>⟨i,h1,(hblk0 i b).1 h2⟩⟩
 have hnl:∀(j i off d:Nat),(unlinkBoxes s xs j).hasLink i off d→i∈slotsOf (xs++ownsOf s L)→False:=by
  intro j i off d' hl hi
  obtain ⟨_,cs,b,k1,k2,_⟩:=(hR0.rep j).link_spec hl
  unfold slotsOf at hi
  rw [List.mem_filterMap] at hi
  obtain ⟨⟨x,q⟩,hm,hq⟩:=hi
  dsimp only at hq
  subst hq
  obtain ⟨j',hj'⟩:=List.getElem?_of_mem hm
  obtain ⟨e1,e2,e3,e4⟩:=hslot0 hj'
  rw [e1] at k1
  rcases hcase j' _ hj' with ⟨hlt,h⟩ | ⟨k,l,rfl,hl',e⟩
  ·exact hu2 x i cs j off d' (List.mem_of_getElem? h) k1 hl (List.getElem?_eq_some_iff.1 k2).1
  ·injection e with e5 e6
   injection e6 with e6
   obtain ⟨⟨e,z,ys⟩,_,g2⟩:=hgia k l hl'
   rw [e5] at k1
   rcases slE_cases g2 with e1 | ⟨_,e1⟩<;>rw [e1] at k1<;>cases k1
 have hoj:∀(j:Nat) (o:AV),(outs++gownL g' 0 go)[j]?=some o→RepAV w' (fun b=>After w w' E (outs++gownL g' 0 go) vz b∧r.blk v≠some b) (fun b=>E.lent b∨w.heap.size≤b) deadSt noTm o (tmV vz j):=by
  intro j o h
  have h1:=hout j o h
  have hobare:o.bare=true:=by
   obtain ⟨y,hy⟩:∃y,(xs++ownsOf s L)[j]?=some y:=⟨_,List.getElem?_eq_getElem (by rw [hzl];exact (List.getElem?_eq_some_iff.1 h).1)⟩
   have hf:=hfitA j y o hy h
   obtain ⟨y,q⟩:=y
   dsimp only at hf
   cases y<;>cases o<;>first | rfl | (simp [outFitsG,outFits] at hf)
  have h2:RepAV w' (fun b=>After w w' E (outs++gownL g' 0 go) vz b∧r.blk v≠some b) (fun b=>E.lent b∨w.heap.size≤b) deadSt noTm o (tmV vs j):=
   h1.bare hobare (fun b hb=>⟨hb,by rw [hrb];simp⟩) (fun b _ h=>h)
  by_cases hlt:j<xs.length
  ·have:tmV vz j=tmV vs j:=by unfold tmV;rw [hvz1 j hlt]
   rw [this];exact h2
  ·obtain ⟨k,rfl⟩:∃k,j=xs.length+k:=⟨j-xs.length,by omega⟩
   rw [hO2] at h
   cases hgk:go[k]? with
   | none=>rw [hgk] at h;cases h
   | some q=>rw [hgk] at h;injection h with h;subst h;exact h2
 have hL1:=hR0.lentBack (E:=E) (vs:=vz) (r:=r) (v:=v) hd (fun j y hj=>let ⟨u,hu,hi⟩:=hval j y hj;⟨u,hu,harg0 hi⟩) hzl hfitA hnl
  (fun i j x y b h1 h2 h3 h4=>hinj i j x y b h1 ((hbv i x h1 b).1 h2) h3 ((hbv j y h3 b).1 h4)) hErd hElent hkept hr (fun b hb=>by rw [hrb] at hb;cases hb) hoj hAs
 refine Rel.relink L hL1 (fun l hl=>?_)
 obtain ⟨k,hk⟩:=List.getElem?_of_mem hl
 obtain ⟨cs,b,p,x,h1,h2,h3,h4,h5,h6,h7,h8,h9,h10⟩:=hlink hk
 obtain ⟨m1,cs',b',m2,m3,m4,m5⟩:=hLo k p l.2.1 h5
 rw [trAs_len] at m1 m5
 have hyp:(xs++ownsOf s L)[p]?=some (x,some l.1):=by rw [hys1 p h7];exact h6
 have hyk:(xs++ownsOf s L)[xs.length+k]?=some (s l.2.2,some l.2.2):=by rw [hys2,hk];rfl
 obtain ⟨o1,ho1⟩:∃o,(outs++gownL g' 0 go)[p]?=some o:=⟨_,List.getElem?_eq_getElem (by rw [←hzl];exact (List.getElem?_eq_some_iff.1 hyp).1)⟩
 obtain ⟨o2,ho2⟩:∃o,(outs++gownL g' 0 go)[xs.length+k]?=some o:=⟨_,List.getElem?_eq_getElem (by rw [←hzl];exact (List.getElem?_eq_some_iff.1 hyk).1)⟩
 have ea:argSt (outs++gownL g' 0 go) p=o1:=by unfold argSt;rw [ho1];rfl
 have eg:argSt (outs++gownL g' 0 go) (xs.length+k)=o2:=by unfold argSt;rw [ho2];rfl
 have hs1:=hAs.new _ _ (mem_pairs hyp ho1)
 have hs2:=hAs.new _ _ (mem_pairs hyk ho2)
 have hne:∀{j:Nat} {y:AV} {i:Nat},(xs++ownsOf s L)[j]?=some (y,some i)→i≠d:=by
  rintro j y i h rfl
  have:=mem_slots h
  have hc:(slotsOf (xs++ownsOf s L)).contains i=true:=by simpa using this
  rw [hc] at hdn;cases hdn
 have hnd1:=hne hyp
 have hnd2:=hne hyk
 have ho1o:o1.isOwner=true:=by rw [←ea];exact AV.boxC_owner m2
 have ho2o:o2.isOwner=true:=by rw [←eg];exact m1
 have hp1:Ab.put (setOuts (unlinkBoxes s xs) (xs++ownsOf s L) (outs++gownL g' 0 go)) d r.av l.1=o1:=by rw [put_owner hnd1 (by rw [hs1];exact ho1o),hs1]
 have hp2:Ab.put (setOuts (unlinkBoxes s xs) (xs++ownsOf s L) (outs++gownL g' 0 go)) d r.av l.2.2=o2:=by rw [put_owner hnd2 (by rw [hs2];exact ho2o),hs2]
 have hdt:d<a.tmps.size:=by rw [hR.size];exact hd.2
 have htm:=tmOf_put a d v hdt
 rw [ea] at m2 m4
 rw [eg] at m5
 rw [hp1,hp2]
 have hfree:∀{t:St},(t (LK l.1 l.2.1)).free=true→(Ab.put t d r.av (LK l.1 l.2.1)).free=true:=by
  intro t ht
  have hkd:LK l.1 l.2.1≠d:=by unfold LK;unfold MARK at hdM;omega
  rcases put_other (s:=t) (v:=r.av) hkd with e | ⟨_,_,e⟩
  ·rw [e];exact ht
  ·rw [e];rfl
 refine ⟨hfree ?_,ho2o,cs',b',m2,m3,?_,?_⟩
 ·have hsl:=linksOf_spec (s:=s) (xs:=xs) (l:=l) (by rw [←hL];exact hl)
  have hnp:∀o,(LK l.1 l.2.1,o)∉pairs (xs++ownsOf s L) (outs++gownL g' 0 go):=by
   intro o ho
   obtain ⟨j,y,e1,_⟩:=pairs_mem ho
   obtain ⟨_,_,e2,e3⟩:=hslot0 e1
   rw [hsl] at e3
   rw [←e3] at e2;cases e2
  rcases hAs.old _ hnp with e | ⟨e,_⟩
  ·rw [e]
   rcases hu1 (LK l.1 l.2.1) with e' | ⟨e',_⟩
   ·rw [e',hsl];rfl
   ·rw [e'];rfl
  ·rw [e];rfl
 ·rw [htm,if_neg hnd1]
  rw [tmV_some h10] at m4
  exact m4
 ·rw [m5]
  rw [hO2] at ho2
  cases hgk:go[k]? with
  | none=>rw [hgk] at ho2;cases ho2
  | some q=>rw [hgk] at ho2;injection ho2 with ho2;subst ho2;rfl
theorem growO_ok (hR:Rel S0 w0 n s a w) (o:Oper) (hdm:∀d,o.dst=some d→S0.m≤d) {K:St→Prop} (h:growO P n o s K) {K':Act→World→Prop} {Q:Exit→Act→World→Prop}
  (hK:∀s' a' w',Rel S0 w0 n s' a' w'→K s'→K' a' w'):o.wp P a w K' Q:=by
 obtain ⟨hgd,h⟩:=h
 split at h
 ·rename_i c d hop hdst
  split at h
  ·rename_i f hcf
   unfold growC at h
   split at h
   ·rename_i pp g ys e0
    obtain ⟨hpp,hdn,hdM,h⟩:=h
    obtain ⟨caps,xs,p,q,fv,ef,e2,e1,rfl,rfl⟩:∃caps xs p q fv,sv s f=(p,fv)∧argMs s c.args.toList=(q,some xs)∧fnM s fv=some (g,caps)∧pp=(p∧q)∧ys=xs++caps:=by
     unfold calleeM at e0
     split at e0
     ·rename_i p fv q xs ef e2
      split at e0
      ·rename_i g' caps e1
       simp only [Prod.mk.injEq,Option.some.injEq] at e0
       obtain ⟨rfl,rfl,rfl⟩:=e0
       exact ⟨caps,xs,p,q,fv,ef,e2,e1,rfl,rfl⟩
      ·simp at e0
     ·simp at e0
    obtain ⟨hpf,hp⟩:=hpp
    have hsvf:=hR.sv f (by rw [ef];exact hpf)
    rw [ef] at hsvf
    obtain ⟨us,hfv,hul,hcap⟩:=fnM_ok hR hsvf e1
    obtain ⟨hal,harg⟩:=argMs_ok hR e2 hp
    have hm:c.args.map a.eval=(c.args.toList.map a.eval).toArray:=by apply Array.ext';simp
    have hvs:∀(j:Nat) (y:AV×Option Nat),(xs++caps)[j]?=some y→∃u,((c.args.toList.map a.eval).toArray++us)[j]?=some u∧IsArg S0 w0 s a w y u:=by
     intro j y hj
     by_cases hlt:j<xs.length
     ·rw [List.getElem?_append_left hlt] at hj
      obtain ⟨u,hu,hi⟩:=harg j y hj
      refine ⟨u,?_,hi⟩
      rw [Array.getElem?_append_left (by simp [←hal];exact hlt)]
      simpa using hu
     ·rw [List.getElem?_append_right (by omega)] at hj
      obtain ⟨u,hu,hi⟩:=hcap _ y hj
      refine ⟨u,?_,hi⟩
      rw [Array.getElem?_append_right (by simp [←hal];omega)]
      simpa [hal] using hu
    have hsz:((c.args.toList.map a.eval).toArray++us).size=(xs++caps).length:=by simp [hal,hul]
    unfold growX growY at h
    split at h
    ·rename_i gi lk hgi hlk
     obtain ⟨hnd,hdc,r,outs,go,hC,hk⟩:=h
     have hcalls:=growY_ok (P:=P) hR ⟨hdm d hdst,hdn⟩ hdM hvs hsz rfl hgi hlk hnd hdc hC
     obtain ⟨fn,hfn,hname,hbody⟩:=hC.1
     have hrun:(execOp a.eval o).run P w=.ok (.enter g (c.args.map a.eval++us)) w:=by
      obtain ⟨callee,args,ts⟩:=c
      dsimp only at hcf
      subst hcf
      simp only [execOp,hop,resolve,hfv,Deferred.ofValue,Sem.run_bind,Sem.run_pure,Result.andThen_ok,invoke,callFunc,run_program,hfn,hname,hbody,Bool.false_eq_true,if_false]
      simp
     unfold Oper.wp
     rw [hrun]
     simp only [Oper.upon]
     rw [hm,hdst]
     refine hcalls.mono ?_
     rintro e w' ⟨v,g',rfl,hR'⟩
     exact hK _ _ _ hR' (hk g')
    ·exact h.elim
   ·exact h.elim
  ·exact h.elim
 ·exact h.elim
end
end Go.Ab
namespace Go.Ab
open Go Go.RowKit
variable [Amb]
section
variable {P:Program} {S0:Env} {w0 w:World} {n:Nat} {s:St} {a:Act}
theorem run_append_nothing (base:Nat) (t ty e:TypeId) (i:TypeInfo) (size:Nat) (ht:P.underlying t=some (.slice e)) (hi:P.info? e=some i)
  (v:Value) (n:Nat) (xs:List Value) (hown:w.ownsT base e size v n xs) (c:Nat):(Builtin.append_ #[t,t] ty #[v,.slice none 0 c]).run P w=.ok v w:=by
 rcases hown.2 with ⟨rfl,rfl⟩ | ⟨g,cap,cur,rfl,_,_,hnc,_⟩
 ·simp [Builtin.append_,run_underlying ht,sizeOf,typeInfo,hi,Builtin.lenOf,Builtin.firstCells]
 ·simp [Builtin.append_,run_underlying ht,sizeOf,typeInfo,hi,Builtin.lenOf,Builtin.firstCells,hnc,storeCells]
def bytesT (P:Program) (e:TypeId):Option Nat:=(P.info? e).map (·.bytes)
def sourceOf (s:St):AV→Option (Option Nat×Option TypeId×Nat×List (List CV))
 | .x (.one .nil)=>some (none,none,0,[])
 | .alias i=>match s i with
  | .own e size xs=>some (some i,some e,size,xs)
  | .gown _ e size xs=>some (some i,some e,size,xs)
  | _=>none
 | .view i _ len true=>match s i with
  | .own e size xs=>some (some i,some e,size,xs.take len)
  | _=>none
 | _=>none
def zerosOf:AV→Option Int
 | .x (.one (.int _ n))=>some n
 | _=>none
def aappend0 (P:Program) (s:St) (t t':TypeId) (x y:Prop×AV):Prop×St×AV:=
 match rowT P t with
 | some (e,size,zc) =>
  match bytesT P e,sourceOf s x.2,newsOf s size y.2 with
  | some bytes,some (some i,some e',size',xs),some ys=>(x.1∧y.1∧t=t'∧e'=e∧size'=size∧(xs.length+ys.length)*bytes≤140737488355328∧xs.length+ys.length≤maxLen,put s i .dead,.own e size (xs++ys))
  | some bytes,some (none,_,_,_),some ys=>(x.1∧y.1∧t=t'∧ys.length*bytes≤140737488355328∧ys.length≤maxLen,s,.own e size ys)
  | some bytes,some (none,_,_,_),none=>match zerosOf y.2 with
   | some k=>(x.1∧y.1∧(intT P t').isSome=true∧0<k∧k*bytes≤140737488355328∧k≤maxLen,s,.own e size (List.replicate k.toNat zc))
   | none=>(False,s,.dead)
  | _,_,_=>(False,s,.dead)
 | none=>(False,s,.dead)
theorem rowT_zero {t e:TypeId} {size:Nat} {zc:List CV} (h:rowT P t=some (e,size,zc)):∃i z,P.underlying t=some (.slice e)∧P.info? e=some i∧i.zero=some z∧i.size=size∧0<size∧z.cells.size=size:=by
 unfold rowT at h
 split at h
 ·rename_i e' size' hT
  split at h
  ·rename_i z hz
   split at h
   ·rename_i hzl
    injection h with h
    simp only [Prod.mk.injEq] at h
    obtain ⟨rfl,rfl,rfl⟩:=h
    obtain ⟨i,hu,hi,hs,hp⟩:=sliceT_ok hT
    unfold zeroOf at hz
    rw [hi] at hz
    simp only at hz
    split at hz
    ·rename_i zv hzv
     split at hz
     ·injection hz with hz
      subst hz
      exact ⟨i,zv,hu,hi,hzv,hs,hp,by simpa using hzl⟩
     ·cases hz
    ·cases hz
   ·cases h
  ·cases h
 ·cases h
theorem run_append_all {t ty e:TypeId} {size bytes:Nat} {zc:List CV} (hT:rowT P t=some (e,size,zc)) (hb:bytesT P e=some bytes) {v:Value} {n:Nat} {xs:List Value} {base:Nat}
  (hown:w.ownsT base e size v n xs) {b:Option Addr} {m c:Nat} {us:List Value} (hul:us.length=m*size) (hb0:b=none→m=0) (hcell:∀ad,b=some ad→∀j u,us[j]?=some u→w.cell? (ad.add j)=some u)
  (h1:∀u∈us,u.oneCell'=true) (h63:n+m≤maxLen) (hbytes:(n+m)*bytes≤140737488355328) (hbase:base≤w.heap.size) :
  ∃v' w',(Builtin.append_ #[t,t] ty #[v,.slice b m c]).run P w=.ok v' w'∧w'.ownsT base e size v' (n+m) (xs++us)∧w.grownBy w' v.ownBlock∧(v'.ownBlock=v.ownBlock∨v'.ownBlock=some w.heap.size):=by
 obtain ⟨i,z,hu,hi,hz,hs,hpos,hzs⟩:=rowT_zero hT
 have hby:i.bytes=bytes:=by unfold bytesT at hb;rw [hi] at hb;simpa using hb
 cases b with
 | none =>
  obtain rfl:=hb0 rfl
  have hus:us=[]:=List.eq_nil_of_length_eq_zero (by simpa using hul)
  subst hus
  exact ⟨v,w,run_append_nothing base t ty e i size hu hi v n xs hown c,by simpa using hown,World.grownBy.refl w _,.inl rfl⟩
 | some ad =>
  obtain ⟨v',w',hrun,h2,h3,h5⟩:=run_append_own_T (P:=P) w base t ty e i z size bytes hu hi hz hs hby hzs hpos v n xs hown ad m c us hul (hcell ad rfl) h1 h63 hbytes hbase
  exact ⟨v',w',hrun,h2,h3,h5⟩
theorem run_append_zeros {t t' ty e:TypeId} {size bytes:Nat} {zc:List CV} (hT:rowT P t=some (e,size,zc)) (hb:bytesT P e=some bytes) (hk:(intT P t').isSome=true) (k:IntKind) (m:Nat) (h0:0<m) (h7:m≤maxLen) (h6:m*bytes≤140737488355328) :
  ∃v w' us,(Builtin.append_ #[t,t'] ty #[.slice none 0 0,.int k m]).run P w=.ok v w'∧w'.ownsT 0 e size v (List.replicate m zc).length us∧(∀S,RepL w S (List.replicate m zc).flatten us)∧(∀x∈List.replicate m zc,x.length=size)∧w.grownBy w' none∧v.ownBlock=some w.heap.size:=by
 obtain ⟨i,z,hu,hi,hz,hs,hpos,hzs⟩:=rowT_zero hT
 obtain ⟨i',z',_,hi',_,_,hzr,hrep,hzl⟩:=rowT_ok (w:=w) hT
 have hzz:z'=z:=by
  have:(zeroValue e).run P w=.ok z w:=by simp [zeroValue,typeInfo,hi,hz]
  rw [this] at hzr
  injection hzr with h;exact h.symm
 subst hzz
 have hby:i.bytes=bytes:=by unfold bytesT at hb;rw [hi] at hb;simpa using hb
 have hkn:∃kn,P.underlying t'=some (.int kn):=by
  unfold intT at hk
  split at hk
  ·rename_i kn h;exact ⟨kn,h⟩
  ·cases hk
 obtain ⟨kn,hkn⟩:=hkn
 have hrun:=Go.Lib.run_append_nil_zeros (P:=P) w t t' ty e i z' k kn hu hkn hi hz m h0 (by omega) (by simp only [maxLen] at h7;omega) (by rw [hby];omega)
 have hge:=grownCap_ge w m 0 e
 have hcm:=grownCap_le_maxLen w m 0 e h7
 refine ⟨_,_,(Builtin.zeroCells z'.cells m).toList,hrun,⟨by simp [size_zeroCells,hzs],.inr ⟨w.heap.size,grownCap w m 0 e,_,by rw [List.length_replicate],Nat.zero_le _,⟨_,heap_alloc_new w.drew _,.inl rfl⟩,by simpa using hge,hcm,?_,?_⟩⟩,fun S=>?_,fun x hx=>by rw [List.eq_of_mem_replicate hx,hzl],⟨rfl,rfl,rfl,by simp,fun k hk _=>Lib.alloc_old w.drew _ k hk⟩,rfl⟩
 ·simp only [Array.size_append,size_zeroCells,hzs,←Nat.add_mul]
  congr 1;omega
 ·rw [List.length_replicate,Array.toList_append,List.take_append_of_le_length (by simp [size_zeroCells,hzs]),List.take_of_length_le (by simp [size_zeroCells,hzs])]
 ·have:=zeros_rep (hrep S) m
  exact this
theorem ownRep {S:Nat→Prop} {xs ys:List (List CV)} {us vs:List Value} (hl:RepL w S xs.flatten us) (hk:RepL w S ys.flatten vs):RepL w S (xs++ys).flatten (us++vs):=by
 rw [List.flatten_append]
 refine ⟨by simp [hl.1,hk.1],fun j c hj=>?_⟩
 rw [List.getElem?_append] at hj ⊢
 rw [hl.1]
 split at hj
 ·rename_i h;rw [if_pos h];exact hl.2 _ _ hj
 ·rename_i h;rw [if_neg h];exact hk.2 _ _ hj
theorem sourceOf_own (hR:Rel S0 w0 n s a w) {p:Prop} {x:AV} {u:Value} (hx:Knows S0 w0 s a w (p,x) u) (hp:p) {i e size:Nat} {xs:List (List CV)} (h:sourceOf s x=some (some i,some e,size,xs)) :
  (s i).isOwner=true∧(∀b,u.ownBlock=some b→blkOf (s i) (tmOf a i)=some b)∧(∀b,blkOf (s i) (tmOf a i)=some b→OwnB S0 w0.heap.size b) ∧
   ∃us,w.ownsT 0 e size u xs.length us∧RepL w (Shared S0 w0.heap.size w s (tmOf a)) xs.flatten us∧(∀x∈xs,x.length=size)∧xs.length≤maxLen:=by
 unfold sourceOf at h
 split at h
 ·simp at h
 ·rename_i i'
  split at h
  ·rename_i e2 size2 xs2 hs
   simp only [Option.some.injEq,Prod.mk.injEq] at h
   obtain ⟨rfl,rfl,rfl,rfl⟩:=h
   obtain ⟨rfl,_⟩:=RepAV.alias_own (hx hp) hs
   have hi:=hR.rep i'
   rw [hs] at hi
   obtain ⟨us,hown,hl,hxs,hm,hO⟩:=hi
   exact ⟨by rw [hs];rfl,fun b hb=>by rw [hs];exact hb,fun b hb=>hO b (by rw [hs] at hb;exact hb),us,hown,hl,hxs,hm⟩
  ·rename_i g e2 size2 xs2 hs
   simp only [Option.some.injEq,Prod.mk.injEq] at h
   obtain ⟨rfl,rfl,rfl,rfl⟩:=h
   obtain ⟨hv,_⟩:=hx hp
   rw [hs] at hv
   obtain rfl:u=g:=hv
   have hi:=hR.rep i'
   rw [hs] at hi
   obtain ⟨us,hown,hl,hxs,hm,hO⟩:=hi
   exact ⟨by rw [hs];rfl,fun b hb=>by rw [hs];exact hb,fun b hb=>hO b (by rw [hs] at hb;exact hb),us,hown,hl,hxs,hm⟩
  ·cases h
 ·rename_i i' lo len
  split at h
  ·rename_i e2 size2 xs2 hs
   simp only [Option.some.injEq,Prod.mk.injEq] at h
   obtain ⟨rfl,rfl,rfl,rfl⟩:=h
   have hvw:=hx hp
   have hi:=hR.rep i'
   rw [hs] at hi
   obtain ⟨us,hown,hl,hxs,hm,hO⟩:=hi
   obtain ⟨hown2,hblk2,hlt,_⟩:=view_trunc hs hvw hown hl hxs
   exact ⟨by rw [hs];rfl,fun b hb=>by rw [hs];exact hblk2 b hb,fun b hb=>hO b (by rw [hs] at hb;exact hb),_,hown2,hlt,fun x hx=>hxs x (List.mem_of_mem_take hx),by rw [List.length_take];omega⟩
  ·cases h
 ·cases h
theorem aappend0_ok (hR:Rel S0 w0 n s a w) {t t' ty:TypeId} {x y:Prop×AV} {u v:Value} {d:Nat} (hd:S0.m≤d∧d<n) (hx:Knows S0 w0 s a w x u) (hy:Knows S0 w0 s a w y v) (hp:(aappend0 P s t t' x y).1) :
  ∃r w',(Builtin.append_ #[t,t'] ty #[u,v]).run P w=.ok r w'∧Rel S0 w0 n (Ab.put (aappend0 P s t t' x y).2.1 d (aappend0 P s t t' x y).2.2) (a.put (some d) r) w':=by
 unfold aappend0 at hp ⊢
 split at hp
 ·rename_i e size zc hT
  split at hp
  ·rename_i bytes i e' size' xs ys hb hsrc hnews
   obtain ⟨h1,h2,rfl,rfl,rfl,h6,h7⟩:=hp
   obtain ⟨p,x⟩:=x
   obtain ⟨ho,hblk2,hO,us,hown,hl,hxs,hm⟩:=sourceOf_own hR hx h1 hsrc
   obtain ⟨b,c,vs,rfl,hb0,hvl,hyl,hym,hcell⟩:=newsOf_ok hR hy h2 hnews
   have hvlen:vs.length=ys.length*size':=by rw [hvl.1,flatten_length hyl]
   obtain ⟨r,w',hrun,hown',hg,hblk⟩:=run_append_all (P:=P) (ty:=ty) hT hb hown hvlen hb0 hcell hvl.oneCells h7 h6 (Nat.zero_le _) (c:=c)
   refine ⟨r,w',hrun,?_⟩
   have hg':w.grownBy w' (blkOf (s i) (tmOf a i)):=by
    refine ⟨hg.os,hg.tape,hg.output,hg.size,fun k hk hne=>hg.block k hk (fun e=>hne ?_)⟩
    exact (hblk2 k e.symm).symm
   refine hR.take hd ho hg' (fun b' hb'=>?_) (fun j=>rfl) (fun s' tm' S hS=>?_)
   ·have hb'':r.ownBlock=some b':=hb'
    rcases hblk with h | h
    ·exact .inl (hblk2 b' (by rw [←h];exact hb''))
    ·right
     rw [h] at hb''
     injection hb'' with hb''
     omega
   ·have hsame:∀c,Shared S0 w0.heap.size w s (tmOf a) c→w'.heap[c]?=w.heap[c]?:=fun c hc=>hg.block c hc.2.1 (fun e=>hc.2.2 i (hblk2 c e.symm))
    refine ⟨us++vs,by rw [List.length_append];exact hown',(ownRep hl hvl).mono hS hsame,fun x hx=>?_,by rw [List.length_append];exact h7,fun b' hb'=>?_⟩
    rcases List.mem_append.1 hx with h | h
    ·exact hxs x h
    ·exact hyl x h
    ·rcases hblk with h | h
     ·exact hO b' (hblk2 b' (by rw [←h];exact hb'))
     ·rw [h] at hb';injection hb' with hb';exact .inl (by have:=hR.below.size;omega)
  ·rename_i bytes e' size' xs ys hb hsrc hnews
   obtain ⟨h1,h2,rfl,h6,h7⟩:=hp
   obtain ⟨p,x⟩:=x
   unfold sourceOf at hsrc
   dsimp only at hsrc h1
   split at hsrc
   ·obtain rfl:=rep_nil (hx h1)
    obtain ⟨b,c,vs,rfl,hb0,hvl,hyl,hym,hcell⟩:=newsOf_ok hR hy h2 hnews
    have hvlen:vs.length=ys.length*size:=by rw [hvl.1,flatten_length hyl]
    obtain ⟨r,w',hrun,hown',hg,hblk⟩:=run_append_all (P:=P) (ty:=ty) hT hb (World.ownsT_nil w 0 e size) hvlen hb0 hcell hvl.oneCells (by simpa using h7) (by simpa using h6) (Nat.zero_le _) (c:=c)
    refine ⟨r,w',hrun,hR.newOwn hd hg (by simpa using hown') hvl hyl h7 (fun b' hb'=>?_)⟩
    rcases hblk with h | h
    ·rw [h] at hb';simp [Value.ownBlock] at hb'
    ·rw [h] at hb';injection hb' with hb';omega
   ·split at hsrc<;>simp at hsrc
   ·split at hsrc<;>simp at hsrc
   ·simp at hsrc
  ·rename_i bytes e' size' xs hb hsrc hnews
   split at hp
   ·rename_i k hk
    obtain ⟨h1,h2,h3,h4,h6,h7⟩:=hp
    obtain ⟨p,x⟩:=x
    obtain ⟨q,y⟩:=y
    unfold sourceOf at hsrc
    dsimp only at hsrc h1 h2 hk
    unfold zerosOf at hk
    split at hk
    ·rename_i kd k'
     injection hk with hk
     subst hk
     obtain rfl:=rep_int (hy h2)
     obtain ⟨m,rfl⟩:∃m:Nat,k'=m:=⟨k'.toNat,by omega⟩
     split at hsrc
     ·obtain rfl:=rep_nil (hx h1)
      obtain ⟨r,w',us,hrun,hown',hl,hxs,hg,hblk⟩:=run_append_zeros (P:=P) (w:=w) (ty:=ty) hT hb h3 kd m (by omega) (by omega) (by rw [←Int.natCast_mul] at h6;omega)
      refine ⟨r,w',hrun,hR.newOwn hd hg hown' (hl _) hxs (by simp;omega) (fun b' hb'=>?_)⟩
      rw [hblk] at hb';injection hb' with hb';omega
     ·split at hsrc<;>simp at hsrc
     ·split at hsrc<;>simp at hsrc
     ·simp at hsrc
    ·cases hk
   ·exact hp.elim
  ·exact hp.elim
 ·exact hp.elim
def aappendS (P:Program) (s:St) (t t':TypeId) (x:Prop×AV) (q:Prop) (l:List UInt8):Prop×St×AV:=
 match rowT P t,sourceOf s x.2 with
 | some (e,size,_),some (some i,some e',size',xs)=>(x.1∧q∧isStringT P t'=true∧byteT P e=true∧e'=e∧size'=size∧size=1∧xs.length+l.length≤140737488355328,put s i .dead,.own e size (xs++byteRows l))
 | some (e,size,_),some (none,_,_,_)=>(x.1∧q∧isStringT P t'=true∧byteT P e=true∧size=1∧l.length≤140737488355328,s,.own e size (byteRows l))
 | _,_=>(False,s,.dead)
theorem rowT_slice {t e size:Nat} {zc:List CV} (h:rowT P t=some (e,size,zc)):P.underlying t=some (.slice e):=by
 obtain ⟨i,z,h1,_⟩:=rowT_ok (w:=default) h
 exact h1
theorem aappendS_ok (hR:Rel S0 w0 n s a w) {t t' ty:TypeId} {x y:Prop×AV} {u v:Value} {l:List UInt8} {d:Nat} (hd:S0.m≤d∧d<n) (hx:Knows S0 w0 s a w x u) (hy:Knows S0 w0 s a w y v) (hyl:y.2=.x (.one (.str l))) (hp:(aappendS P s t t' x y.1 l).1) :
  ∃r w',(Builtin.append_ #[t,t'] ty #[u,v]).run P w=.ok r w'∧Rel S0 w0 n (Ab.put (aappendS P s t t' x y.1 l).2.1 d (aappendS P s t t' x y.1 l).2.2) (a.put (some d) r) w':=by
 obtain ⟨q,y⟩:=y
 dsimp only at hyl hp
 subst hyl
 unfold aappendS at hp ⊢
 split at hp
 ·rename_i e size zc i e' size' xs hT hsrc
  obtain ⟨h1,h2,h3,h4,rfl,rfl,rfl,h8⟩:=hp
  obtain ⟨rfl,hll⟩:=rep_str (hy h2)
  obtain ⟨p,x⟩:=x
  obtain ⟨ho,hblk2,hO,us,hown,hl,hxs,hm⟩:=sourceOf_own hR hx h1 hsrc
  obtain ⟨_,inf,g1,g2,g3,g4⟩:=byteT_ok h4
  have hsz:(⟨l.toArray⟩:ByteArray).size=l.length:=by simp [ByteArray.size]
  obtain ⟨r,w',hrun,hown',hg,hblk⟩:=run_append_own_string_T (P:=P) w 0 t t' ty e' inf (rowT_slice hT) (isStringT_ok h3) g1 g2 g3 g4 u xs.length us hown ⟨l.toArray⟩ (by rw [hsz];unfold maxLen;omega) (by rw [hsz];exact h8) (Nat.zero_le _)
  rw [hsz] at hown'
  refine ⟨r,w',hrun,?_⟩
  have hg':w.grownBy w' (blkOf (s i) (tmOf a i)):=by
   refine ⟨hg.os,hg.tape,hg.output,hg.size,fun k hk hne=>hg.block k hk (fun e=>hne ?_)⟩
   exact (hblk2 k e.symm).symm
  refine hR.take hd ho hg' (fun b' hb'=>?_) (fun j=>rfl) (fun s' tm' S hS=>?_)
  ·have hb'':r.ownBlock=some b':=hb'
   rcases hblk with h | h
   ·exact .inl (hblk2 b' (by rw [←h];exact hb''))
   ·right
    rw [h] at hb''
    injection hb'' with hb''
    omega
  ·have hsame:∀c,Shared S0 w0.heap.size w s (tmOf a) c→w'.heap[c]?=w.heap[c]?:=fun c hc=>hg.block c hc.2.1 (fun e=>hc.2.2 i (hblk2 c e.symm))
   refine ⟨us++Go.Lib.strCells ⟨l.toArray⟩,by rw [List.length_append,byteRows_length];exact hown',(ownRep hl (byteRows_rep _ l)).mono hS hsame,fun x hx=>?_,by rw [List.length_append,byteRows_length];unfold maxLen;omega,fun b' hb'=>?_⟩
   ·rcases List.mem_append.1 hx with h | h
    ·exact hxs x h
    ·exact byteRows_one l x h
   ·rcases hblk with h | h
    ·exact hO b' (hblk2 b' (by rw [←h];exact hb'))
    ·rw [h] at hb';injection hb' with hb';exact .inl (by have:=hR.below.size;omega)
 ·rename_i e size zc e' size' xs hT hsrc
  obtain ⟨h1,h2,h3,h4,rfl,h8⟩:=hp
  obtain ⟨rfl,hll⟩:=rep_str (hy h2)
  obtain ⟨p,x⟩:=x
  obtain ⟨_,inf,g1,g2,g3,g4⟩:=byteT_ok h4
  have hsz:(⟨l.toArray⟩:ByteArray).size=l.length:=by simp [ByteArray.size]
  unfold sourceOf at hsrc
  dsimp only at hsrc h1
  split at hsrc
  ·obtain rfl:=rep_nil (hx h1)
   obtain ⟨r,w',hrun,hown',hg,hblk⟩:=run_append_own_string_T (P:=P) w 0 t t' ty e inf (rowT_slice hT) (isStringT_ok h3) g1 g2 g3 g4 (.slice none 0 0) 0 [] (World.ownsT_nil w 0 e 1) ⟨l.toArray⟩ (by rw [hsz];unfold maxLen;omega) (by rw [hsz];omega) (Nat.zero_le _)
   rw [hsz] at hown'
   refine ⟨r,w',hrun,hR.newOwn hd hg (by simpa using hown') (byteRows_rep _ l) (byteRows_one l) (by rw [byteRows_length];unfold maxLen;omega) (fun b' hb'=>?_)⟩
   rcases hblk with h | h
   ·rw [h] at hb';simp [Value.ownBlock] at hb'
   ·rw [h] at hb';injection hb' with hb';omega
  ·split at hsrc<;>simp at hsrc
  ·split at hsrc<;>simp at hsrc
  ·simp at hsrc
 ·exact hp.elim
def strOf:AV→Option (List UInt8)
 | .x (.one (.str l))=>some l
 | _=>none
theorem strOf_some {v:AV} {l:List UInt8} (h:strOf v=some l):v=.x (.one (.str l)):=by
 unfold strOf at h
 split at h
 ·injection h with h;subst h;rfl
 ·cases h
def aappend (P:Program) (s:St) (t t':TypeId) (x y:Prop×AV):Prop×St×AV:=
 match strOf y.2 with
 | some l=>aappendS P s t t' x y.1 l
 | none=>aappend0 P s t t' x y
theorem aappend_ok (hR:Rel S0 w0 n s a w) {t t' ty:TypeId} {x y:Prop×AV} {u v:Value} {d:Nat} (hd:S0.m≤d∧d<n) (hx:Knows S0 w0 s a w x u) (hy:Knows S0 w0 s a w y v) (hp:(aappend P s t t' x y).1) :
  ∃r w',(Builtin.append_ #[t,t'] ty #[u,v]).run P w=.ok r w'∧Rel S0 w0 n (Ab.put (aappend P s t t' x y).2.1 d (aappend P s t t' x y).2.2) (a.put (some d) r) w':=by
 unfold aappend at hp ⊢
 cases h:strOf y.2 with
 | some l=>rw [h] at hp;exact aappendS_ok hR hd hx hy (strOf_some h) hp
 | none=>rw [h] at hp;exact aappend0_ok hR hd hx hy hp
def abytes (P:Program) (src dst:TypeId) (x:Prop×AV):Prop×AV:=
 match strOf x.2,sliceT P dst with
 | some l,some (e,_)=>(x.1∧isStringT P src=true∧byteT P e=true,.own e 1 (byteRows l))
 | _,_=>(False,.dead)
theorem abytes_ok (hR:Rel S0 w0 n s a w) {src dst:TypeId} {x:Prop×AV} {u:Value} {d:Nat} (hd:S0.m≤d∧d<n) (hx:Knows S0 w0 s a w x u) (hp:(abytes P src dst x).1) :
  ∃r w',(convert src dst u).run P w=.ok r w'∧Rel S0 w0 n (Ab.put s d (abytes P src dst x).2) (a.put (some d) r) w':=by
 unfold abytes at hp ⊢
 split at hp
 ·rename_i l e z hl hsl
  obtain ⟨_,hu,_⟩:=sliceT_ok hsl
  obtain ⟨h1,h2,h3⟩:=hp
  obtain ⟨p,x⟩:=x
  dsimp only at hl h1
  obtain rfl:=strOf_some hl
  obtain ⟨rfl,hll⟩:=rep_str (hx h1)
  obtain ⟨he,_⟩:=byteT_ok h3
  have hsz:(⟨l.toArray⟩:ByteArray).size=l.length:=by simp [ByteArray.size]
  obtain ⟨r,w',hrun,hown,hg,hblk⟩:=run_bytes_of_string_T (P:=P) w 0 src dst e ⟨l.toArray⟩ (isStringT_ok h2) hu he (by rw [hsz];exact hll) (Nat.zero_le _) none
  rw [hsz] at hown
  refine ⟨r,w',hrun,?_⟩
  refine hR.newOwn hd hg (by rw [byteRows_length];exact hown) (byteRows_rep _ l) (byteRows_one l) (by rw [byteRows_length];exact hll) (fun b' hb'=>?_)
  rw [hblk] at hb';injection hb' with hb';omega
 ·exact hp.elim
def amapUpdate (P:Program) (s:St) (t:TypeId) (m k x:Prop×AV):Prop×St:=
 match mapT P t,m,k,x with
 | some (kk,_),(p,.alias i),(q,.x kx),(r,.x xx)=>match s i with
  | .mp c bs es=>match findK kk kx es 0 with
   | some f=>(p∧q∧r∧keyOk kk kx=true,fun j=>if j=i then .mp (mput c bs es kx xx f).1 (mput c bs es kx xx f).2.1 (mput c bs es kx xx f).2.2 else s j)
   | none=>(False,s)
  | _=>(False,s)
 | _,_,_,_=>(False,s)
theorem setObj_grown (g:Nat) (o:Obj):w.grownBy { w with heap:=w.heap.setIfInBounds g o } (some g)∧({ w with heap:=w.heap.setIfInBounds g o }:World).heap.size=w.heap.size:=by
 refine ⟨⟨rfl,rfl,rfl,by simp,fun k _ hk=>?_⟩,by simp⟩
 exact Array.getElem?_setIfInBounds_ne (fun e=>hk (by rw [e]))
theorem amapUpdate_ok (hR:Rel S0 w0 n s a w) {t:TypeId} {m k x:Prop×AV} {mv kv xv:Value} (hm:Knows S0 w0 s a w m mv) (hk:Knows S0 w0 s a w k kv) (hx:Knows S0 w0 s a w x xv) (hp:(amapUpdate P s t m k x).1) :
  ∃w',(Instr.mapUpdate t mv kv xv).run P w=.ok () w'∧Rel S0 w0 n (amapUpdate P s t m k x).2 a w':=by
 obtain ⟨p,m⟩:=m
 obtain ⟨q,k⟩:=k
 obtain ⟨r,x⟩:=x
 unfold amapUpdate at hp ⊢
 split at hp
 ·rename_i kk e p' i q' kx r' xx hT e1 e2 e3
  injection e1 with e1a e1b;subst e1a;subst e1b
  injection e2 with e2a e2b;subst e2a;subst e2b
  injection e3 with e3a e3b;subst e3a;subst e3b
  split at hp
  ·rename_i c bs es hs
   split at hp
   ·rename_i f hf
    obtain ⟨h1,h2,h3,h4⟩:=hp
    obtain ⟨kt,d,hu,hku,hd⟩:=mapT_ok hT
    obtain ⟨rfl,_⟩:=RepAV.alias_mp (hm h1) hs
    have hj:=hR.rep i
    rw [hs] at hj
    obtain ⟨b,ents,hv,hh,hB,he⟩:=hj
    rw [hv]
    obtain ⟨ents',c',hrun,hc',he'⟩:=run_mapUpdate (P:=P) hu hku hd hh he (hk h2) h4 (hx h3) hf
    refine ⟨_,hrun,?_⟩
    subst hc'
    have hlt:b<w.heap.size:=(Array.getElem?_eq_some_iff.1 hh).1
    obtain ⟨hg,hgs⟩:=setObj_grown (w:=w) b (.map ents' (mput c bs es kx xx f).1)
    refine hR.write (r:=.mp (mput c bs es kx xx f).1 (mput c bs es kx xx f).2.1 (mput c bs es kx xx f).2.2) (b:=b) (by rw [hs,hv];rfl) hg hgs (by rw [hv];rfl) rfl (by rw [hs];rfl) (by rw [hs];rfl) (by rw [hs];rfl) (fun s'=>?_) (fun j o d cs2 hl2 hs2=>by rw [hs] at hs2;cases hs2)
    have hsame:∀z,Shared S0 w0.heap.size w s (tmOf a) z→({ w with heap:=w.heap.setIfInBounds b (.map ents' (mput c bs es kx xx f).1) }:World).heap[z]?=w.heap[z]?:=by
     intro z hz
     refine hg.block z hz.2.1 (fun e=>?_)
     injection e with e
     subst e
     exact hz.2.2 i (by rw [hs,hv];rfl)
    exact ⟨b,ents',hv,by simp [hlt],hB,he'.mono (fun _ h=>h) hsame⟩
   ·exact hp.elim
  ·exact hp.elim
 ·exact hp.elim
def aclear (P:Program) (s:St) (t:TypeId) (x:Prop×AV):Prop×St:=
 match rowT P t,x with
 | some (_,size,zc),(p,.view i lo len _)=>match s i with
  | .own e size' xs=>(p∧size'=size,fun j=>if j=i then .own e size' (xs.take lo++List.replicate len zc++xs.drop (lo+len)) else s j)
  | _=>(False,s)
 | _,_=>(False,s)
theorem aclear_ok (hR:Rel S0 w0 n s a w) {t ty:TypeId} {x:Prop×AV} {u:Value} (hx:Knows S0 w0 s a w x u) (hp:(aclear P s t x).1) :
  ∃r w',(Builtin.clear_ #[t] ty #[u]).run P w=.ok r w'∧Rel S0 w0 n (aclear P s t x).2 a w':=by
 obtain ⟨p,x⟩:=x
 unfold aclear at hp ⊢
 split at hp
 ·rename_i e0 size zc p' i lo len wh hT e2
  injection e2 with e2a e2b;subst e2a;subst e2b
  split at hp
  ·rename_i e size' xs hs
   obtain ⟨h1,rfl⟩:=hp
   obtain ⟨hso,hle,hv⟩:=hx h1
   rw [hs] at hle
   have hle':lo+len≤xs.length:=hle
   have hi:=hR.rep i
   rw [hs] at hi
   obtain ⟨us,hown,hl,hxs,hm,hO⟩:=hi
   obtain ⟨it,z,hu,hit,hsz,hpos,hzr,hrep,hzl⟩:=rowT_ok (w:=w) hT
   have hzs:z.cells.size=size':=by have:=(hrep (fun _=>True)).1;rw [hzl] at this;simpa using this
   by_cases h0:len=0
   ·subst h0
    have hsame:(fun j=>if j=i then AV.own e size' (xs.take lo++List.replicate 0 zc++xs.drop (lo+0)) else s j)=s:=by
     funext j
     split
     ·rename_i hj;subst hj;rw [hs];simp
     ·rfl
    rw [hsame]
    rcases hv with ⟨rfl,_⟩ | ⟨b,off,cap,rfl,_⟩
    ·exact ⟨.tuple #[],w,by simp [Builtin.clear_,run_underlying hu],hR⟩
    ·exact ⟨.tuple #[],w,by simp [Builtin.clear_,run_underlying hu],hR⟩
   ·rcases hv with ⟨_,h⟩ | ⟨b,off,cap,rfl,hc,hcm,hk,hz,_⟩
    ·exact absurd h h0
    ·have hoff:=hz (by omega)
     rw [hs] at hk hoff
     have hoff':off=lo*size':=hoff
     subst hoff'
     rcases hown.2 with ⟨hnil,_⟩ | ⟨g,cap',cur,hv,hbg,⟨fz,hh,hfz⟩,hnc,hcm',hcs,htake⟩
     ·rw [hnil] at hk;simp [blkOf,Value.ownBlock] at hk
     ·have hbb:blkOf (AV.own e size' xs) (tmOf a i)=some g:=by rw [hv];rfl
      rw [hbb] at hk
      injection hk with hk
      subst hk
      have hzrep:=zeros_rep (hrep (Shared S0 w0.heap.size w s (tmOf a))) len
      have hzlen:(Builtin.zeroCells z.cells len).toList.length=len*size':=by simp [size_zeroCells,hzs]
      have hmul:lo*size'+len*size'≤xs.length*size':=by rw [←Nat.add_mul];exact Nat.mul_le_mul_right _ hle'
      have hcap:xs.length*size'≤cap'*size':=Nat.mul_le_mul_right _ hnc
      have hst:=run_storeCells_T P g (lo*size') e fz (Builtin.zeroCells z.cells len).toList 0 cur w hh hfz (by rw [hzlen];omega) (RepL.oneCells hzrep)
      simp only [Nat.add_zero] at hst
      have hset:cur.toList.take (lo*size')++(Builtin.zeroCells z.cells len).toList++cur.toList.drop (lo*size'+(Builtin.zeroCells z.cells len).toList.length)=setRange cur.toList (lo*size') (Builtin.zeroCells z.cells len).toList:=rfl
      rw [hset] at hst
      obtain ⟨len',rfl⟩:∃k,len=k+1:=⟨len-1,by omega⟩
      refine ⟨.tuple #[],w.setRow g (setRange cur.toList (lo*size') (Builtin.zeroCells z.cells (len'+1)).toList).toArray,by simp [Builtin.clear_,run_underlying hu,hzr,hst],?_⟩
      obtain ⟨hg,hgs⟩:=setRow_grown (w:=w) g (setRange cur.toList (lo*size') (Builtin.zeroCells z.cells (len'+1)).toList).toArray
      have hnl:(xs.take lo++List.replicate (len'+1) zc++xs.drop (lo+(len'+1))).length=xs.length:=by simp;omega
      refine hR.write (r:=.own e size' (xs.take lo++List.replicate (len'+1) zc++xs.drop (lo+(len'+1)))) (b:=g) (by rw [hs];exact hbb) hg hgs (by rw [hv];rfl) rfl (by rw [hs];rfl) (by rw [hs];exact hnl) (by rw [hs];rfl) (fun s'=>?_) (fun j o d cs2 hl2 hs2=>by rw [hs] at hs2;cases hs2)
      have hsame:∀c,Shared S0 w0.heap.size w s (tmOf a) c→(w.setRow g (setRange cur.toList (lo*size') (Builtin.zeroCells z.cells (len'+1)).toList).toArray).heap[c]?=w.heap[c]?:=by
       intro c hc
       refine hg.block c hc.2.1 (fun e=>?_)
       injection e with e
       subst e
       exact hc.2.2 i (by rw [hs];exact hbb)
      have hxs':∀x∈xs.take lo++List.replicate (len'+1) zc++xs.drop (lo+(len'+1)),x.length=size':=by
       intro x hx
       rcases List.mem_append.1 hx with hx | hx
       ·rcases List.mem_append.1 hx with hx | hx
        ·exact hxs x (List.mem_of_mem_take hx)
        ·rw [List.eq_of_mem_replicate hx,hzl]
       ·exact hxs x (List.mem_of_mem_drop hx)
      have hrl:(List.replicate (len'+1) zc).flatten.length=(len'+1)*size':=by
       rw [flatten_length (size:=size') (fun x hx=>by rw [List.eq_of_mem_replicate hx,hzl])];simp
      have hflat:(xs.take lo++List.replicate (len'+1) zc++xs.drop (lo+(len'+1))).flatten=setRange xs.flatten (lo*size') (List.replicate (len'+1) zc).flatten:=by
       rw [List.flatten_append,List.flatten_append,flatten_take hxs,flatten_drop hxs]
       unfold setRange
       rw [hrl,Nat.add_mul]
      refine ⟨setRange us (lo*size') (Builtin.zeroCells z.cells (len'+1)).toList,⟨?_,.inr ⟨g,cap',_,by rw [hnl];exact hv,hbg,⟨fz,setRow_heap w g cur _ e _ hh,by rw [List.size_toArray,setRange_len _ _ _ (by rw [hzlen];simp [hcs];omega),Array.length_toList];exact hfz⟩,by rw [hnl];exact hnc,hcm',?_,?_⟩⟩,?_,hxs',by rw [hnl];exact hm,hO⟩
      ·have hul:us.length=xs.length*size':=hown.1
       rw [setRange_len _ _ _ (by rw [hzlen,hul];omega),hnl]
       exact hul
      ·simp only [List.size_toArray]
       rw [setRange_len _ _ _ (by rw [hzlen];simp [hcs];omega)]
       simpa using hcs
      ·rw [hnl,←htake]
       exact setRange_take _ _ _ _ (by rw [hzlen];omega) (by simp [hcs];omega)
      ·rw [hflat]
       exact (hl.setRange hzrep _).mono (fun _ h=>h) hsame
  ·exact hp.elim
 ·exact hp.elim
theorem Rel.newMap {d:Nat} (hR:Rel S0 w0 n s a w) (hd:S0.m≤d∧d<n):Rel S0 w0 n (Ab.put s d (.mp 0 [] [])) (a.put (some d) (.map (some w.heap.size))) (w.alloc (.map #[] 0)):=by
 have he:∀(w':World) (S:Nat→Prop),RepE w' S [] [] (#[]:Array MapEntry).toList:=fun _ _=>⟨rfl,rfl,fun j x hj=>by simp at hj⟩
 refine hR.put hd (World.grownBy_alloc w _ none) (fun j h=>by cases h) ⟨_,#[],rfl,heap_alloc_new w _,.inl hR.below.size,he _ _⟩ ?_ ?_
 ·intro b hb
  have:w.heap.size=b:=by simpa [blkOf] using hb
  omega
 ·intro b hbb
  have:w.heap.size=b:=by simpa [blkOf] using hbb
  subst this
  exact ⟨_,#[],rfl,heap_alloc_new w _,.inl hR.below.size,he _ _⟩
def makeB (p q:Prop) (n m:Int) (e:TypeId) (size:Nat) (z:List CV):Option Nat→Prop×AV
 | some b=>(p∧q∧0≤n∧m=n∧(b:Int)*n≤281474976710656∧n.toNat*size≤16777216,.own e size (List.replicate n.toNat z))
 | none=>(False,.dead)
def makeK (P:Program) (p q:Prop) (n m:Int):Option (TypeId×Nat×List CV)→Prop×AV
 | some (e,size,z)=>makeB p q n m e size z (bytesT P e)
 | none=>(False,.dead)
def amake (P:Program) (t:TypeId) (l c:Prop×AV):Prop×AV:=
 match l,c with
 | (p,.x (.one (.int _ n))),(q,.x (.one (.int _ m)))=>makeK P p q n m (rowT P t)
 | _,_=>(False,.dead)
theorem amake_ok {l c:Operand} {t:TypeId} {d:Nat} {x y:Prop×AV} (hR:Rel S0 w0 n s a w) (hx:Knows S0 w0 s a w x (a.eval l)) (hy:Knows S0 w0 s a w y (a.eval c)) (hd:S0.m≤d∧d<n) (hp:(amake P t x y).1) :
  ∃v w',(Instr.makeSlice t (a.eval l) (a.eval c)).run P w=.ok v w'∧Rel S0 w0 n (Ab.put s d (amake P t x y).2) (a.put (some d) v) w':=by
 unfold amake at hp ⊢
 split at hp
 ·rename_i p k N q k' M
  unfold makeK at hp ⊢
  split at hp
  ·rename_i e size zc hT
   unfold makeB at hp ⊢
   split at hp
   rotate_left
   ·exact hp.elim
   rename_i bts hbt
   obtain ⟨hp1,hp2,h0,rfl,hby,hlim⟩:=hp
   have hx:=hx hp1
   have hy:=hy hp2
   obtain ⟨i,z,hu,hi,hs,hpos,hz,hzr,hzl⟩:=rowT_ok (w:=w) hT
   have hzsz:z.cells.size=size:=by have:=(hzr (fun _=>True)).1;rw [hzl] at this;simpa using this
   have hrep:=zeros_rep (hzr (Shared S0 w0.heap.size w s (tmOf a))) M.toNat
   rw [hzsz] at hrep
   have hxs:∀x∈List.replicate M.toNat zc,x.length=size:=fun x hx=>by rw [List.eq_of_mem_replicate hx,hzl]
   have hcap:M.toNat≤maxLen:=by
    have:M.toNat*1≤M.toNat*size:=Nat.mul_le_mul_left _ hpos
    simp only [maxLen];omega
   have hi0:i.zero=some z:=by
    cases hzz:i.zero with
    | none=>simp [zeroValue,typeInfo,hi,hzz,Sem.run_bind] at hz
    | some z' =>
     have:(zeroValue e).run P w=.ok z' w:=by simp [zeroValue,typeInfo,hi,hzz]
     rw [this] at hz
     injection hz with hz
     rw [hz]
   have hbt':i.bytes=bts:=by unfold bytesT at hbt;rw [hi] at hbt;simpa using hbt
   have hr:=run_make (P:=P) w t e i z hu hi hi0 k k' M M h0 (Int.le_refl _) (by rw [hbt'];exact hby) (by simp only [maxLen] at hcap;omega)
   have ev1:a.eval l=.int k M:=by generalize a.eval l=vl at hx;cases hx;rfl
   have ev2:a.eval c=.int k' M:=by generalize a.eval c=vl at hy;cases hy;rfl
   rw [ev1,ev2]
   refine ⟨_,_,hr,?_⟩
   rw [hs]
   refine hR.newOwn hd (World.grownBy_alloc w _ none) (us:=(madeCells z.cells (M.toNat*size)).toList) ⟨by simp [size_madeCells],.inr ⟨w.heap.size,M.toNat,_,by simp,Nat.zero_le _,⟨_,heap_alloc_new w _,.inl rfl⟩,by simp,hcap,by simp [size_madeCells],?_⟩⟩ (by unfold madeCells;rw [hzsz];exact hrep) hxs (by simpa using hcap) ?_
   ·rw [List.take_of_length_le (by simp [size_madeCells])]
   ·intro b hb
    have:w.heap.size=b:=by simpa [Value.ownBlock] using hb
    omega
  ·exact hp.elim
 ·exact hp.elim
theorem amake_refs {P:Program} {t:TypeId} {x y:Prop×AV} (j:Nat):(amake P t x y).2.refs j=false:=by
 unfold amake
 split
 ·unfold makeK
  split
  ·unfold makeB
   split<;>rfl
  ·rfl
 ·rfl
end
end Go.Ab
