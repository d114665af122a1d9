/- A part of the proof: lemmas and contracts of functions. -/
import Derived.Test.YtlcmnclbljedfaaGreatDoorIxGRc
import Derived.Test.YtlcmnclbljedfaaGreatDoorIxGRb
import Derived.Test.YtlcmnclbljedfaaGreatDoorAbJ5
import Derived.MakeChecks
import Derived.KernelRfl
import Derived.Test.YtlcmnclbljedfaaGreatDoorRows
import Derived.HandedShaped
import Derived.Shelf.Vars
set_option linter.all false
namespace Go.Proofs.YtlcmnclbljedfaaGreatDoor
open Go Go.Ab
variable [Amb] [HasInt 0] [HasPow10 Tryz.prog]
set_option maxRecDepth 100000
set_option maxHeartbeats 4000000
def NoNL (l:List UInt8):Prop:=∀c∈l,c≠13∧c≠10
theorem NoNL.app {a b:List UInt8} (ha:NoNL a) (hb:NoNL b):NoNL (a++b):=fun c h=>(List.mem_append.1 h).elim (ha c) (hb c)
theorem noNL_of {p:UInt8→Bool} {l:List UInt8} (h:l.all p=true) (h13:p 13=false) (h10:p 10=false):NoNL l:=fun c hc=>by
 have:=List.all_eq_true.1 h c hc
 exact ⟨(by rintro rfl;rw [h13] at this;cases this),(by rintro rfl;rw [h10] at this;cases this)⟩
theorem crl_app:∀{l:List UInt8} (s:List UInt8),NoNL l→crl (l++13::10::s)=some l
 | [],s,_=>by rw [List.nil_append];unfold crl;simp
 | c::l,s,h=>by
  have hc:=h c (by simp)
  rw [List.cons_append]
  unfold crl
  rw [if_neg (by rintro ⟨e,_⟩;exact hc.1 e),if_neg (by rintro (e | e);exact hc.1 e;exact hc.2 e),crl_app s (fun x hx=>h x (by simp [hx]))]
  rfl
theorem drop_app2 {b l s:List UInt8} {a:Nat} (h:b.drop a=l++s):b.drop (a+l.length)=s:=by
 have:=congrArg (List.drop l.length) h
 rw [List.drop_left' rfl,List.drop_drop] at this
 first | exact this | (rw [Nat.add_comm];exact this)
theorem at_line {b:List UInt8} {a:Nat} {l s:List UInt8} (h:b.drop a=l++13::10::s) (hl:NoNL l):crlB b a=true∧crlS b a=l∧crlN b a=a+(l.length+2)∧b.drop (a+(l.length+2))=s:=by
 have hc:=crl_app s hl
 unfold crlB crlS crlN
 rw [h,hc]
 refine ⟨rfl,rfl,by simp only;omega,?_⟩
 have h2:b.drop a=(l++[13,10])++s:=by rw [h];simp
 have:=drop_app2 h2
 simpa using this
theorem pre_self (w s:List UInt8):hasPre (w++s) w=true:=by
 unfold hasPre
 rw [List.isPrefixOf_iff_prefix]
 exact List.prefix_append w s
theorem whole_back {x:RS} {w s:List UInt8} (h:x.b.drop x.at_=w++13::10::s) (hw:NoNL w):wholeR w x=(true,{ x with at_:=x.at_+(w.length+2) })∧x.b.drop (x.at_+(w.length+2))=s:=by
 obtain ⟨h1,h2,h3,h4⟩:=at_line h hw
 have hb:wholeB x w=true:=by unfold wholeB;rw [h1,h2];simp
 refine ⟨?_,h4⟩
 unfold wholeR wholeX
 rw [hb,if_pos rfl,h3]
theorem line_back {x:RS} {w v s:List UInt8} (F:List UInt8→Bool) (G:RS→List UInt8→RS) (h:x.b.drop x.at_=wline w v++s) (hw:NoNL w) (hv:NoNL v) (hF:F v=true) :
  lineR w F G x=(true,{ G x v with at_:=x.at_+(wline w v).length })∧x.b.drop (x.at_+(wline w v).length)=s:=by
 have e:wline w v++s=((w++colonS)++v)++13::10::s:=by simp [wline,colonS]
 have hn:NoNL ((w++colonS)++v):=(hw.app (fun c hc=>by simp [colonS] at hc;rcases hc with rfl | rfl<;>decide)).app hv
 rw [e] at h
 obtain ⟨h1,h2,h3,h4⟩:=at_line h hn
 have hl:((w++colonS)++v).length+2=(wline w v).length:=by simp [wline,colonS];omega
 have hd:((w++colonS)++v).drop (w.length+2)=v:=List.drop_left' (by simp [colonS])
 rw [hl] at h3 h4
 refine ⟨?_,h4⟩
 unfold lineR
 have hb:lineB x w F=true:=by
  unfold lineB
  rw [h1,h2,pre_self,hd,hF];rfl
 rw [hb]
 unfold lineX
 rw [h1,h2,if_pos ⟨rfl,pre_self _ _⟩,hd,if_pos hF,h3]
theorem index_colon:∀(n v:List UInt8),(58:UInt8)∉n→Lib.index (n++colonS++v) colonS=n.length:=by
 intro n v hn
 refine Lib.index_first (by simp) ?_ ?_
 ·unfold Lib.occAt
  rw [List.append_assoc,List.drop_left' rfl,List.isPrefixOf_iff_prefix]
  exact List.prefix_append _ _
 ·intro j hj
  unfold Lib.occAt
  rw [List.append_assoc,List.drop_append_of_le_length (by omega),List.drop_eq_getElem_cons hj,List.cons_append]
  have:n[j]≠58:=fun e=>hn (by rw [←e];exact List.getElem_mem hj)
  show ((58:UInt8)==n[j]&&_)=false
  rw [Bool.and_eq_false_iff]
  left
  rw [beq_eq_false_iff_ne]
  exact fun e=>this e.symm
theorem headO_back (h:Head) (hn:h.name≠[]) (hc:(58:UInt8)∉h.name):headO (h.name++colonS++h.value)=some h:=by
 have hi:=index_colon h.name h.value hc
 have hcut:Lib.cut (h.name++colonS++h.value) colonS=(h.name,h.value,true):=by
  unfold Lib.cut
  rw [hi,if_pos (by omega),Int.toNat_natCast,List.append_assoc,List.take_left' rfl,←List.append_assoc,List.drop_left' (by simp)]
 unfold headO
 rw [hcut]
 simp only [ne_eq,hn,not_false_eq_true,hc,and_self,if_true]
theorem colon_first {n w:List UInt8} (hn:(58:UInt8)∉n) (hw:(58:UInt8)∉w) {s:List UInt8} (h:hasPre (n++58::s) (w++colonS)=true):n=w:=by
 unfold hasPre at h
 rw [List.isPrefixOf_iff_prefix] at h
 obtain ⟨t,ht⟩:=h
 have e:w++58::(32::t)=n++58::s:=by rw [←ht];simp [colonS]
 have h1:=befC_append (r:=32::t) hw
 have h2:=befC_append (r:=s) hn
 rw [←h2,←e,h1]
structure HeadFits (h:Head):Prop where
 ne:h.name≠[]
 colon:(58:UInt8)∉h.name
 name:NoNL h.name
 value:NoNL h.value
 other:h.name≠lengthS
theorem lengthS_colon:(58:UInt8)∉lengthS:=by decide
theorem heads_back:∀(l:List Head) (x:RS) (v s:List UInt8),x.ok→(∀h∈l,HeadFits h)→x.b.drop x.at_=headsW l++(wline lengthS v++s) →
  hdsR x=(true,{ x with heads:=x.heads++l,at_:=x.at_+(headsW l).length })∧x.b.drop (x.at_+(headsW l).length)=wline lengthS v++s
 | [],x,v,s,hok,_,hd=>by
  have hI:isB x lengthS=true:=by
   unfold isB
   rw [hd]
   have:headsW []++(wline lengthS v++s)=(lengthS++colonS)++(v++[13,10]++s):=by simp [headsW,wline,colonS]
   rw [this]
   exact pre_self _ _
  rw [hdsR_step hok,if_pos hI]
  simp only [List.append_nil,headsW,List.flatMap_nil,List.length_nil,Nat.add_zero,true_and]
  simpa [headsW] using hd
 | h::l,x,v,s,hok,hf,hd=>by
  have hh:=hf h (by simp)
  have e:headsW (h::l)++(wline lengthS v++s)=(h.name++colonS++h.value)++13::10::(headsW l++(wline lengthS v++s)):=by simp [headsW,wline,colonS]
  rw [e] at hd
  have hn:NoNL (h.name++colonS++h.value):=(hh.name.app (fun c hc=>by simp [colonS] at hc;rcases hc with rfl | rfl<;>decide)).app hh.value
  have hI:isB x lengthS=false:=by
   cases hI:isB x lengthS with
   | false=>rfl
   | true =>
    unfold isB at hI
    rw [hd] at hI
    have e2:(h.name++colonS++h.value)++13::10::(headsW l++(wline lengthS v++s))=h.name++58::(32::(h.value++13::10::(headsW l++(wline lengthS v++s)))):=by simp [colonS]
    rw [e2] at hI
    exact absurd (colon_first hh.colon lengthS_colon hI) hh.other
  obtain ⟨h1,h2,h3,h4⟩:=at_line hd hn
  have hO:=headO_back h hh.ne hh.colon
  have hD:headD (h.name++colonS++h.value)=h:=by unfold headD;rw [hO];rfl
  have hle:=crlN_le hok.2
  rw [h3] at hle
  have ih:=heads_back l { x with heads:=x.heads++[h],at_:=x.at_+((h.name++colonS++h.value).length+2) } v s ⟨hok.1,hle⟩ (fun y hy=>hf y (by simp [hy])) h4
  have hlen:(headsW (h::l)).length=((h.name++colonS++h.value).length+2)+(headsW l).length:=by simp [headsW,wline,colonS];omega
  rw [hdsR_step hok,hI,if_neg (by decide),h1,h2,hO,hD,h3,if_pos ⟨rfl,rfl⟩,ih.1,hlen]
  refine ⟨?_,?_⟩
  ·simp only [List.append_assoc,List.singleton_append,Nat.add_assoc]
  ·have:=ih.2
   simp only [←Nat.add_assoc] at this ⊢
   exact this
theorem dateL_rd {t:Int} (h:momentB t=true):rdOk (dateL t)=true∧rdV (dateL t)=t:=by
 obtain ⟨c0,c1,c2,c3,c4,c5,c6⟩:=dateL_cut t h
 obtain ⟨b0,b1⟩:=moment_bounds h
 obtain ⟨hk,he⟩:=date_back b0
 have hy:yearOf (t / 86400)≤9999:=(civ_ok (t / 86400) (by omega)).top (by omega)
 obtain ⟨k1,k2,k3,k4,k5,k6⟩:=hk
 have km:=mLen_pos (yearOf (t / 86400)) (monthOf (t / 86400))
 obtain ⟨Y,eY⟩:∃Y:Nat,yearOf (t / 86400)=Y:=⟨(yearOf (t / 86400)).toNat,by omega⟩
 obtain ⟨M,eM⟩:∃M:Nat,monthOf (t / 86400)=M:=⟨(monthOf (t / 86400)).toNat,by omega⟩
 obtain ⟨D,eD⟩:∃D:Nat,dayOf (t / 86400)=D:=⟨(dayOf (t / 86400)).toNat,by omega⟩
 obtain ⟨H,eH⟩:∃H:Nat,t % 86400 / 3600=H:=⟨(t % 86400 / 3600).toNat,by omega⟩
 obtain ⟨I,eI⟩:∃I:Nat,t % 86400 / 60 % 60=I:=⟨(t % 86400 / 60 % 60).toNat,by omega⟩
 obtain ⟨S,eS⟩:∃S:Nat,t % 86400 % 60=S:=⟨(t % 86400 % 60).toNat,by omega⟩
 rw [eM,Int.toNat_natCast] at c1
 rw [eY,Int.toNat_natCast] at c2
 rw [eD,Int.toNat_natCast] at c3
 rw [eH,Int.toNat_natCast] at c4
 rw [eI,Int.toNat_natCast] at c5
 rw [eS,Int.toNat_natCast] at c6
 rw [eY,eM,eD,eH,eI,eS] at he
 rw [eM,eY] at km
 rw [eY] at k1 hy
 rw [eM] at k2
 rw [eD,eY,eM] at k3
 rw [eH] at k4
 rw [eI] at k5
 rw [eS] at k6
 have hM:rdM (dateL t)=M:=by
  unfold rdM
  rw [c1]
  have hfi:∀m:Fin 13,1≤m.val→(monthWs.findIdx? fun x=>x==monthL m.val)=some (m.val-1):=by decide
  have:=hfi ⟨M,by omega⟩ (by simp only;omega)
  simp only at this
  rw [this]
  simp only
  omega
 have eN:rdN (dateL t)=t:=by
  unfold rdN rdY rdD rdH rdI rdS
  rw [hM,c2,c3,c4,c5,c6,decV_padD 4 Y (by omega),decV_padD 2 D (by omega),decV_padD 2 H (by omega),decV_padD 2 I (by omega),decV_padD 2 S (by omega)]
  exact he
 have hok:rdOk (dateL t)=true:=by
  unfold rdOk rdParts
  rw [eN,h,hM]
  unfold rdY rdD rdH rdI rdS
  rw [c2,c3,c4,c5,c6,decV_padD 4 Y (by omega)]
  have hM0:M≠0:=by omega
  have hY0:1970≤Y:=by omega
  simp [c0,padD_isDig,hM0,hY0]
 exact ⟨hok,by unfold rdV;rw [hok,if_pos rfl,eN]⟩
theorem padD_noNL (k n:Nat):NoNL (padD k n):=noNL_of (padD_isDig k n) (by decide) (by decide)
theorem dateL_noNL {t:Int} (h:momentB t=true):NoNL (dateL t):=by
 have hb:=moment_bounds h
 obtain ⟨_,hm,_⟩:=date_ok h
 have hW:∀w:Fin 7,(weekL w.val).all (fun c=>c != 13&&c != 10)=true:=by decide
 have hM:∀m:Fin 13,(monthL m.val).all (fun c=>c != 13&&c != 10)=true:=by decide
 have n1:NoNL (weekL ((t / 86400+4) % 7).toNat):=noNL_of (hW ⟨((t / 86400+4) % 7).toNat,by omega⟩) (by decide) (by decide)
 have n2:NoNL (monthL (monthOf (t / 86400)).toNat):=noNL_of (hM ⟨(monthOf (t / 86400)).toNat,by omega⟩) (by decide) (by decide)
 unfold dateL
 intro c hc
 simp only [List.mem_append] at hc
 have cst:∀l:List UInt8,l.all (fun c=>c != 13&&c != 10)=true→NoNL l:=fun l hl=>noNL_of hl (by decide) (by decide)
 have hp:=fun k n=>padD_noNL k n c
 have hw:=n1 c
 have hmm:=n2 c
 have k1:=cst [44,32] (by decide) c
 have k2:=cst [32] (by decide) c
 have k3:=cst [58] (by decide) c
 have k4:=cst [32,71,77,84] (by decide) c
 have hp1:=hp 2 (dayOf (t / 86400)).toNat
 have hp2:=hp 4 (yearOf (t / 86400)).toNat
 have hp3:=hp 2 (t % 86400 / 3600).toNat
 have hp4:=hp 2 (t % 86400 / 60 % 60).toNat
 have hp5:=hp 2 (t % 86400 % 60).toNat
 rcases hc with hc | hc<;>(first | exact k4 hc | skip)
 all_goals (repeat (first | exact hp1 hc | exact hp2 hc | exact hp3 hc | exact hp4 hc | exact hp5 hc | exact hw hc | exact hmm hc | exact k1 hc | exact k2 hc | exact k3 hc | exact k4 hc | (rcases hc with hc | hc)))
theorem kind_back {k:Int} (h1:1≤k) (h5:k≤5):(kindN (kindL k):Int)=k∧NoNL (kindL k)∧decide (0<kindN (kindL k))=true:=by
 have hf:∀n:Fin 6,1≤n.val→kindN (kindL (n.val:Int))=n.val∧(kindL (n.val:Int)).all (fun c=>c != 13&&c != 10)=true:=by decide
 obtain ⟨n,rfl⟩:∃n:Nat,k=(n:Int):=⟨k.toNat,by omega⟩
 obtain ⟨g1,g2⟩:=hf ⟨n,by omega⟩ (by simp only;omega)
 simp only at g1 g2
 exact ⟨by rw [g1],noNL_of g2 (by decide) (by decide),by rw [g1];simp;omega⟩
theorem numK_back {n:Nat} (h:n<1000000000):numK 9 (itoaL (n:Int))=true∧decV (itoaL (n:Int))=n∧NoNL (itoaL (n:Int)):=by
 obtain ⟨h1,h2⟩:=numB_itoa (n:=(n:Int)) (by omega) (by omega)
 obtain ⟨_,_,_,h3,h4,_⟩:=numB_bound h1
 have hp:=(padD_itoa 9 n (by omega) (by omega)).1
 have hlead:lead0 (Lib.itoa (n:Int))=false:=by
  unfold numB at h1
  simp only [Bool.and_eq_true,Bool.not_eq_true'] at h1
  exact h1.2.2.2
 have hd:(decV (Lib.itoa (n:Int)):Int)=n:=by unfold numV at h2;rw [if_pos h1] at h2;exact h2
 unfold itoaL
 refine ⟨?_,by omega,noNL_of h3 (by decide) (by decide)⟩
 unfold numK
 rw [h3,decide_eq_true h4,decide_eq_true hp,hlead];rfl
theorem digC_hex:∀n:Fin 16,hexB (digC (n.val:Int))=true:=by decide
theorem hexD_hex:∀(k:Nat) (n:Int),0≤n→(hexD k n).all hexB=true
 | 0,_,_=>rfl
 | k+1,n,h=>by
  unfold hexD
  rw [List.all_cons,hexD_hex k _ h,Bool.and_true]
  have:=digC_hex ⟨(n / 16 ^ k % 16).toNat,by omega⟩
  simp only at this
  rw [show (((n / 16 ^ k % 16).toNat:Nat):Int)=n / 16 ^ k % 16 by omega] at this
  exact this
theorem digL_back (b:List UInt8):digestB (digL b)=true∧NoNL (digL b):=by
 have h:=hexD_hex 16 (fnvI b) (fnvI_range b).1
 refine ⟨?_,noNL_of h (by decide) (by decide)⟩
 unfold digestB
 rw [show (digL b).all hexB=true from h,digL_len];rfl
theorem nameB_noNL {s:List UInt8} (h:nameB s=true):NoNL s:=by
 unfold nameB at h
 rw [Bool.and_eq_true] at h
 exact noNL_of h.1 (by decide) (by decide)
theorem right_head {r:Rec} (h:r.Right):∀x∈r.heads,HeadFits x:=by
 intro x hx
 have hh:=h.heads
 unfold headsF at hh
 split at hh
 ·cases hh
 obtain ⟨h1,h2⟩:=headsG_ok hh x hx
 have hown:ownB x=false:=by
  have:=List.any_eq_false.1 h.own x hx
  simpa using this
 unfold tokB inB at h1
 unfold valB at h2
 simp only [Bool.and_eq_true,decide_eq_true_eq] at h1 h2
 refine ⟨?_,?_,noNL_of h1.2 (by decide) (by decide),noNL_of h2.2.2 (by decide) (by decide),?_⟩
 ·rintro e
  rw [e] at h1
  simp at h1
 ·intro hm
  have:=List.all_eq_true.1 h1.2 58 hm
  revert this
  decide
 ·intro e
  unfold ownB at hown
  rw [e] at hown
  revert hown
  decide
theorem lt_of_drop {b s:List UInt8} {a:Nat} (h:b.drop a=s) (hs:s≠[]):a<b.length:=by
 rcases Nat.lt_or_ge a b.length with h1 | h1
 ·exact h1
 ·rw [List.drop_eq_nil_of_le h1] at h
  exact absurd h.symm hs
theorem recL_parts (r:Rec):recL r=keptS++13::10::(wline idS r.id++((if r.of=[] then [] else wline ofS r.of)++(wline kindS (kindL r.kind)++(wline dateW (dateL r.time)++(wline keyS r.key++(headsW r.heads++(wline lengthS (itoaL r.block.length)++(wline digestS (digL r.block)++([]++13::10::(r.block++endL)))))))))):=by
 unfold recL wr8 wr7 wr6 wr5 wr4 wr3 wr2 wr1 keptL keptS idS ofS kindS dateW keyS lengthS digestS endL
 split<;>simp
theorem noNL_word:NoNL keptS∧NoNL idS∧NoNL ofS∧NoNL kindS∧NoNL dateW∧NoNL keyS∧NoNL lengthS∧NoNL digestS:=by
 have cst:∀l:List UInt8,l.all (fun c=>c != 13&&c != 10)=true→NoNL l:=fun l hl=>noNL_of hl (by decide) (by decide)
 exact ⟨cst _ (by decide),cst _ (by decide),cst _ (by decide),cst _ (by decide),cst _ (by decide),cst _ (by decide),cst _ (by decide),cst _ (by decide)⟩
theorem keyB_noNL {s:List UInt8} (h:keyB s=true):NoNL s:=by
 unfold keyB wordB plainB at h
 rw [Bool.and_eq_true] at h
 exact noNL_of h.1 (by decide) (by decide)
theorem lines_back {b:List UInt8} {a:Nat} {r:Rec} {s:List UInt8} (hb:b.length≤16777216) (h:b.drop a=recL r++s) (hr:r.Right) :
  ∃A,linesR rdV rdOk hdsR (rs0 b a)=(true,⟨b,A,r.kind,r.id,r.of,r.time,r.key,r.heads,(r.block.length:Int),digL r.block⟩)∧b.drop A=r.block++(endL++s)∧A+r.block.length+4=a+(recL r).length:=by
 obtain ⟨w0,w1,w2,w3,w4,w5,w6,w7⟩:=noNL_word
 obtain ⟨q1,q2,q3⟩:=kind_back hr.kind1 hr.kind5
 obtain ⟨t1,t2⟩:=dateL_rd hr.moment
 obtain ⟨n1,n2,n3⟩:=numK_back (n:=r.block.length) (by have:=hr.block;omega)
 obtain ⟨g1,g2⟩:=digL_back r.block
 have hlen:(recL r).length=keptS.length+2+(wline idS r.id).length+(if r.of=[] then [] else wline ofS r.of).length+(wline kindS (kindL r.kind)).length+(wline dateW (dateL r.time)).length+(wline keyS r.key).length+(headsW r.heads).length+(wline lengthS (itoaL r.block.length)).length+(wline digestS (digL r.block)).length+2+r.block.length+4:=by
  rw [recL_parts]
  simp only [List.length_append,List.length_cons,List.length_nil,endL]
  omega
 rw [recL_parts] at h
 have h0:b.drop a=keptS++13::10::(wline idS r.id++((if r.of=[] then [] else wline ofS r.of)++(wline kindS (kindL r.kind)++(wline dateW (dateL r.time)++(wline keyS r.key++(headsW r.heads++(wline lengthS (itoaL r.block.length)++(wline digestS (digL r.block)++([]++13::10::(r.block++(endL++s))))))))))):=by
  rw [h];simp
 clear h
 obtain ⟨a1,ea1⟩:∃a1,a1=a+(keptS.length+2):=⟨_,rfl⟩
 obtain ⟨e1,d1⟩:=whole_back (x:=⟨b,a,0,[],[],0,[],[],0,[]⟩) h0 w0
 rw [←ea1] at e1 d1
 dsimp only at e1 d1
 obtain ⟨a2,ea2⟩:∃a2,a2=a1+(wline idS r.id).length:=⟨_,rfl⟩
 obtain ⟨e2,d2⟩:=line_back (x:=⟨b,a1,0,[],[],0,[],[],0,[]⟩) (fun _=>true) (fun x s=>{ x with id:=s }) d1 w1 (nameB_noNL hr.id) rfl
 rw [←ea2] at e2 d2
 dsimp only at e2 d2
 have e2':idR ⟨b,a1,0,[],[],0,[],[],0,[]⟩=(true,⟨b,a2,0,r.id,[],0,[],[],0,[]⟩):=e2
 obtain ⟨a3,ea3⟩:∃a3,a3=a2+(if r.of=[] then [] else wline ofS r.of).length:=⟨_,rfl⟩
 have h3:ofR ⟨b,a2,0,r.id,[],0,[],[],0,[]⟩=(true,⟨b,a3,0,r.id,r.of,0,[],[],0,[]⟩)∧b.drop a3=wline kindS (kindL r.kind)++(wline dateW (dateL r.time)++(wline keyS r.key++(headsW r.heads++(wline lengthS (itoaL r.block.length)++(wline digestS (digL r.block)++([]++13::10::(r.block++(endL++s)))))))):=by
  by_cases ho:r.of=[]
  ·rw [if_pos ho] at ea3 d2
   rw [List.nil_append] at d2
   have ea:a3=a2:=by rw [ea3];rfl
   rw [ea,ho]
   have hI:isB ⟨b,a2,0,r.id,[],0,[],[],0,[]⟩ ofS=false:=by
    unfold isB
    dsimp only
    rw [d2]
    rfl
   refine ⟨?_,d2⟩
   unfold ofR
   rw [hI,if_neg (by decide)]
  ·rw [if_neg ho] at ea3 d2
   have hI:isB ⟨b,a2,0,r.id,[],0,[],[],0,[]⟩ ofS=true:=by
    unfold isB
    dsimp only
    rw [d2]
    have:wline ofS r.of=(ofS++colonS)++(r.of++[13,10]):=by simp [wline,colonS]
    rw [this,List.append_assoc]
    exact pre_self _ _
   have hn:nameB r.of=true:=hr.of.resolve_left ho
   obtain ⟨e3,d3⟩:=line_back (x:=⟨b,a2,0,r.id,[],0,[],[],0,[]⟩) (fun s=>decide (s≠[])) (fun x s=>{ x with of:=s }) d2 w2 (nameB_noNL hn) (by simpa using ho)
   rw [←ea3] at e3 d3
   refine ⟨?_,d3⟩
   unfold ofR
   rw [hI,if_pos rfl]
   exact e3
 obtain ⟨e3,d3⟩:=h3
 obtain ⟨a4,ea4⟩:∃a4,a4=a3+(wline kindS (kindL r.kind)).length:=⟨_,rfl⟩
 obtain ⟨e4,d4⟩:=line_back (x:=⟨b,a3,0,r.id,r.of,0,[],[],0,[]⟩) (fun s=>decide (0<kindN s)) (fun x s=>{ x with kind:=kindN s }) d3 w3 q2 q3
 rw [←ea4] at e4 d4
 dsimp only at e4 d4
 rw [q1] at e4
 have e4':kindR ⟨b,a3,0,r.id,r.of,0,[],[],0,[]⟩=(true,⟨b,a4,r.kind,r.id,r.of,0,[],[],0,[]⟩):=e4
 obtain ⟨a5,ea5⟩:∃a5,a5=a4+(wline dateW (dateL r.time)).length:=⟨_,rfl⟩
 obtain ⟨e5,d5⟩:=line_back (x:=⟨b,a4,r.kind,r.id,r.of,0,[],[],0,[]⟩) rdOk (fun x s=>{ x with time:=rdV s }) d4 w4 (dateL_noNL hr.moment) t1
 rw [←ea5] at e5 d5
 dsimp only at e5 d5
 rw [t2] at e5
 have e5':dateR rdV rdOk ⟨b,a4,r.kind,r.id,r.of,0,[],[],0,[]⟩=(true,⟨b,a5,r.kind,r.id,r.of,r.time,[],[],0,[]⟩):=e5
 obtain ⟨a6,ea6⟩:∃a6,a6=a5+(wline keyS r.key).length:=⟨_,rfl⟩
 obtain ⟨e6,d6⟩:=line_back (x:=⟨b,a5,r.kind,r.id,r.of,r.time,[],[],0,[]⟩) (fun _=>true) (fun x s=>{ x with key:=s }) d5 w5 (keyB_noNL hr.key) rfl
 rw [←ea6] at e6 d6
 dsimp only at e6 d6
 have e6':keyR ⟨b,a5,r.kind,r.id,r.of,r.time,[],[],0,[]⟩=(true,⟨b,a6,r.kind,r.id,r.of,r.time,r.key,[],0,[]⟩):=e6
 obtain ⟨a7,ea7⟩:∃a7,a7=a6+(headsW r.heads).length:=⟨_,rfl⟩
 have hlt6:a6<b.length:=lt_of_drop d6 (by simp [wline])
 obtain ⟨e7,d7⟩:=heads_back r.heads ⟨b,a6,r.kind,r.id,r.of,r.time,r.key,[],0,[]⟩ _ _ ⟨hb,Nat.le_of_lt hlt6⟩ (right_head hr) d6
 rw [←ea7] at e7 d7
 dsimp only at e7 d7
 rw [List.nil_append] at e7
 obtain ⟨a8,ea8⟩:∃a8,a8=a7+(wline lengthS (itoaL r.block.length)).length:=⟨_,rfl⟩
 obtain ⟨e8,d8⟩:=line_back (x:=⟨b,a7,r.kind,r.id,r.of,r.time,r.key,r.heads,0,[]⟩) (numK 9) (fun x s=>if numK 9 s=true then { x with length:=decV s } else x) d7 w6 n3 n1
 rw [←ea8] at e8 d8
 dsimp only at e8 d8
 rw [if_pos n1,n2] at e8
 have e8':lengthR ⟨b,a7,r.kind,r.id,r.of,r.time,r.key,r.heads,0,[]⟩=(true,⟨b,a8,r.kind,r.id,r.of,r.time,r.key,r.heads,(r.block.length:Int),[]⟩):=e8
 obtain ⟨a9,ea9⟩:∃a9,a9=a8+(wline digestS (digL r.block)).length:=⟨_,rfl⟩
 obtain ⟨e9,d9⟩:=line_back (x:=⟨b,a8,r.kind,r.id,r.of,r.time,r.key,r.heads,(r.block.length:Int),[]⟩) digestB (fun x s=>{ x with digest:=s }) d8 w7 g2 g1
 rw [←ea9] at e9 d9
 dsimp only at e9 d9
 have e9':digestR ⟨b,a8,r.kind,r.id,r.of,r.time,r.key,r.heads,(r.block.length:Int),[]⟩=(true,⟨b,a9,r.kind,r.id,r.of,r.time,r.key,r.heads,(r.block.length:Int),digL r.block⟩):=e9
 obtain ⟨e10,d10⟩:=whole_back (x:=⟨b,a9,r.kind,r.id,r.of,r.time,r.key,r.heads,(r.block.length:Int),digL r.block⟩) d9 (fun c hc=>by cases hc)
 refine ⟨a9+(([]:List UInt8).length+2),?_,d10,?_⟩
 ·show linesR rdV rdOk hdsR ⟨b,a,0,[],[],0,[],[],0,[]⟩=_
  unfold linesR
  rw [e1,thenR_true,e2',thenR_true,e3,thenR_true,e4',thenR_true,e5',thenR_true,e6',thenR_true,e7,thenR_true,e8',thenR_true,e9',thenR_true,e10]
 ·rw [hlen,ea9,ea8,ea7,ea6,ea5,ea4,ea3,ea2,ea1,List.length_nil]
  omega
theorem one_back {b:List UInt8} {a:Nat} {r:Rec} {s:List UInt8} (hb:b.length≤16777216) (h:b.drop a=recL r++s) (hr:recF r=0):oneR b a=(r,a+(recL r).length,0):=by
 obtain ⟨A,e,d,hA⟩:=lines_back hb h (recF_right hr)
 have hd2:=drop_app2 d
 have hA2:A≤b.length:=by
  rcases Nat.lt_or_ge b.length A with h1 | h1
  ·rw [List.drop_eq_nil_of_le (by omega)] at d
   have:=congrArg List.length d
   simp [endL] at this
  ·exact h1
 have hbl:b.length=A+r.block.length+4+s.length:=by
  have:=congrArg List.length d
  simp only [List.length_append,List.length_drop,endL,List.length_cons,List.length_nil] at this
  omega
 have hrec:(⟨r.kind,r.id,r.of,r.time,r.key,r.heads,r.block⟩:Rec)=r:=rfl
 unfold oneR
 rw [e]
 dsimp only
 rw [Int.toNat_natCast]
 rw [if_neg (by decide),if_neg (by omega),hd2]
 rw [if_neg (by simp [endL]),d,List.take_left' rfl,if_neg (by simp)]
 unfold RS.rec_
 dsimp only
 rw [hrec,if_neg (by simp [hr]),hA]
def fileL (l:List Rec):List UInt8:=l.flatMap recL
def marksOf:Nat→List Rec→List Mark
 | _,[]=>[]
 | a,r::l=>⟨r.id,a,a+(recL r).length⟩::marksOf (a+(recL r).length) l
theorem marksOf_len:∀(l:List Rec) (a:Nat),(marksOf a l).length=l.length
 | [],_=>rfl
 | r::l,a=>by unfold marksOf;rw [List.length_cons,marksOf_len l,List.length_cons]
theorem recL_ne (r:Rec):recL r≠[]:=by rw [recL_parts];simp [keptS]
theorem go_back:∀(l:List Rec) (b:List UInt8) (a:Nat) (L:List Rec) (M:List Mark),b.length≤16777216→a≤b.length→b.drop a=fileL l→(∀r∈l,recF r=0)→fileF (L++l)=0→goR b a L M=(L++l,M++marksOf a l,0,0)
 | [],b,a,L,M,hb,ha,hd,_,hf=>by
  have hlt:¬a<b.length:=by
   have:=congrArg List.length hd
   simp [fileL] at this
   omega
  rw [List.append_nil] at hf
  rw [goR_step hb ha,if_neg hlt,if_neg (by simp [hf])]
  simp [marksOf]
 | r::l,b,a,L,M,hb,ha,hd,hr,hf=>by
  have hd1:b.drop a=recL r++fileL l:=by rw [hd];simp [fileL]
  have hlt:a<b.length:=lt_of_drop hd1 (by simp [recL_ne])
  have h1:=one_back hb hd1 (hr r (by simp))
  have hd2:=drop_app2 hd1
  have ha2:a+(recL r).length≤b.length:=by
   have:=congrArg List.length hd1
   simp only [List.length_drop,List.length_append] at this
   omega
  have ih:=go_back l b (a+(recL r).length) (L++[r]) (M++[⟨r.id,a,a+(recL r).length⟩]) hb ha2 hd2 (fun x hx=>hr x (by simp [hx])) (by simpa using hf)
  rw [goR_step hb ha,if_pos hlt,h1,if_neg (by simp)]
  dsimp only
  rw [ih]
  simp [marksOf]
theorem walkF_sum:∀{l:List Rec} {seen:List (List UInt8)} {n:Nat},walkF seen n l=0→n+sumL l≤500000
 | [],_,n,h=>by
  unfold walkF at h
  split at h
  ·cases h
  ·simp [sumL];omega
 | r::l,seen,n,h=>by
  unfold walkF at h
  split at h
  ·rename_i h1;exact absurd h h1
  ·split at h
   ·cases h
   ·have:=walkF_sum h
    unfold sumL at this ⊢
    simp only [List.map_cons,List.sum_cons]
    omega
theorem fileL_len (l:List Rec):(fileL l).length=sumL l:=by unfold fileL sumL;rw [List.length_flatMap]
theorem file_small {l:List Rec} (h:fileF l=0):(fileL l).length≤500000:=by
 unfold fileF at h
 split at h
 ·cases h
 ·rw [fileL_len]
  have:=walkF_sum h
  omega
theorem read_back {l:List Rec} (h:fileF l=0):readF (fileL l)=(l,marksOf 0 l,0,0):=by
 have hs:=file_small h
 unfold readF
 rw [if_neg (by omega),go_back l (fileL l) 0 [] [] (by omega) (Nat.zero_le _) rfl (fileF_ok h).2 h]
 rfl
theorem marks_at:∀(l:List Rec) (b:List UInt8) (a:Nat),b.drop a=fileL l→∀(i:Nat) (hi:i<l.length) (hm:i<(marksOf a l).length),(∃s,b.drop (marksOf a l)[i].lo=recL l[i]++s)∧(marksOf a l)[i].hi=(marksOf a l)[i].lo+(recL l[i]).length∧a≤(marksOf a l)[i].lo
 | r::l,b,a,hd,0,_,_=>⟨⟨fileL l,by show b.drop a=recL r++fileL l;rw [hd];simp [fileL]⟩,by simp [marksOf],by simp [marksOf]⟩
 | r::l,b,a,hd,i+1,hi,hm=>by
  have hd1:b.drop a=recL r++fileL l:=by rw [hd];simp [fileL]
  have h:=marks_at l b (a+(recL r).length) (drop_app2 hd1) i (by simpa using hi) (by rw [marksOf_len];simpa using hi)
  simp only [marksOf,List.getElem_cons_succ]
  exact ⟨h.1,h.2.1,by omega⟩
theorem marks_rise:∀(l:List Rec) (a:Nat) (i j:Nat) (hij:i<j) (hj:j<(marksOf a l).length),(marksOf a l)[i].lo<(marksOf a l)[j].lo
 | r::l,a,0,j+1,_,hj=>by
  have h:=marks_at l (List.replicate (a+(recL r).length) 0++fileL l) (a+(recL r).length) (List.drop_left' (by simp)) j (by have:=marksOf_len (r::l) a;simp at hj this;omega) (by simpa [marksOf] using hj)
  have:0<(recL r).length:=List.length_pos_iff.2 (recL_ne r)
  simp only [marksOf,List.getElem_cons_succ,List.getElem_cons_zero]
  omega
 | r::l,a,i+1,j+1,hij,hj=>by
  have:=marks_rise l (a+(recL r).length) i j (by omega) (by simpa [marksOf] using hj)
  simpa only [marksOf,List.getElem_cons_succ] using this
def tellsB (r:Rec):Bool:=decide (r.kind=3∨r.kind=4∨r.kind=1)
theorem entG_mem {f:List UInt8} {l:List Rec}:∀{rs:List Rec} {ms:List Mark} {e:Entry},e∈entG f l rs ms→∃(i:Nat) (hr:i<rs.length) (hm:i<ms.length),tellsB rs[i]=true∧e=entOf f l rs[i] ms[i]
 | [],_,e,h=>by unfold entG at h;cases h
 | _::_,[],e,h=>by unfold entG at h;cases h
 | r::rs,m::ms,e,h=>by
  unfold entG at h
  rcases List.mem_append.1 h with h | h
  ·split at h
   ·rename_i hk
    rw [List.mem_singleton] at h
    exact ⟨0,by simp,by simp,by unfold tellsB;simpa using hk,by simpa using h⟩
   ·cases h
  ·obtain ⟨i,h1,h2,h3,h4⟩:=entG_mem h
   exact ⟨i+1,by simpa using h1,by simpa using h2,by simpa using h3,by simpa using h4⟩
theorem entG_count {f:List UInt8} {l:List Rec}:∀{rs:List Rec} {ms:List Mark},rs.length=ms.length→(entG f l rs ms).length=(rs.filter tellsB).length
 | [],[],_=>rfl
 | r::rs,m::ms,h=>by
  have ih:=entG_count (f:=f) (l:=l) (rs:=rs) (ms:=ms) (by simpa using h)
  unfold entG
  rw [List.length_append,ih,List.filter_cons]
  by_cases hk:r.kind=3∨r.kind=4∨r.kind=1
  ·have ht:tellsB r=true:=by unfold tellsB;simpa using hk
   rw [if_pos hk,if_pos ht];simp;omega
  ·have ht:tellsB r=false:=by unfold tellsB;simpa using hk
   rw [if_neg hk,ht];simp
theorem entG_rise {f:List UInt8} {l:List Rec}:∀{rs:List Rec} {ms:List Mark},ms.Pairwise (fun a b=>a.lo<b.lo)→(entG f l rs ms).Pairwise (fun a b=>a.lo<b.lo)
 | [],_,_=>by unfold entG;exact .nil
 | _::_,[],_=>by unfold entG;exact .nil
 | r::rs,m::ms,h=>by
  rw [List.pairwise_cons] at h
  have ih:=entG_rise (f:=f) (l:=l) (rs:=rs) (ms:=ms) h.2
  unfold entG
  split
  ·rw [List.singleton_append,List.pairwise_cons]
   refine ⟨fun e he=>?_,ih⟩
   obtain ⟨i,h1,h2,_,rfl⟩:=entG_mem he
   show ((m.lo:Nat):Int)<((ms[i].lo:Nat):Int)
   have:=h.1 ms[i] (List.getElem_mem h2)
   omega
  ·rw [List.nil_append];exact ih
theorem marks_pairwise (l:List Rec) (a:Nat):(marksOf a l).Pairwise (fun a b=>a.lo<b.lo):=
 List.pairwise_iff_getElem.2 fun i j _ hj hij=>marks_rise l a i j hij hj
theorem Before.total {a b:Entry} (h1:¬Before a b) (h2:¬Before b a) (hf:a.file=b.file):a.lo=b.lo:=by
 unfold Before at h1 h2
 have k1:ltB a.key b.key=false:=by cases e:ltB a.key b.key with | false=>rfl | true=>exact absurd (.inl e) h1
 have k2:ltB b.key a.key=false:=by cases e:ltB b.key a.key with | false=>rfl | true=>exact absurd (.inl e) h2
 have ek:=ltB_total k1 k2
 have e1:¬(a.time<b.time):=fun e=>h1 (.inr ⟨ek,.inl e⟩)
 have e2:¬(b.time<a.time):=fun e=>h2 (.inr ⟨ek.symm,.inl e⟩)
 have et:a.time=b.time:=by omega
 have g1:¬(a.lo<b.lo):=fun e=>h1 (.inr ⟨ek,.inr ⟨et,.inr ⟨hf,e⟩⟩⟩)
 have g2:¬(b.lo<a.lo):=fun e=>h2 (.inr ⟨ek.symm,.inr ⟨et.symm,.inr ⟨hf.symm,e⟩⟩⟩)
 omega
theorem sorted_pairF:∀{l:List Entry} {p:Option Entry},Sorted l→(∀q,p=some q→∀x∈l,Before q x)→(∀x∈l,entryF x=0)→pairF p l=0
 | [],p,_,_,_=>by cases p<;>rfl
 | e::r,none,h,_,he=>by
  have h:=List.pairwise_cons.1 h
  simp only [pairF,he e (by simp),if_true]
  exact sorted_pairF h.2 (fun q hq=>by injection hq with hq;subst hq;exact h.1) (fun x hx=>he x (by simp [hx]))
 | e::r,some q,h,hq,he=>by
  have h:=List.pairwise_cons.1 h
  have hb:=cmpE_neg.2 (hq q rfl e (by simp))
  simp only [pairF,he e (by simp),if_true]
  rw [if_neg (by omega),if_neg (by omega)]
  exact sorted_pairF h.2 (fun q hq=>by injection hq with hq;subst hq;exact h.1) (fun x hx=>he x (by simp [hx]))
theorem sortE_right {l:List Entry} (f:List UInt8) (hf:∀e∈l,e.file=f) (hr:l.Pairwise (fun a b=>a.lo<b.lo)) (he:∀e∈l,entryF e=0) (hl:l.length≤3000):entriesF (sortE l)=0:=by
 obtain ⟨hp,hs⟩:=sortE_spec l
 have hnd:(l.map Entry.lo).Nodup:=by
  rw [List.nodup_iff_pairwise_ne,List.pairwise_map]
  exact hr.imp fun h=>by omega
 have hnd2:((sortE l).map Entry.lo).Nodup:=(hp.map Entry.lo).nodup_iff.2 hnd
 have hlen:=hp.length_eq
 have hsort:Sorted (sortE l):=by
  refine List.pairwise_iff_getElem.2 ?_
  intro i j hi hj hij
  have h1:=hs i j hij hj
  rcases Classical.em (Before (sortE l)[i] (sortE l)[j]) with h2 | h2
  ·exact h2
  ·exfalso
   have e:=Before.total h2 h1 ((hf _ (hp.mem_iff.1 (List.getElem_mem hi))).trans (hf _ (hp.mem_iff.1 (List.getElem_mem hj))).symm)
   have:=List.pairwise_iff_getElem.1 (List.nodup_iff_pairwise_ne.1 hnd2) i j (by simpa using hi) (by simpa using hj) hij
   rw [List.getElem_map,List.getElem_map] at this
   exact this e
 unfold entriesF
 rw [if_neg (by omega)]
 exact sorted_pairF hsort (fun q hq=>by cases hq) (fun x hx=>he x (hp.mem_iff.1 hx))
set_option maxHeartbeats 8000000
theorem record_writeA (acc:List UInt8) (r:Rec) (hr:r.fits) (hacc:acc.length≤1000000) (hlenr:(recL r).length≤1000000):ACallsM Tryz.prog 38 [.own 5 1 (byteRows acc),.x (.agg r.row)] (.own 5 1 (byteRows (acc++recL r))) [.dead,.dead]:=by
 obtain ⟨hk1,hk2,hm,_⟩:=hr
 have hlen:(recL r).length≤1099511627776:=by omega
 have hAl:(byteRows acc).length=acc.length:=rows_len _
 have l8:(wr8 r).length+r.block.length+6≤1000000:=by unfold recL at hlenr;simp at hlenr;omega
 have l7:(wr7 r).length≤(wr8 r).length:=by unfold wr8;simp
 have l6:(wr6 r).length≤(wr7 r).length:=by unfold wr7;simp
 have l5:(wr5 r).length≤(wr6 r).length:=by unfold wr6;simp
 have l4:(wr4 r).length≤(wr5 r).length:=by unfold wr5;simp
 have l3:(wr3 r).length≤(wr4 r).length:=by unfold wr4;simp
 have l2:(wr2 r).length≤(wr3 r).length:=by unfold wr3;simp
 have l1:(wr1 r).length≤(wr2 r).length:=by unfold wr2;split<;>simp
 refine @ACallsM.ofL _ (grows [3,5,6,8,9,13,15,16] [(6,[1,1,1,1,1,1,1,0]),(17,[1,4,7,7,0,0])]) [(2,0)] [] _ _ _ _ _ _ (by simp) mixed (fn:=Tryz.f38) (by kernel_rfl) (by kernel_rfl) rfl (by kernel_rfl) (by kernel_rfl) rfl (by simp [Tryz.f38]) (fun hok=>?_)
 unfold Rec.row
 simp -implicitDefEqProofs [MARK]
 refine ⟨by omega,?_⟩
 rw [append_rows]
 refine AGrow.of (write_line (acc++keptL) [105,100] r.id (acc++wr1 r) (by unfold wr1;rw [List.append_assoc]) (by rw [List.length_append];omega)) ?_
 intro g1
 obtain ⟨K,eK⟩:∃K:Nat,r.kind=(K:Int)+1:=⟨(r.kind-1).toNat,by omega⟩
 have hK5:K<5:=by omega
 have hKw:IntKind.i64.wrap (r.kind-1)=(K:Int):=by rw [eK,show (K:Int)+1-1=K by omega];exact wrapS _ (by omega)
 have hK0:((K:Int)<(kindsL.length:Int))=True:=eq_true (by show (K:Int)<5;omega)
 have hKl:kindsL[K]?=some (kindL r.kind):=by
  unfold kindL
  rw [List.getD_eq_getElem?_getD,eK,show ((K:Int)+1-1).toNat=K by omega,List.getElem?_eq_getElem (show K<kindsL.length from hK5)]
  rfl
 have hheads:r.heads.length≤1099511627776:=by
  have:=headsW_len r.heads
  have:(headsW r.heads).length≤(wr6 r).length:=by unfold wr6;simp
  omega
 have kd:=message_DateText r.time
 rw [if_pos hm,if_pos hm] at kd
 by_cases ho:r.of=[]
 ·have e3:wr3 r=wr1 r++wline [107,105,110,100] (kindL r.kind):=by unfold wr3 wr2;rw [if_pos ho]
  have hor:(r.of=[])=True:=eq_true ho
  simp -implicitDefEqProofs [MARK,hor]
  refine ACallK.of record_kinds ?_
  simp -implicitDefEqProofs [MARK,hKw,hK0,hKl]
  refine AGrow.of (write_line (acc++wr1 r) [107,105,110,100] (kindL r.kind) (acc++wr3 r) (by rw [List.append_assoc];rw [e3]) (by rw [List.length_append];omega)) ?_
  intro g2
  simp -implicitDefEqProofs [MARK]
  refine ACallK.of kd ?_
  simp -implicitDefEqProofs [MARK]
  refine AGrow.of (write_line (acc++wr3 r) [100,97,116,101] (dateL r.time) (acc++wr4 r) (by rw [List.append_assoc];rfl) (by rw [List.length_append];omega)) ?_
  intro g3
  simp -implicitDefEqProofs [MARK]
  refine AGrow.of (write_line (acc++wr4 r) [107,101,121] r.key (acc++wr5 r) (by rw [List.append_assoc];rfl) (by rw [List.length_append];omega)) ?_
  intro g4
  simp -implicitDefEqProofs [MARK]
  refine ALoopS.of (Nat×Value) (fun x=>[(2,.box [.any]),(3,.box r.row),(5,.cloR 77 [.inr (2,0)]),(12,.gown x.2 5 1 (byteRows (acc++(wr5 r++headsW (r.heads.take x.1))))),(46,.x (.one (.list 2 (r.heads.map Head.row)))),(47,.x (.one (.int .i64 r.heads.length))),(48,.x (.one (.int .i64 x.1))),(999999,.res [(2,0)]),(1002000,.link 2 0 12)])
   (fun x=>x.1≤r.heads.length) (fun x=>r.heads.length-x.1) (0,g4 0) (Nat.zero_le _) ?_ ?_
  ·simp [headsW,Rec.row]
  rintro ⟨i,v⟩ hi
  dsimp only at hi ⊢
  by_cases hlt:i<r.heads.length
  ·have hlt':((i:Int)<(r.heads.length:Int))=True:=eq_true (by omega)
   have hwr:IntKind.i64.wrap ((i:Int)+1)=(i:Int)+1:=wrapS _ (by omega)
   have hrow:∀h:Head,h.row=[.str h.name,.str h.value]:=fun _=>rfl
   have hst:headsW (r.heads.take (i+1))=headsW (r.heads.take i)++wline r.heads[i].name r.heads[i].value:=by
    unfold headsW;rw [List.take_succ_eq_append_getElem hlt,List.flatMap_append];simp
   have hpre:(wr5 r++headsW (r.heads.take (i+1))).length≤(wr6 r).length:=by
    unfold wr6 headsW
    have:(r.heads.take (i+1)).flatMap (fun h=>wline h.name h.value) <+: r.heads.flatMap (fun h=>wline h.name h.value):=by
     conv=>rhs;rw [←List.take_append_drop (i+1) r.heads]
     rw [List.flatMap_append]
     exact List.prefix_append _ _
    have:=this.length_le
    simp only [List.length_append]
    omega
   unfold Rec.row
   simp -implicitDefEqProofs [MARK,hlt,hlt',hrow]
   refine AGrow.of (write_line (acc++(wr5 r++headsW (r.heads.take i))) r.heads[i].name r.heads[i].value (acc++(wr5 r++headsW (r.heads.take (i+1)))) (by rw [hst];simp only [List.append_assoc]) (by rw [List.length_append];omega)) ?_
   intro g5
   simp -implicitDefEqProofs [MARK]
   refine Again.of (i+1,g5 0) hlt (by simp only;omega) ?_
   simp [hwr]
  have hlt':((i:Int)<(r.heads.length:Int))=False:=eq_false (by omega)
  have hi':i=r.heads.length:=by omega
  subst hi'
  have hRl:=rows_len r.block
  have hT:wr5 r++headsW (r.heads.take r.heads.length)=wr6 r:=by rw [List.take_length];rfl
  have kI:=strconv_Itoa (r.block.length:Int) (by unfold I64;omega)
  rw [hT]
  unfold Rec.row
  simp -implicitDefEqProofs [MARK,hlt']
  refine ACallK.of kI ?_
  simp -implicitDefEqProofs [MARK]
  refine AGrow.of (write_line (acc++wr6 r) [108,101,110,103,116,104] (itoaL r.block.length) (acc++wr7 r) (by rw [List.append_assoc];rfl) (by rw [List.length_append];omega)) ?_
  intro g6
  simp -implicitDefEqProofs [MARK]
  refine ACallK.of (alike_Digest r.block (by omega)) ?_
  simp -implicitDefEqProofs [MARK]
  refine AGrow.of (write_line (acc++wr7 r) [100,105,103,101,115,116] (digL r.block) (acc++wr8 r) (by rw [List.append_assoc];rfl) (by rw [List.length_append];omega)) ?_
  intro g7
  have hl8:(byteRows (acc++wr8 r)).length=(acc++wr8 r).length:=rows_len _
  have hl9:(acc++wr8 r).length=acc.length+(wr8 r).length:=List.length_append
  simp -implicitDefEqProofs [MARK,hRl,hl8]
  exact ⟨by omega,⟨by omega,by unfold maxLen;omega⟩,by omega,by simp [recL,byteRows]⟩
 ·have e2:wr2 r=wr1 r++wline [111,102] r.of:=by unfold wr2;rw [if_neg ho]
  have hor:(r.of=[])=False:=eq_false ho
  simp -implicitDefEqProofs [MARK,hor]
  refine AGrow.of (write_line (acc++wr1 r) [111,102] r.of (acc++wr2 r) (by rw [List.append_assoc];rw [e2]) (by rw [List.length_append];omega)) ?_
  intro g1b
  simp -implicitDefEqProofs [MARK]
  refine ACallK.of record_kinds ?_
  simp -implicitDefEqProofs [MARK,hKw,hK0,hKl]
  refine AGrow.of (write_line (acc++wr2 r) [107,105,110,100] (kindL r.kind) (acc++wr3 r) (by rw [List.append_assoc];rfl) (by rw [List.length_append];omega)) ?_
  intro g2
  simp -implicitDefEqProofs [MARK]
  refine ACallK.of kd ?_
  simp -implicitDefEqProofs [MARK]
  refine AGrow.of (write_line (acc++wr3 r) [100,97,116,101] (dateL r.time) (acc++wr4 r) (by rw [List.append_assoc];rfl) (by rw [List.length_append];omega)) ?_
  intro g3
  simp -implicitDefEqProofs [MARK]
  refine AGrow.of (write_line (acc++wr4 r) [107,101,121] r.key (acc++wr5 r) (by rw [List.append_assoc];rfl) (by rw [List.length_append];omega)) ?_
  intro g4
  simp -implicitDefEqProofs [MARK]
  refine ALoopS.of (Nat×Value) (fun x=>[(2,.box [.any]),(3,.box r.row),(5,.cloR 77 [.inr (2,0)]),(12,.gown x.2 5 1 (byteRows (acc++(wr5 r++headsW (r.heads.take x.1))))),(46,.x (.one (.list 2 (r.heads.map Head.row)))),(47,.x (.one (.int .i64 r.heads.length))),(48,.x (.one (.int .i64 x.1))),(999999,.res [(2,0)]),(1002000,.link 2 0 12)])
   (fun x=>x.1≤r.heads.length) (fun x=>r.heads.length-x.1) (0,g4 0) (Nat.zero_le _) ?_ ?_
  ·simp [headsW,Rec.row]
  rintro ⟨i,v⟩ hi
  dsimp only at hi ⊢
  by_cases hlt:i<r.heads.length
  ·have hlt':((i:Int)<(r.heads.length:Int))=True:=eq_true (by omega)
   have hwr:IntKind.i64.wrap ((i:Int)+1)=(i:Int)+1:=wrapS _ (by omega)
   have hrow:∀h:Head,h.row=[.str h.name,.str h.value]:=fun _=>rfl
   have hst:headsW (r.heads.take (i+1))=headsW (r.heads.take i)++wline r.heads[i].name r.heads[i].value:=by
    unfold headsW;rw [List.take_succ_eq_append_getElem hlt,List.flatMap_append];simp
   have hpre:(wr5 r++headsW (r.heads.take (i+1))).length≤(wr6 r).length:=by
    unfold wr6 headsW
    have:(r.heads.take (i+1)).flatMap (fun h=>wline h.name h.value) <+: r.heads.flatMap (fun h=>wline h.name h.value):=by
     conv=>rhs;rw [←List.take_append_drop (i+1) r.heads]
     rw [List.flatMap_append]
     exact List.prefix_append _ _
    have:=this.length_le
    simp only [List.length_append]
    omega
   unfold Rec.row
   simp -implicitDefEqProofs [MARK,hlt,hlt',hrow]
   refine AGrow.of (write_line (acc++(wr5 r++headsW (r.heads.take i))) r.heads[i].name r.heads[i].value (acc++(wr5 r++headsW (r.heads.take (i+1)))) (by rw [hst];simp only [List.append_assoc]) (by rw [List.length_append];omega)) ?_
   intro g5
   simp -implicitDefEqProofs [MARK]
   refine Again.of (i+1,g5 0) hlt (by simp only;omega) ?_
   simp [hwr]
  have hlt':((i:Int)<(r.heads.length:Int))=False:=eq_false (by omega)
  have hi':i=r.heads.length:=by omega
  subst hi'
  have hRl:=rows_len r.block
  have hT:wr5 r++headsW (r.heads.take r.heads.length)=wr6 r:=by rw [List.take_length];rfl
  have kI:=strconv_Itoa (r.block.length:Int) (by unfold I64;omega)
  rw [hT]
  unfold Rec.row
  simp -implicitDefEqProofs [MARK,hlt']
  refine ACallK.of kI ?_
  simp -implicitDefEqProofs [MARK]
  refine AGrow.of (write_line (acc++wr6 r) [108,101,110,103,116,104] (itoaL r.block.length) (acc++wr7 r) (by rw [List.append_assoc];rfl) (by rw [List.length_append];omega)) ?_
  intro g6
  simp -implicitDefEqProofs [MARK]
  refine ACallK.of (alike_Digest r.block (by omega)) ?_
  simp -implicitDefEqProofs [MARK]
  refine AGrow.of (write_line (acc++wr7 r) [100,105,103,101,115,116] (digL r.block) (acc++wr8 r) (by rw [List.append_assoc];rfl) (by rw [List.length_append];omega)) ?_
  intro g7
  have hl8:(byteRows (acc++wr8 r)).length=(acc++wr8 r).length:=rows_len _
  have hl9:(acc++wr8 r).length=acc.length+(wr8 r).length:=List.length_append
  simp -implicitDefEqProofs [MARK,hRl,hl8]
  exact ⟨by omega,⟨by omega,by unfold maxLen;omega⟩,by omega,by simp [recL,byteRows]⟩
theorem fileL_take {l:List Rec} {i:Nat} (h:i<l.length):fileL (l.take (i+1))=fileL (l.take i)++recL l[i]:=by
 unfold fileL
 rw [List.take_succ_eq_append_getElem h,List.flatMap_append]
 simp
theorem fileL_take_le (l:List Rec) (i:Nat):(fileL (l.take i)).length≤(fileL l).length:=by
 have:fileL l=fileL (l.take i)++fileL (l.drop i):=by
  unfold fileL
  rw [←List.flatMap_append,List.take_append_drop]
 rw [this,List.length_append]
 omega
def fileV (l:List Rec):List UInt8:=if fileF l=0 then fileL l else []
theorem record_FileBytes (l:List Rec):ACalls Tryz.prog 17 [recsV l] (.tup [.one (fileB (fileV l)),.one (.int .i64 (fileF l))]):=by
 have k1:=record_CheckFile l
 unfold fileV
 unfold recsV at *
 refine ACalls.of mixed (fn:=Tryz.f17) (by kernel_rfl) (by kernel_rfl) rfl (by kernel_rfl) (by simp [Tryz.f17]) (fun hok=>?_)
 simp -implicitDefEqProofs
 refine ACallK.of k1 ?_
 by_cases hf:fileF l=0
 rotate_left
 ·have hf':(fileF l=0)=False:=eq_false hf
  simp -implicitDefEqProofs [hf']
 obtain ⟨hl,hok⟩:=fileF_ok hf
 have hsm:=file_small hf
 rw [if_pos hf,hf]
 simp -implicitDefEqProofs
 refine ALoopS.of Nat (fun i=>[(5,.own 5 1 (byteRows (fileL (l.take i)))),(13,.x (.one (.list 7 (l.map Rec.row)))),(14,.x (.one (.int .i64 l.length))),(15,.x (.one (.int .i64 i)))])
  (fun i=>i≤l.length) (fun i=>l.length-i) 0 (Nat.zero_le _) ?_ ?_
 ·simp [fileL,byteRows]
 rintro i hi
 by_cases hlt:i<l.length
 ·have hlt':((i:Int)<(l.length:Int))=True:=eq_true (by omega)
  have hwr:IntKind.i64.wrap ((i:Int)+1)=(i:Int)+1:=wrapS _ (by omega)
  have hrow:l[i].row=[.int .i64 l[i].kind,.str l[i].id,.str l[i].of,.int .i64 l[i].time,.str l[i].key,.list 2 (l[i].heads.map Head.row),fileB l[i].block]:=rfl
  have hri:=recF_right (hok l[i] (List.getElem_mem hlt))
  have hle:=fileL_take_le l i
  have hlr:=recL_len hri
  have k2:=record_writeA (fileL (l.take i)) l[i] (right_fits hri) (by omega) (by omega)
  rw [hrow] at k2
  have hst:=fileL_take hlt
  simp -implicitDefEqProofs [hlt,hlt',hrow]
  refine ACallK.lend ?_
  simp -implicitDefEqProofs
  refine ACallM.of k2 ?_
  simp -implicitDefEqProofs
  refine Again.of (i+1) hlt (by omega) ?_
  simp [hwr,hst]
 ·have hlt':((i:Int)<(l.length:Int))=False:=eq_false (by omega)
  obtain rfl:i=l.length:=by omega
  rw [List.take_length]
  simp -implicitDefEqProofs [hlt']
theorem record_ReadOne (b:List UInt8) (a:Nat) (hb:b.length≤500000) (ha:a≤b.length):ACalls Tryz.prog 20 [.one (fileB b),.one (.int .i64 a)] (oneV (oneR b a)):=by
 have k1:=record_readOne b a (by omega) ha
 have hrow:∀r:Rec,r.row=[.int .i64 r.kind,.str r.id,.str r.of,.int .i64 r.time,.str r.key,.list 2 (r.heads.map Head.row),fileB r.block]:=fun _=>rfl
 have hRl:=rows_len b
 generalize oneR b a=o at *
 obtain ⟨r,nx,f⟩:=o
 unfold oneV at *
 dsimp only at *
 rw [hrow] at *
 have h1:(500000<(b.length:Int))=False:=eq_false (by omega)
 have h2:((b.length:Int)<(a:Int))=False:=eq_false (by omega)
 refine ACalls.of mixed (fn:=Tryz.f20) (by kernel_rfl) (by kernel_rfl) rfl (by kernel_rfl) (by simp [Tryz.f20]) (fun hok=>?_)
 simp -implicitDefEqProofs [hRl,h1,h2]
 refine ⟨fun h=>by omega,ACallK.of k1 ?_⟩
 simp -implicitDefEqProofs
theorem ansF_st {b:List UInt8} (h:(ansF b).2.2.2=0):100≤(ansF b).1.st∧(ansF b).1.st≤599:=by
 unfold ansF at *
 split at h
 ·cases h
 rename_i h1
 rw [if_neg h1]
 split at h
 ·cases h
 rename_i h2
 rw [if_neg h2]
 generalize (topR b).1=t at *
 generalize (topR b).2.1=a at *
 unfold ansG at *
 split at h
 ·rename_i h3
  dsimp only at h
  split at h
  ·cases h
  ·exact absurd h h3
 rename_i h3
 rw [if_neg h3]
 have ht:100≤t.st∧t.st≤599:=by
  have h4:topF t=0:=Decidable.of_not_not h3
  unfold topF at h4
  split at h4
  ·cases h4
  ·omega
 repeat' split
 all_goals first | exact ht | (exfalso;simp_all;done)
theorem entOf_right {f:List UInt8} {l:List Rec} {r:Rec} {m:Mark} (hf:nameB f=true) (hr:recF r=0) (hlo:m.lo≤m.hi) (hhi:m.hi≤500000):entryF (entOf f l r m)=0:=by
 have hri:=recF_right hr
 unfold entryF
 have hst:(entOf f l r m).status≠0→inB 100 599 (entOf f l r m).status=true:=by
  unfold entOf
  dsimp only
  intro h
  split at h
  ·rename_i h1
   rw [if_pos h1]
   unfold toldF at *
   split at h
   ·exact absurd rfl h
   ·rename_i h2
    rw [if_neg h2]
    have:=ansF_st (Decidable.of_not_not h2)
    unfold inB
    split<;>(rw [Bool.and_eq_true,decide_eq_true_iff,decide_eq_true_iff];exact this)
  ·exact absurd rfl h
 have hty:(entOf f l r m).type≠[]→wordB (entOf f l r m).type 40=true:=by
  unfold entOf
  dsimp only
  intro h
  split at h
  ·rename_i h1
   rw [if_pos h1]
   unfold toldF at *
   split at h
   ·exact absurd rfl h
   ·rename_i h2
    rw [if_neg h2]
    split at h
    ·rename_i h3
     rw [if_pos h3]
     exact h3.2
    ·exact absurd rfl h
  ·exact absurd rfl h
 rw [if_neg (by have:=hri.key;simp [entOf,this]),if_neg (by
  have h1:momentB (entOf f l r m).time=true:=hri.moment
  rintro (h | ⟨h2,h3⟩)
  ·rw [h1] at h;cases h
  ·rw [hst h2] at h3;cases h3),if_neg (by
  rintro ⟨h2,h3⟩
  rw [hty h2] at h3;cases h3),if_neg (by
  have h1:digestB (entOf f l r m).digest=true:=(digL_back _).1
  rw [h1];decide),if_neg (by
  have h1:nameB (entOf f l r m).file=true:=hf
  rw [h1];decide),if_neg ?_]
 have h1:inB 0 500000 (entOf f l r m).lo=true:=by
  show inB 0 500000 ((m.lo:Nat):Int)=true
  unfold inB;rw [Bool.and_eq_true,decide_eq_true_iff,decide_eq_true_iff];omega
 have h2:inB (entOf f l r m).lo 500000 (entOf f l r m).hi=true:=by
  show inB ((m.lo:Nat):Int) 500000 ((m.hi:Nat):Int)=true
  unfold inB;rw [Bool.and_eq_true,decide_eq_true_iff,decide_eq_true_iff];omega
 rw [h1,h2];decide
theorem ent_points {f:List UInt8} {l:List Rec} (hfl:fileF l=0) {e:Entry} (he:e∈sortE (entG f l l (marksOf 0 l))) :
  ∃(r:Rec) (a n:Nat),a≤(fileL l).length∧n≤500000∧oneR (fileL l) a=(r,n,0)∧e.lo=(a:Int)∧e.hi=(n:Int)∧e.key=r.key∧e.time=r.time∧e.file=f∧e.same=(r.kind==4)∧(nameB f=true→entryF e=0):=by
 have hsm:=file_small hfl
 obtain ⟨_,hok⟩:=fileF_ok hfl
 obtain ⟨i,hi,hm,_,rfl⟩:=entG_mem ((sortE_spec _).1.mem_iff.1 he)
 obtain ⟨⟨s,hd⟩,hhi,_⟩:=marks_at l (fileL l) 0 rfl i hi hm
 have hlt:=lt_of_drop hd (by intro h;exact recL_ne _ (List.append_eq_nil_iff.1 h).1)
 have hone:=one_back (by omega) hd (hok _ (List.getElem_mem hi))
 have hlen:=congrArg List.length hd
 rw [List.length_drop,List.length_append] at hlen
 refine ⟨l[i],(marksOf 0 l)[i].lo,(marksOf 0 l)[i].hi,by omega,by omega,by rw [hone,hhi],rfl,rfl,rfl,rfl,rfl,rfl,fun hn=>?_⟩
 exact entOf_right hn (hok _ (List.getElem_mem hi)) (by omega) (by omega)
theorem ents_right {f:List UInt8} {l:List Rec} (hfl:fileF l=0) (hn:nameB f=true):entriesF (sortE (entG f l l (marksOf 0 l)))=0∧(sortE (entG f l l (marksOf 0 l))).length=(l.filter tellsB).length∧(l.filter tellsB).length≤1000:=by
 obtain ⟨hl,hok⟩:=fileF_ok hfl
 have hcount:=entG_count (f:=f) (l:=l) (rs:=l) (ms:=marksOf 0 l) (marksOf_len l 0).symm
 have hle:(l.filter tellsB).length≤l.length:=List.length_filter_le _ _
 refine ⟨sortE_right f ?_ (entG_rise (marks_pairwise l 0)) ?_ (by omega),by rw [(sortE_spec _).1.length_eq,hcount],by omega⟩
 ·intro e he
  obtain ⟨i,hi,hm,_,rfl⟩:=entG_mem he
  rfl
 ·intro e he
  obtain ⟨r,a,n,_,_,_,_,_,_,_,_,_,h⟩:=ent_points hfl ((sortE_spec _).1.mem_iff.2 he)
  exact h hn
theorem filter_take {l:List Rec} {i:Nat} (h:i<l.length):((l.take (i+1)).filter tellsB).length=((l.take i).filter tellsB).length+if tellsB l[i] then 1 else 0:=by
 rw [List.take_succ_eq_append_getElem h,List.filter_append,List.length_append]
 congr 1
 cases hh:tellsB l[i]<;>simp [hh]
theorem lawPoint (f:List UInt8) (l:List Rec):ACalls Tryz.prog 6 [.one (.str f),recsV l] (.x (.one (.bool true))):=by
 have k1:=record_FileBytes l
 have k2:=index_OfFile f (fileV l)
 unfold recsV at *
 unfold fileV at *
 by_cases hfl:fileF l=0
 rotate_left
 ·rw [if_neg hfl] at *
  have hfl':(fileF l=0)=False:=eq_false hfl
  refine ACalls.of mixed (fn:=Tryz.f6) (by kernel_rfl) (by kernel_rfl) rfl (by kernel_rfl) (by simp [Tryz.f6]) (fun hok=>?_)
  simp -implicitDefEqProofs
  refine ACallK.of k1 ?_
  simp -implicitDefEqProofs [hfl']
  refine ACallGS.of (fun _=>law8_awake) rfl ?_
  simp -implicitDefEqProofs
 rw [if_pos hfl] at k1 k2
 rw [hfl] at k1
 have hsm:=file_small hfl
 have hRl:=rows_len (fileL l)
 by_cases hn:nameB f=true
 rotate_left
 ·have e2:ofFileF f (fileL l)=([],5):=by unfold ofFileF;rw [if_pos (by simpa using hn)]
  rw [e2] at k2
  refine ACalls.of mixed (fn:=Tryz.f6) (by kernel_rfl) (by kernel_rfl) rfl (by kernel_rfl) (by simp [Tryz.f6]) (fun hok=>?_)
  simp -implicitDefEqProofs
  refine ACallK.of k1 ?_
  simp -implicitDefEqProofs
  refine ACallK.of k2 ?_
  simp -implicitDefEqProofs
  refine ACallGS.of (fun _=>law8_awake) rfl ?_
  simp -implicitDefEqProofs
 have e2:ofFileF f (fileL l)=(sortE (entG f l l (marksOf 0 l)),0):=by unfold ofFileF;rw [if_neg (by simp [hn]),read_back hfl];rfl
 rw [e2] at k2
 obtain ⟨hr1,hr2,hr3⟩:=ents_right hfl hn
 obtain ⟨hl,hrecs⟩:=fileF_ok hfl
 have hpt:∀e∈sortE (entG f l l (marksOf 0 l)),_:=fun e he=>ent_points hfl he
 generalize sortE (entG f l l (marksOf 0 l))=X at *
 have k9:=index_checkEntries X
 rw [hr1] at k9
 unfold entries at k2
 refine ACalls.of mixed (fn:=Tryz.f6) (by kernel_rfl) (by kernel_rfl) rfl (by kernel_rfl) (by simp [Tryz.f6]) (fun hok=>?_)
 simp -implicitDefEqProofs
 refine ACallK.of k1 ?_
 simp -implicitDefEqProofs
 refine ACallK.of k2 ?_
 simp -implicitDefEqProofs
 refine ALoopS.of Nat (fun i=>[(0,.x (.one (.str f))),(1,.x (.one (.list 7 (l.map Rec.row)))),(5,.x (.one (fileB (fileL l)))),(7,.x (.one (.list 9 (X.map Entry.row)))),(8,.x (.one (.int .i64 ((l.take i).filter tellsB).length))),(9,.x (.one (.int .i64 i)))])
  (fun i=>i≤l.length) (fun i=>l.length-i) 0 (Nat.zero_le _) ?_ ?_
 ·simp
 rintro i hi
 by_cases hlt:i<l.length
 ·have hlt':((i:Int)<(l.length:Int))=True:=eq_true (by omega)
  have hwr:IntKind.i64.wrap ((i:Int)+1)=(i:Int)+1:=wrapS _ (by omega)
  have hcnt:((l.take i).filter tellsB).length≤i:=Nat.le_trans (List.length_filter_le _ _) (by rw [List.length_take];omega)
  have hwc:IntKind.i64.wrap ((((l.take i).filter tellsB).length:Int)+1)=(((l.take i).filter tellsB).length:Int)+1:=wrapS _ (by omega)
  have hrow:l[i].row=[.int .i64 l[i].kind,.str l[i].id,.str l[i].of,.int .i64 l[i].time,.str l[i].key,.list 2 (l[i].heads.map Head.row),fileB l[i].block]:=rfl
  have hri:=recF_right (hrecs l[i] (List.getElem_mem hlt))
  have hk1:=hri.kind1
  have hk5:=hri.kind5
  have hft:=filter_take hlt
  by_cases h2:l[i].kind=2
  ·have ht:tellsB l[i]=false:=by unfold tellsB;rw [h2];decide
   rw [ht] at hft
   have q2:(l[i].kind=2)=True:=eq_true h2
   simp -implicitDefEqProofs [hlt,hlt',hrow,q2]
   refine Again.of (i+1) hlt (by omega) ?_
   simp [hwr,hft]
  ·have q2:(l[i].kind=2)=False:=eq_false h2
   by_cases h5:l[i].kind=5
   ·have ht:tellsB l[i]=false:=by unfold tellsB;rw [h5];decide
    rw [ht] at hft
    have q5:(l[i].kind=5)=True:=eq_true h5
    simp -implicitDefEqProofs [hlt,hlt',hrow,q2,q5]
    refine Again.of (i+1) hlt (by omega) ?_
    simp [hwr,hft]
   ·have ht:tellsB l[i]=true:=by unfold tellsB;rw [decide_eq_true_iff];omega
    rw [ht] at hft
    have q5:(l[i].kind=5)=False:=eq_false h5
    simp -implicitDefEqProofs [hlt,hlt',hrow,q2,q5]
    refine Again.of (i+1) hlt (by omega) ?_
    simp [hwr,hwc,hft]
 ·have hlt':((i:Int)<(l.length:Int))=False:=eq_false (by omega)
  obtain rfl:i=l.length:=by omega
  rw [List.take_length,←hr2]
  simp -implicitDefEqProofs [hlt']
  refine ALoopS.of Nat (fun i=>[(0,.x (.one (.str f))),(5,.x (.one (fileB (fileL l)))),(7,.x (.one (.list 9 (X.map Entry.row)))),(8,.x (.one (.int .i64 X.length))),(10,.x (.one (.int .i64 i)))])
   (fun i=>i≤X.length) (fun i=>X.length-i) 0 (Nat.zero_le _) ?_ ?_
  ·simp
  rintro i hi
  by_cases hlt:i<X.length
  ·have hltx:((i:Int)<(X.length:Int))=True:=eq_true (by omega)
   have hwr:IntKind.i64.wrap ((i:Int)+1)=(i:Int)+1:=wrapS _ (by omega)
   obtain ⟨r,a,n,ha,hna,hone,e1,e2,e3,e4,e5,e6,_⟩:=hpt X[i] (List.getElem_mem hlt)
   have hrow:X[i].row=[.str r.key,.int .i64 r.time,.int .i64 X[i].status,.str X[i].type,.str X[i].digest,.str f,.int .i64 a,.int .i64 n,.bool (r.kind==4)]:=by
    show ([.str X[i].key,.int .i64 X[i].time,.int .i64 X[i].status,.str X[i].type,.str X[i].digest,.str X[i].file,.int .i64 X[i].lo,.int .i64 X[i].hi,.bool X[i].same]:List CV)=_
    rw [e1,e2,e3,e4,e5,e6]
   have k3:=record_ReadOne (fileL l) a hsm ha
   rw [hone] at k3
   unfold oneV at k3
   have hrr:r.row=[.int .i64 r.kind,.str r.id,.str r.of,.int .i64 r.time,.str r.key,.list 2 (r.heads.map Head.row),fileB r.block]:=rfl
   rw [hrr] at k3
   simp -implicitDefEqProofs [hlt,hltx,hrow]
   refine ACallK.of k3 ?_
   simp -implicitDefEqProofs [hlt,hltx,hrow]
   refine Again.of (i+1) hlt (by omega) ?_
   simp [hwr]
  ·have hltx:((i:Int)<(X.length:Int))=False:=eq_false (by omega)
   obtain rfl:i=X.length:=by omega
   simp -implicitDefEqProofs [hltx]
   refine ACallGS.of (fun _=>k9) rfl ?_
   simp -implicitDefEqProofs
   refine ACallGS.of (fun _=>law8_awake) rfl ?_
   simp -implicitDefEqProofs
end Go.Proofs.YtlcmnclbljedfaaGreatDoor
namespace Go.Proofs.YtlcmnclbljedfaaGreatDoor
open Go Go.Ab
variable [Amb]
set_option maxRecDepth 100000
theorem own:ownKnob Tryz.prog.godebug=none:=by kernel_rfl
theorem laidOut:laidOutB Tryz.prog=true:=by kernel_rfl
theorem strFits {x:XV} (h:KT.fitsX .s x):∃l,x=.one (.str l):=by
 cases x with
 | agg cs=>exact h.elim
 | one c =>
  obtain ⟨l,hx,_⟩:=h
  injection hx with hx
  exact ⟨l,by rw [hx]⟩
end Go.Proofs.YtlcmnclbljedfaaGreatDoor
namespace Go.Proofs.YtlcmnclbljedfaaGreatDoor
open Go Go.Ab
set_option maxRecDepth 100000
section
variable [Amb]
def bytesK:KT:=.sl 1 (.i .u8)
def headK:KT:=.st [.s,.s]
def recK:KT:=.st [.i .i64,.s,.s,.i .i64,.s,.sl 2 headK,bytesK]
def recsK:KT:=.sl 7 recK
theorem bytesHas:bytesK.has Tryz.prog 41:=⟨5,Tryz.underlying41,by kernel_rfl,rfl,by decide,Tryz.underlying5⟩
theorem headHas:headK.has Tryz.prog 84:=⟨_,Tryz.underlying84,by kernel_rfl,rfl,by kernel_rfl,Tryz.underlying9,rfl,by kernel_rfl,Tryz.underlying9,trivial⟩
theorem recHas:recK.has Tryz.prog 55:=
 ⟨_,Tryz.underlying55,by kernel_rfl,rfl,by kernel_rfl,Tryz.underlying3,rfl,by kernel_rfl,Tryz.underlying9,rfl,by kernel_rfl,Tryz.underlying9,rfl,by kernel_rfl,Tryz.underlying3,rfl,by kernel_rfl,Tryz.underlying9,
  rfl,by kernel_rfl,⟨84,Tryz.underlying40,by kernel_rfl,rfl,by decide,headHas⟩,rfl,by kernel_rfl,bytesHas,trivial⟩
theorem recsHas:recsK.has Tryz.prog 49:=⟨55,Tryz.underlying49,by kernel_rfl,rfl,by decide,recHas⟩
theorem rowsFitP {α:Type} {row:α→List CV} {p:List CV→Prop} (hp:∀cs,p cs→∃e,cs=row e) {xs:List (List CV)} (h:∀x∈xs,p x):∃l:List α,xs=l.map row:=by
 induction xs with
 | nil=>exact ⟨[],rfl⟩
 | cons x r ih =>
  obtain ⟨l,rfl⟩:=ih (fun y hy=>h y (by simp [hy]))
  obtain ⟨f,rfl⟩:=hp x (h x (by simp))
  exact ⟨f::l,rfl⟩
theorem bytesFits {cs:List CV} (h:bytesK.fits cs):∃l:List UInt8,cs=[fileB l]:=by
 obtain ⟨xs,rfl,hx⟩:=h
 obtain ⟨l,rfl⟩:=rowsFitP (row:=byteRow) (p:=KT.fits (.i .u8)) (fun cs hc=>by
  obtain ⟨n,rfl,hn⟩:=hc
  have hb:0≤n∧n<256:=by
   simp only [Lit.wf,decide_eq_true_eq,Bool.and_eq_true] at hn
   have h1:IntKind.u8.min=0:=by decide
   have h2:IntKind.u8.max=255:=by decide
   simp only [h1,h2] at hn
   omega
  refine ⟨UInt8.ofNat n.toNat,?_⟩
  simp only [byteRow,List.cons.injEq,and_true,CV.int.injEq,true_and]
  have:(UInt8.ofNat n.toNat).toNat=n.toNat:=by
   simp only [UInt8.toNat_ofNat']
   omega
  rw [this]
  omega) hx
 exact ⟨l,rfl⟩
theorem headFits' {cs:List CV} (h:headK.fits cs):∃e:Head,cs=e.row:=by
 simp only [headK,KT.fits,KT.fits.fitsAll] at h
 obtain ⟨_,_,rfl,⟨e0,rfl,_⟩,_,_,rfl,⟨e1,rfl,_⟩,rfl⟩:=h
 exact ⟨⟨e0,e1⟩,rfl⟩
theorem recFits' {cs:List CV} (h:recK.fits cs):∃e:Rec,cs=e.row:=by
 simp only [recK,KT.fits,KT.fits.fitsAll] at h
 obtain ⟨_,_,rfl,⟨e0,rfl,_⟩,_,_,rfl,⟨e1,rfl,_⟩,_,_,rfl,⟨e2,rfl,_⟩,_,_,rfl,⟨e3,rfl,_⟩,_,_,rfl,⟨e4,rfl,_⟩,_,_,rfl,⟨xs,rfl,hx⟩,_,_,rfl,h6,rfl⟩:=h
 obtain ⟨e6,rfl⟩:=bytesFits h6
 obtain ⟨e5,rfl⟩:=rowsFitP (row:=Head.row) (fun cs hc=>headFits' hc) hx
 exact ⟨⟨e0,e1,e2,e3,e4,e5,e6⟩,rfl⟩
theorem recsFits {x:XV} (h:recsK.fitsX x):∃l:List Rec,x=recsV l:=by
 cases x with
 | agg cs=>exact h.elim
 | one c =>
  obtain ⟨xs,hx,hr⟩:=h
  injection hx with hx
  obtain ⟨l,rfl⟩:=rowsFitP (row:=Rec.row) (fun cs hc=>recFits' hc) hr
  exact ⟨l,by rw [hx];rfl⟩
end
def IntCell (cs:Array Value):Prop:=∃m,cs[0]?=some (.int .i64 m)
@[reducible] def ambI (P : Program) : Amb := Amb.tabs P [("internal/strconv.uint64pow10", (· = pow10Cells)), ("internal/bytealg.MaxLen", IntCell)]
theorem ambI_pow (P:Program):@HasPow10 (ambI P) P:=@HasPow10.mk (ambI P) P (fun w h=>by
 obtain ⟨cs,hc,rfl⟩:=h _ List.mem_cons_self
 exact hc)
theorem cell_var {P:Program} {w:World} {n:String} {g:Nat} (hg:P.globalNamed n=some g) {m:Int}:(∃cs,w.var? P n=some cs∧cs[0]?=some (.int .i64 m))↔w.cell? ⟨g,0,none⟩=some (.int .i64 m):=by
 unfold World.var? World.cell?
 rw [hg]
 simp only [Option.bind_some]
 constructor
 ·rintro ⟨cs,h,h0⟩
  split at h
  ·rename_i hh
   cases h
   rw [hh]
   simpa using h0
  ·cases h
 ·intro h
  cases hh:w.heap[g]? with
  | none=>rw [hh] at h;cases h
  | some o =>
   rw [hh] at h
   cases o with
   | cells cs t f=>exact ⟨cs,rfl,by simpa using h⟩
   | _=>simp at h
theorem ambI_int {P : Program} (g : Nat) (hg : P.globalNamed "internal/bytealg.MaxLen" = some g) : @HasInt (ambI P) g := @HasInt.mk (ambI P) g (fun w h => by
 obtain ⟨cs, hc, m, hm⟩ := h ("internal/bytealg.MaxLen", IntCell) (by simp)
 exact ⟨m,(cell_var hg).1 ⟨cs,hc,hm⟩⟩)
theorem ambI_laid {W : World} {l : List (String × DataW Unit)} (j : Nat) (h : laidMetH Tryz.prog l W) (hp : (l.all fun x => x.2.handleName?.isNone) = true) (hj : l[j]? = some ("internal/strconv.uint64pow10", Lib.tabData .u64 Lib.pow10Tab)) (hW : W.ShapedOpen Tryz.prog) : (ambI Tryz.prog).holds W := by
 rw [MakeChecks.laidMetH_plain _ _ _ hp] at h
 have h1:=tabIs_at (g:=1) (t:=331) (e:=156) (n:=20) (by kernel_rfl) (by kernel_rfl) Tryz.underlying331 Tryz.underlying156 (by kernel_rfl) (by kernel_rfl) j h hj
 obtain ⟨m,hm⟩:=cell_of_shapedOpen_int (P:=Tryz.prog) (g:=0) (t:=3) (zero:=#[.int .i64 0]) (k:=.i64) hW (of_decide_eq_true (by kernel_rfl)) (by kernel_rfl) rfl (by kernel_rfl) (by kernel_rfl) Tryz.underlying3
 intro x hx
 simp only [List.mem_cons,List.not_mem_nil,or_false] at hx
 rcases hx with rfl | rfl
 ·exact ⟨_,h1,rfl⟩
 · obtain ⟨cs, hc, h0⟩ := (cell_var (P := Tryz.prog) (n := "internal/bytealg.MaxLen") (g := 0) (by kernel_rfl)).2 hm
   exact ⟨cs,hc,m,h0⟩
theorem handed_shaped_and {H:Type} {enc:TypeId×Value→H} {a:Assume} {C:Checked} {os:Os} {f:FuncId} {fn:Func} {s:ChangeSpec} {conds:List PathCond} {apart fresh handsOn again:Bool} {X:World→Array Value→Prop}
  (hX:∀(w w':World) (args:Array Value),w.heap=w'.heap→X w args→X w' args)
  (own:ownKnob C.prog.godebug=none) (started:os.Started) (noInit:C.prog.inits.idxOf? f=none) (hfn:C.prog.funcs[f]?=some fn)
  (witness:∃(w:World) (tape:Tape) (i:Input),w.os=os∧(w.forCall tape i).Shaped C.prog∧i.vars=[]∧Input.okWide C.prog (w.forCall tape i) .any w.heap.size f i ∧
   ((s.pre enc C.prog fn conds apart (w.forCall tape i).memory i.args∧X (w.forCall tape i).memory i.args)∧sizedMet enc C.prog fn (OpenSpec.ofChange s) apart (w.forCall tape i).memory i.args)∧a.holds C.prog (lone (Frame.enter C.prog f i.args .normal) [] (w.forCall tape i)))
  (contract:∀(W:World) (base:Nat) (args:Array Value) (ds gs:List (DataW H)) (before:List MemPlace),
   (∀(j:Nat) t v,fn.params[j]?=some t→args[j]?=some v→Value.okWide C.prog W .any base t v) →
   DataW.Whole enc C.prog fn.params.toList s.vars apart W args.toList ds gs before →
   conds.all (PathCond.test C.prog ⟨fn.params.toList,ds,s.plain.varTypes C.prog,gs⟩)=true →
   (DataW.weightsEach C.prog (fn.params.toList++s.plain.varTypes C.prog) (ds++gs)).all (·≤reachBytes)=true→X W args→W.ShapedOpen C.prog →
   Calls C.prog f args W fun e W'=>∃v,e=.returned v∧s.post enc C.prog fn apart fresh handsOn again W args v W') :
  ReturnsInHanded a C os f .any (fun w args=>(s.pre enc C.prog fn conds apart w args∧X w args)∧sizedMet enc C.prog fn (OpenSpec.ofChange s) apart w args) (s.post enc C.prog fn apart fresh handsOn again):=by
 refine returnsInHanded_of_calls own started noInit witness ?_
 intro w tape i _ hsh _ hok hpre _
 obtain ⟨_,_,_,fn',hfn',_,_,_,_,hval⟩:=hok
 obtain rfl:fn'=fn:=Option.some.inj (hfn'.symm.trans hfn)
 obtain ⟨⟨⟨ds,gs,before,hw,hc⟩,hx⟩,hz⟩:=hpre
 have hw':=DataW.Whole.of_heap (w':=w.forCall tape i) (by rfl) hw
 refine (contract (w.forCall tape i) w.heap.size i.args ds gs before hval hw' hc (hz.weights hw) (hX _ _ _ (by rfl) hx) hsh).mono fun e W' ⟨v,he,hp⟩=>?_
 subst he
 exact ChangeSpec.post_blind hp
end Go.Proofs.YtlcmnclbljedfaaGreatDoor
