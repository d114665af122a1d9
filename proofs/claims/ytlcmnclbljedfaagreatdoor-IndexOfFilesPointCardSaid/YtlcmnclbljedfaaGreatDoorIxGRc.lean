/- A part of the proof: lemmas and contracts of functions. -/
import Derived.Test.YtlcmnclbljedfaaGreatDoorIxGRb
import Derived.WalkKit
import Derived.Deep.RegionLaw
import Derived.Lib.SliceRun
import Derived.Laws.IdiomCopy
import Derived.Test.YtlcmnclbljedfaaGreatDoorIxGRa
import Derived.LoopN
import Derived.Sort.Grow
import Derived.StillTailTactics
import Derived.Shelf.SlLaysF0
import Derived.Test.YtlcmnclbljedfaaGreatDoorProg
import Derived.KernelRfl
import Derived.Shelf.GgSortFunc.RowK
import Derived.Shelf.SlSortCmp.InsertionK
import Derived.Sort.AssemblyPlain
import Derived.Shelf.SlSortCmp.NoneTotal
set_option linter.all false
namespace Go.Proofs.YtlcmnclbljedfaaGreatDoor
open Go Go.Ab Go.RowKit Go.Lib
variable [Amb] [HasInt 0] [HasPow10 Tryz.prog]
theorem setCells_setRow (w:World) (g o:Nat) (t:TypeId) (fz:Nat×Nat) (cur:Array Value) (vs:List Value) (hg:w.heap[g]?=some (.cells cur t fz)) (hz:rowFree fz cur.size) (hl:o+vs.length≤cur.size) (h1:∀v∈vs,v.oneCell'=true) :
  w.setCells g o vs=w.setRow g (cur.toList.take o++vs++cur.toList.drop (o+vs.length)).toArray:=by
 have hc:∀j,j<vs.length→w.cell? ⟨g,o+0+j,none⟩=some (cur.getD (o+0+j) undef):=by
  intro j hj
  have hlt:o+0+j<cur.size:=by omega
  simp [World.cell?,hg,show o+j<cur.size by omega]
 have hf:∀j,j<vs.length→w.frozen? ⟨g,o+0+j,none⟩=false:=by
  intro j hj
  rcases hz with rfl | hz
  ·simp [World.frozen?,hg]
  ·obtain ⟨lo,hi'⟩:=fz
   simp [World.frozen?,hg]
   intro h;dsimp only at hz;omega
 have e1:=run_storeCells_T default g o t fz vs 0 cur w hg hz (by omega) h1
 have e2:=run_storeCells_cells (P:=default) g o vs 0 w (fun j hj=>by rw [hc j hj];rfl) hf h1
 rw [e1] at e2
 simp only [Nat.add_zero] at e2
 injection e2 with _ e2
 exact e2.symm
theorem clear_one (w:World) (t e ty:TypeId) (z:Value) (ht:Tryz.prog.underlying t=some (.slice e)) (hv:∀w,(zeroValue e).run Tryz.prog w=.ok z w) (hz:z.cells=#[.string ⟨#[]⟩,.string ⟨#[]⟩]) (b o c:Nat)
  (hc:∀j,j<2→(w.cell? ⟨b,o+j,none⟩).isSome=true) (hf:∀j,j<2→w.frozen? ⟨b,o+j,none⟩=false) :
  (Builtin.clear_ #[t] ty #[.slice (some ⟨b,o,none⟩) 1 c]).run Tryz.prog w=.ok (.tuple #[]) (w.setCells b o [.string ⟨#[]⟩,.string ⟨#[]⟩]):=by
 have hzc:(Builtin.zeroCells z.cells 1).toList=[.string ⟨#[]⟩,.string ⟨#[]⟩]:=by
  rw [hz];simp [Builtin.zeroCells,List.range_succ]
 have hst:=run_storeCells_cells (P:=Tryz.prog) b o [.string ⟨#[]⟩,.string ⟨#[]⟩] 0 w (fun j hj=>by simpa using hc j (by simpa using hj)) (fun j hj=>by simpa using hf j (by simpa using hj)) (by intro v hv';simp at hv';subst hv';rfl)
 simp only [Nat.add_zero] at hst
 simp [Builtin.clear_,run_underlying ht,hv,hzc,hst]
set_option maxRecDepth 1000000 in
set_option maxHeartbeats 4000000 in
theorem delete_calls (w:World) (g n cap i:Nat) (cur:Array Value) (fz:Nat×Nat) (hh:w.heap[g]?=some (.cells cur 84 fz)) (hfz:rowFree fz cur.size) (hi:i<n) (hn:n≤cap) (hm:cap≤9223372036854775807) (hn':n≤1000000) (hcs:cur.size=cap*2)
  (h1:∀v∈cur.toList.take (n*2),v.oneCell'=true) :
  Calls Tryz.prog 151 #[.slice (some ⟨g,0,none⟩) n cap,.int .i64 i,.int .i64 ((i:Int)+1)] w fun e w'=>e=.returned (.slice (some ⟨g,0,none⟩) (n-1) cap) ∧
   w'=(w.drew.setCells g (i*2) ((cur.toList.drop ((i+1)*2)).take ((n-(i+1))*2))).setCells g ((n-1)*2) [.string ⟨#[]⟩,.string ⟨#[]⟩]:=by
 obtain ⟨news,hnews⟩:∃news,news=(cur.toList.drop ((i+1)*2)).take ((n-(i+1))*2):=⟨_,rfl⟩
 rw [←hnews]
 have hlen:news.length=(n-(i+1))*2:=by rw [hnews,List.length_take,List.length_drop,Array.length_toList,hcs];omega
 have hcell:∀j,j<cap*2→w.cell? ⟨g,j,none⟩=cur.toList[j]?:=by
  intro j hj
  rw [cell_of_row w g j cur _ fz hh];simp
 have hfro:∀j,j<cap*2→w.frozen? ⟨g,j,none⟩=false:=by
  intro j hj
  rcases hfz with rfl | hz
  ·simp [World.frozen?,hh]
  ·obtain ⟨lo,hi'⟩:=fz
   simp [World.frozen?,hh]
   intro h;dsimp only at hz;omega
 have hget:∀t u,news[t]?=some u→w.cell? ⟨g,(i+1)*2+t,none⟩=some u:=by
  intro t u hu
  have ht:=(List.getElem?_eq_some_iff.1 hu).1
  rw [hcell _ (by omega)]
  rw [hnews,List.getElem?_take] at hu
  split at hu
  ·rw [List.getElem?_drop] at hu;exact hu
  ·cases hu
 obtain ⟨A,hA,hsrc⟩:∃A:Go.Addr,(if cap=i+1 then some (⟨g,0,none⟩:Go.Addr) else some ⟨g,(i+1)*2,none⟩)=some A∧Hid (∀t u,news[t]?=some u→w.drew.cell? (A.add t)=some u):=by
  by_cases h:cap=i+1
  ·refine ⟨⟨g,0,none⟩,by simp [h],fun t u hu=>?_⟩
   have:=(List.getElem?_eq_some_iff.1 hu).1
   omega
  ·refine ⟨⟨g,(i+1)*2,none⟩,by simp [h],fun t u hu=>?_⟩
   rw [addr_add_lit]
   exact hget t u hu
 have s1:Hid (news.length=(n-(i+1))*2):=hlen
 have s2:Hid (∀u∈news,u.oneCell'=true):=by
  intro u hu
  rw [hnews] at hu
  rw [List.take_drop,show (i+1)*2+(n-(i+1))*2=n*2 by omega] at hu
  exact h1 u (List.mem_of_mem_drop hu)
 have s3:Hid (∀t,t<news.length→(w.drew.cell? ⟨g,0+i*2+t,none⟩).isSome=true∧w.drew.frozen? ⟨g,0+i*2+t,none⟩=false):=by
  intro t ht
  rw [hlen] at ht
  rw [Nat.zero_add]
  refine ⟨?_,hfro _ (by omega)⟩
  show (w.cell? _).isSome=true
  rw [hcell _ (by omega),List.getElem?_eq_getElem (by rw [Array.length_toList,hcs];omega)]
  rfl
 obtain ⟨W1,hW1⟩:∃W1,W1=w.drew.setCells g (0+i*2) news:=⟨_,rfl⟩
 have hW1':W1=w.drew.setRow g (cur.toList.take (i*2)++news++cur.toList.drop (i*2+news.length)).toArray:=by
  rw [hW1,Nat.zero_add]
  exact setCells_setRow w.drew g (i*2) _ fz cur news hh hfz (by rw [hlen,hcs];omega) s2.out
 have hrow:W1.heap[g]?=some (.cells (cur.toList.take (i*2)++news++cur.toList.drop (i*2+news.length)).toArray 84 fz):=by
  rw [hW1'];exact setRow_heap w.drew g cur _ _ fz hh
 have hrs:(cur.toList.take (i*2)++news++cur.toList.drop (i*2+news.length)).length=cap*2:=by
  simp only [List.length_append,List.length_take,List.length_drop,Array.length_toList,hcs,hlen]
  omega
 have em:i+(n-(i+1))=n-1:=by omega
 have hcl:∀ty,(Builtin.clear_ #[40] ty #[.slice (some ⟨g,(i+(n-(i+1)))*2,none⟩) (n-(i+(n-(i+1)))) (cap-(i+(n-(i+1))))]).run Tryz.prog W1=.ok (.tuple #[]) (W1.setCells g ((n-1)*2) [.string ⟨#[]⟩,.string ⟨#[]⟩]):=by
  intro ty
  rw [em,show n-(n-1)=1 by omega]
  exact clear_one W1 _ 84 ty _ Tryz.underlying40 (fun w=>Tryz.zeroValue84 w) rfl g ((n-1)*2) _ (fun j hj=>by
   rw [cell_of_row W1 g _ _ _ fz hrow]
   rw [List.getElem?_toArray,List.getElem?_eq_getElem (by rw [hrs];omega)];rfl) (fun j hj=>by
   rcases hfz with rfl | hz
   ·simp [World.frozen?,hrow]
   ·obtain ⟨lo,hi'⟩:=fz
    simp [World.frozen?,hrow]
    intro h;dsimp only at hz;omega)
 have hW:Hid (W1=w.drew.setCells g (0+i*2) news):=hW1
 have hic:i≤cap:=by omega
 have hjc:i+1≤cap:=by omega
 have hwr:IntKind.i64.wrap ((i:Int)+1)=(i:Int)+1:=by rw [IntKind.wrap_i64];omega
 have hp0:(0:Int)≤(i:Int)+1:=by omega
 have hp1:(i:Int)+1≤(n:Int):=by omega
 have hp2:((i:Int)+1).toNat=i+1:=by omega
 have hp3:(i:Int)+1≤(cap:Int):=by omega
 have hne:¬((i:Int)=(i:Int)+1):=by omega
 have hinfo:(Tryz.prog.info? 84).map (·.size)=some 2:=by kernel_rfl
 obtain ⟨i0,hi0,hsz0⟩:=Option.map_eq_some_iff.1 hinfo
 have hmix:Tryz.prog.follows .mixedOrders=true:=mixed
 have em2:Hid (i+(n-(i+1))=n-1):=em
 clear em hW1 hW1' hrow hrs hget hnews hlen hcell hfro hh hfz h1 hcs
 go_enter Tryz.func151,Tryz.ntmps151
 go_wp2_with fail
 go_region_law_o (refine step_append_room rfl (.tmp 22) (.tmp 25) 40 rfl 84 i0 2 Tryz.underlying40 hi0 hsz0 g 0 i cap (by simp [Act.eval,Act.put]) A (n-(i+1)) (cap-(i+1)) news (by simp [Act.eval,Act.put]) s1.out hsrc.out s2.out (by omega) s3.out ?_;rw [←hW.out])
 go_wp2
 go_ret
 refine ⟨by rw [em2.out];rfl,?_⟩
 rw [hW.out,Nat.zero_add]
theorem slices_DeleteHs (l:List Head) (i:Nat) (hi:i<l.length) (hcap:l.length≤1000000) :
  ACallsM Tryz.prog 151 [.own 84 2 (l.map Head.row),.x (.one (.int .i64 i)),.x (.one (.int .i64 ((i:Int)+1)))] (.own 84 2 ((l.take i++l.drop (i+1)).map Head.row)) [.dead,.dead,.dead]:=by
 refine ⟨(callable_of Tryz.f151 (by kernel_rfl) (by kernel_rfl) rfl),rfl,fun w E vs hE hM=>?_⟩
 have h0:=(hM.rep 0 _ rfl).2
 have h1:RepC w E.rd (.int .i64 i) (tmV vs 1):=(hM.rep 1 _ rfl).2
 have h2:RepC w E.rd (.int .i64 ((i:Int)+1)) (tmV vs 2):=(hM.rep 2 _ rfl).2
 have e1:tmV vs 1=.int .i64 i:=by generalize tmV vs 1=u at h1;cases h1;rfl
 have e2:tmV vs 2=.int .i64 ((i:Int)+1):=by generalize tmV vs 2=u at h2;cases h2;rfl
 have hvs:vs=#[tmV vs 0,tmV vs 1,tmV vs 2]:=by
  have hsz:=hM.size
  simp only [List.length_cons,List.length_nil] at hsz
  have:2<vs.size:=by
   rcases Nat.lt_or_ge 2 vs.size with h | h
   ·exact h
   ·exfalso
    have:tmV vs 2=undef:=by simp [tmV,Array.getD_eq_getD_getElem?,Array.getElem?_eq_none h]
    rw [this] at e2;cases e2
  apply Array.ext
  ·simp;omega
  ·intro j hj1 hj2
   have hj3:j<3:=by simpa using hj2
   match j,hj3 with
   | 0,_=>simp [tmV,Array.getD_eq_getD_getElem?,Array.getElem?_eq_getElem hj1]
   | 1,_=>simp [tmV,Array.getD_eq_getD_getElem?,Array.getElem?_eq_getElem hj1]
   | 2,_=>simp [tmV,Array.getD_eq_getD_getElem?,Array.getElem?_eq_getElem hj1]
 obtain ⟨us,ho,hl,hx,hm,hB⟩:=h0
 have hll:(l.map Head.row).length=l.length:=by simp
 rw [hll] at ho hm
 rcases ho.2 with ⟨_,h⟩ | ⟨g,cap,cur,hv,_,⟨fz,hh,hfz⟩,hnc,hcm,hcs,htake⟩
 ·omega
 have hlent:E.lent g:=hB g (by rw [hv];rfl)
 have hk:=delete_calls w g l.length cap i cur fz hh hfz hi hnc (by unfold maxLen at hcm;omega) hcap hcs (fun v hvm=>by rw [htake] at hvm;exact RepL.oneCells hl v hvm)
 have hvs2:vs=#[.slice (some ⟨g,0,none⟩) l.length cap,.int .i64 i,.int .i64 ((i:Int)+1)]:=by rw [hvs,hv,e1,e2]
 rw [hvs2]
 refine hk.mono ?_
 rintro e w' ⟨rfl,rfl⟩
 have hus:us.length=l.length*2:=ho.1
 obtain ⟨news,hnews⟩:∃news,news=(cur.toList.drop ((i+1)*2)).take ((l.length-(i+1))*2):=⟨_,rfl⟩
 rw [←hnews]
 have hcl:cur.toList.length=cap*2:=by simpa using hcs
 have hlen:news.length=(l.length-(i+1))*2:=by rw [hnews,List.length_take,List.length_drop,hcl];omega
 have hnu:news=us.drop ((i+1)*2):=by
  rw [hnews,List.take_drop,show (i+1)*2+(l.length-(i+1))*2=l.length*2 by omega,htake]
 have hn1:∀v∈news,v.oneCell'=true:=by
  intro v hvm
  rw [hnu] at hvm
  exact RepL.oneCells hl v (List.mem_of_mem_drop hvm)
 have hr1:=setCells_setRow w.drew g (i*2) _ fz cur news hh hfz (by rw [hlen,hcs];omega) hn1
 obtain ⟨r1,er1⟩:∃r1,r1=(cur.toList.take (i*2)++news++cur.toList.drop (i*2+news.length)).toArray:=⟨_,rfl⟩
 rw [←er1] at hr1
 have hr1s:r1.size=cur.size:=by
  rw [er1,List.size_toArray]
  simp only [List.length_append,List.length_take,List.length_drop,hcl,hcs,hlen]
  omega
 rw [hr1]
 have hrow1:=setRow_heap w.drew g cur r1 _ fz hh
 have hr2:=setCells_setRow (w.drew.setRow g r1) g ((l.length-1)*2) _ fz r1 [.string ⟨#[]⟩,.string ⟨#[]⟩] hrow1 (by rw [hr1s];exact hfz) (by rw [hr1s,hcs];simp;omega) (by intro v hvm;simp at hvm;subst hvm;rfl)
 rw [hr2]
 obtain ⟨r2,er2⟩:∃r2,r2=(r1.toList.take ((l.length-1)*2)++[Value.string ⟨#[]⟩,.string ⟨#[]⟩]++r1.toList.drop ((l.length-1)*2+2)).toArray:=⟨_,rfl⟩
 have er2':(r1.toList.take ((l.length-1)*2)++[Value.string ⟨#[]⟩,.string ⟨#[]⟩]++r1.toList.drop ((l.length-1)*2+[Value.string ⟨#[]⟩,.string ⟨#[]⟩].length)).toArray=r2:=by rw [er2];rfl
 rw [er2']
 have hr2s:r2.size=cur.size:=by
  have hr1l:r1.toList.length=cap*2:=by simpa [hcs] using hr1s
  rw [er2,List.size_toArray]
  simp only [List.length_append,List.length_take,List.length_drop,List.length_cons,List.length_nil,hr1l,hcs]
  omega
 have hrow2:=setRow_heap (w.drew.setRow g r1) g r1 r2 _ fz hrow1
 obtain ⟨W2,eW2⟩:∃W2,W2=(w.drew.setRow g r1).setRow g r2:=⟨_,rfl⟩
 rw [←eW2] at hrow2 ⊢
 have hother:∀k,k≠g→W2.heap[k]?=w.heap[k]?:=by
  intro k hk
  rw [eW2,setRow_other _ g k _ hk,setRow_other _ g k _ hk];rfl
 have hsize:W2.heap.size=w.heap.size:=by
  rw [eW2,(setRow_grown (w:=w.drew.setRow g r1) g r2).2,(setRow_grown (w:=w.drew) g r1).2];rfl
 have hpre:r2.toList.take ((l.length-1)*2)=us.take (i*2)++us.drop ((i+1)*2):=by
  have hct:cur.toList.take (i*2)=us.take (i*2):=by
   rw [←htake,List.take_take,Nat.min_eq_left (by omega)]
  have hul:(us.take (i*2)++us.drop ((i+1)*2)).length=(l.length-1)*2:=by simp [hus];omega
  have h1:r1.toList.take ((l.length-1)*2)=us.take (i*2)++us.drop ((i+1)*2):=by
   rw [er1,←hul,hct,hnu,List.toList_toArray,List.take_left]
  rw [er2,List.toList_toArray,List.append_assoc,List.take_left' (by rw [h1,hul]),h1]
 have hg1:∀b,E.rd b→b≠g:=fun b hb hbg=>by subst hbg;exact hE.apart b hb hlent
 have hno:∀b,¬Owned [.dead,.dead,.dead] #[.slice (some ⟨g,0,none⟩) l.length cap,.int .i64 i,.int .i64 ((i:Int)+1)] b:=by
  rintro b ⟨j,o,hj,hb⟩
  match j,hj with
  | 0,hj=>cases hj;cases hb
  | 1,hj=>cases hj;cases hb
  | 2,hj=>cases hj;cases hb
  | j+3,hj=>simp at hj
 refine ⟨_,rfl,?_,⟨us.take (i*2)++us.drop ((i+1)*2),⟨?_,.inr ⟨g,cap,r2,?_,Nat.zero_le _,⟨fz,hrow2,by rw [hr2s];exact hfz⟩,?_,hcm,by rw [hr2s,hcs],?_⟩⟩,?_,?_,?_,?_⟩,?_,?_⟩
 ·exact ⟨by rw [eW2];rfl,by rw [eW2];rfl,by rw [eW2];rfl,by rw [hsize];exact Nat.le_refl _,fun k _ hk=>hother k (fun e=>hk (by rw [e];exact hlent))⟩
 ·simp [hus];omega
 ·simp;omega
 ·simp;omega
 ·rw [←hpre];congr 1;simp;omega
 ·have hfl:((l.take i++l.drop (i+1)).map Head.row).flatten=(l.map Head.row).flatten.take (i*2)++(l.map Head.row).flatten.drop ((i+1)*2):=by
   rw [List.map_append,List.flatten_append,List.map_take,List.map_drop,flatten_take hx,flatten_drop hx]
  rw [hfl]
  have hl2:RepL W2 (fun b=>After w W2 E [.dead,.dead,.dead] #[.slice (some ⟨g,0,none⟩) l.length cap,.int .i64 i,.int .i64 ((i:Int)+1)] b∧Value.ownBlock (.slice (some ⟨g,0,none⟩) (l.length-1) cap)≠some b) (l.map Head.row).flatten us:=
   hl.mono (fun b hb=>⟨⟨.inl hb,hno b⟩,fun h=>hg1 b hb (by simpa [Value.ownBlock] using h.symm)⟩) (fun b hb=>hother b (hg1 b hb))
  have hfll:(l.map Head.row).flatten.length=us.length:=hl2.1.symm
  refine ⟨by simp [hfll],fun j c hj=>?_⟩
  rw [List.getElem?_append] at hj ⊢
  have hlt1:((l.map Head.row).flatten.take (i*2)).length=(us.take (i*2)).length:=by simp [hfll]
  rw [hlt1] at hj
  split at hj
  ·rename_i h
   rw [if_pos h]
   rw [List.getElem?_take] at hj ⊢
   split at hj
   ·rename_i h'
    rw [if_pos h']
    exact hl2.2 _ _ hj
   ·cases hj
  ·rename_i h
   rw [if_neg h]
   rw [List.getElem?_drop] at hj ⊢
   exact hl2.2 _ _ hj
 ·intro x hxm
  obtain ⟨h,_,rfl⟩:=List.mem_map.1 hxm
  rfl
 ·simp;unfold maxLen;omega
 ·intro b hb
  have hb:g=b:=by simpa [Value.ownBlock] using hb
  subst hb
  exact ⟨.inr (.inl hlent),hno g⟩
 ·intro b hb
  have hb:g=b:=by simpa [RV.blk,Value.ownBlock] using hb
  subst hb
  exact ⟨⟨.inr (.inl hlent),hno g⟩,fun h=>hE.apart g h hlent⟩
 ·intro j o hj
  match j,hj with
  | 0,hj=>cases hj;trivial
  | 1,hj=>cases hj;trivial
  | 2,hj=>cases hj;trivial
  | j+3,hj=>simp at hj
end Go.Proofs.YtlcmnclbljedfaaGreatDoor
namespace Go.Proofs.YtlcmnclbljedfaaGreatDoor
open Go Go.Ab
variable [Amb] [HasInt 0] [HasPow10 Tryz.prog]
set_option maxRecDepth 100000
set_option maxHeartbeats 4000000
def piecesS:List UInt8:=[112,105,101,99,101,115]
def numberS:List UInt8:=[110,117,109,98,101,114]
def pnum (x:Rec):Nat:=numN (((headIx x.heads numberS).bind fun j=>x.heads[j]?).getD ⟨[],[]⟩).value
def pieceB (r:Rec) (id:List UInt8) (x:Rec):Bool:=x.kind==5&&(x.of==id&&((headIx x.heads numberS).isSome&&(x.time==r.time&&x.key==r.key)))
def pcsOf (l:List Rec) (r:Rec) (id:List UInt8) (n:Nat):List Rec:=l.filter fun x=>pieceB r id x&&pnum x==n
def joinG (r:Rec) (hs:List Head) (pc:Nat→List Rec):Nat→Nat→List UInt8→Rec×Int
 | 0,_,b=>if recF { r with heads:=hs,block:=b }≠0 then (rec0,recF { r with heads:=hs,block:=b }) else ({ r with heads:=hs,block:=b },0)
 | k+1,n,b=>if (pc n).length≠1 then (rec0,9) else joinG r hs pc k (n+1) (b++((pc n).headD rec0).block)
def joinF (l:List Rec) (id:List UInt8):Rec×Int:=
 if (findIx l id).isSome=false∨(findD l id).kind=5 then (rec0,9)
 else match headIx (findD l id).heads piecesS with
  | none=>(findD l id,0)
  | some k =>
   if numN (((findD l id).heads[k]?).getD ⟨[],[]⟩).value<2 then (rec0,3)
   else joinG (findD l id) ((findD l id).heads.take k++(findD l id).heads.drop (k+1)) (pcsOf l (findD l id) id) (numN (((findD l id).heads[k]?).getD ⟨[],[]⟩).value-1) 2 (findD l id).block
structure PE where
 key:Nat
 v:Value
 recs:List Rec
def pesE (D:List PE):List (XV×XV):=D.map fun d=>(.one (.int .i64 d.key),.one (.atom d.v))
def pesF (D:List PE):List (XV×XV):=D.map fun d=>(.one (.int .i64 d.key),.one (.list 7 (d.recs.map Rec.row)))
def pesG (D:List PE):List (Value×List (List CV)):=D.map fun d=>(d.v,d.recs.map Rec.row)
theorem findK_pes (n:Nat) (D:List PE) (f:PE→XV):∀i,findK (.i .i64) (.one (.int .i64 n)) (D.map fun d=>(.one (.int .i64 d.key),f d)) i=some ((D.findIdx? fun d=>d.key==n).map (·+i)):=by
 induction D with
 | nil=>intro i;rfl
 | cons d r ih =>
  intro i
  simp only [List.map_cons,findK,keyEq,List.findIdx?_cons]
  by_cases h:d.key=n
  ·subst h;simp
  ·have h1:((n:Int)==(d.key:Int))=false:=by rw [beq_eq_false_iff_ne];omega
   have h2:(d.key==n)=false:=by rw [beq_eq_false_iff_ne];exact h
   rw [h1,h2,ih (i+1)]
   cases r.findIdx? fun d=>d.key==n with
   | none=>rfl
   | some j=>simp;omega
structure PEs (r:Rec) (id:List UInt8) (ls:List Rec) (D:List PE):Prop where
 nd:(D.map PE.key).Nodup
 recs:∀d∈D,d.recs=pcsOf ls r id d.key
 all:∀x∈ls,pieceB r id x=true→pnum x∈D.map PE.key
theorem PEs.nil (r:Rec) (id:List UInt8):PEs r id [] []:=⟨by simp,by simp,by simp⟩
theorem pcsOf_snoc (ls:List Rec) (r:Rec) (id:List UInt8) (x:Rec) (n:Nat):pcsOf (ls++[x]) r id n=pcsOf ls r id n++(if (pieceB r id x&&pnum x==n)=true then [x] else []):=by
 unfold pcsOf
 rw [List.filter_append]
 congr 1
 simp only [List.filter_cons,List.filter_nil]
theorem PEs.skip {r:Rec} {id:List UInt8} {ls:List Rec} {D:List PE} {x:Rec} (h:PEs r id ls D) (hx:pieceB r id x=false):PEs r id (ls++[x]) D:=by
 refine ⟨h.nd,fun d hd=>?_,fun y hy hp=>?_⟩
 ·rw [pcsOf_snoc,hx];simpa using h.recs d hd
 ·rcases List.mem_append.1 hy with h1 | h1
  ·exact h.all y h1 hp
  ·obtain rfl:y=x:=by simpa using h1
   rw [hx] at hp;cases hp
theorem PEs.add {r:Rec} {id:List UInt8} {ls:List Rec} {D:List PE} {x:Rec} (h:PEs r id ls D) (hx:pieceB r id x=true) (hn:pnum x∉D.map PE.key) (v:Value):PEs r id (ls++[x]) (D++[⟨pnum x,v,[x]⟩]):=by
 have hno:pcsOf ls r id (pnum x)=[]:=by
  unfold pcsOf
  rw [List.filter_eq_nil_iff]
  intro y hy hb
  simp only [Bool.and_eq_true,beq_iff_eq] at hb
  exact hn (by rw [←hb.2];exact h.all y hy hb.1)
 refine ⟨?_,fun d hd=>?_,fun y hy hp=>?_⟩
 ·rw [List.map_append,List.nodup_append]
  refine ⟨h.nd,by simp,fun a ha b hb=>?_⟩
  obtain rfl:b=pnum x:=by simpa using hb
  rintro rfl
  exact hn ha
 ·rw [pcsOf_snoc]
  rcases List.mem_append.1 hd with h1 | h1
  ·have hne:(pnum x==d.key)=false:=by rw [beq_eq_false_iff_ne];intro e;exact hn (by rw [e];exact List.mem_map.2 ⟨d,h1,rfl⟩)
   rw [hx,hne];simpa using h.recs d h1
  ·obtain rfl:d=⟨pnum x,v,[x]⟩:=by simpa using h1
   simp only [hno]
   rw [hx];simp
 ·rw [List.map_append,List.mem_append]
  rcases List.mem_append.1 hy with h1 | h1
  ·exact .inl (h.all y h1 hp)
  ·obtain rfl:y=x:=by simpa using h1
   exact .inr (by simp)
theorem PEs.grow {r:Rec} {id:List UInt8} {ls:List Rec} {D:List PE} {x:Rec} {j:Nat} (h:PEs r id ls D) (hx:pieceB r id x=true) (hj:j<D.length) (hk:D[j].key=pnum x) (v:Value):PEs r id (ls++[x]) (D.set j ⟨pnum x,v,D[j].recs++[x]⟩):=by
 have hkeys:(D.set j ⟨pnum x,v,D[j].recs++[x]⟩).map PE.key=D.map PE.key:=by
  rw [List.map_set]
  apply List.ext_getElem?
  intro i
  rw [List.getElem?_set]
  split
  ·rename_i e
   subst e
   simp [hj,hk]
  ·rfl
 refine ⟨by rw [hkeys];exact h.nd,fun d hd=>?_,fun y hy hp=>?_⟩
 ·obtain ⟨i,hi,rfl⟩:=List.getElem_of_mem hd
  rw [pcsOf_snoc]
  have hi':i<D.length:=by simpa using hi
  rw [List.getElem_set]
  by_cases e:j=i
  ·subst e
   rw [if_pos rfl]
   simp only
   rw [hx]
   have:=h.recs D[j] (List.getElem_mem hj)
   rw [hk] at this
   rw [this];simp
  ·rw [if_neg e]
   have hne:(pnum x==D[i].key)=false:=by
    rw [beq_eq_false_iff_ne]
    intro e2
    have h1:(D.map PE.key)[j]'(by simpa using hj)=(D.map PE.key)[i]'(by simpa using hi'):=by simp [hk,e2]
    have hp:=List.pairwise_iff_getElem.1 h.nd
    rcases Nat.lt_or_ge j i with h2 | h2
    ·exact hp j i (by simpa using hj) (by simpa using hi') h2 h1
    ·exact hp i j (by simpa using hi') (by simpa using hj) (by omega) h1.symm
   rw [hx,hne]
   simpa using h.recs D[i] (List.getElem_mem hi')
 ·rw [hkeys]
  rcases List.mem_append.1 hy with h1 | h1
  ·exact h.all y h1 hp
  ·obtain rfl:y=x:=by simpa using h1
   rw [←hk];exact List.mem_map.2 ⟨_,List.getElem_mem hj,rfl⟩
set_option maxHeartbeats 8000000
theorem ne_fam {j a:Nat} (h:a<2000000):(2000000+j=a)=False:=eq_false (by omega)
theorem ne_fam' {j a:Nat} (h:a<2000000):(a=2000000+j)=False:=eq_false (by omega)
@[simp] theorem sourceOf_atom (s:St) (v:Value):sourceOf s (.x (.one (.atom v)))=none:=rfl
@[simp] theorem takesK_no:takesK none=none:=rfl
theorem findD_mem {l:List Rec} {id:List UInt8} (h:(findIx l id).isSome=true):findD l id∈l:=by
 unfold findD findIx at *
 cases hf:l.findIdx? fun r=>r.id==id with
 | none=>rw [hf] at h;cases h
 | some i =>
  have hlt:=(List.findIdx?_eq_some_iff_getElem.1 hf).1
  simp [hlt]
theorem numK4_le {s:List UInt8}:numN s≤9999:=by
 unfold numN
 split
 ·rename_i h
  obtain ⟨_,h1,h2⟩:=numK_atoi h
  have:=decV_lt s h2
  have hp:(10:Nat) ^ s.length≤10 ^ 4:=Nat.pow_le_pow_right (by decide) h1
  omega
 ·omega
def joinSlots (l:List Rec) (id:List UInt8) (r:Rec) (hs:List Head) (M:Nat) (D:List PE) (x:Nat×List UInt8):List (Nat×AV):=
 [(0,.x (.one (.list 7 (l.map Rec.row)))),(1,.x (.one (.str id))),(4,.box [.int .i64 0,.str [],.str [],.int .i64 0,.str [],.nil,.nil]),(6,.box [.int .i64 r.kind,.str r.id,.str r.of,.int .i64 r.time,.str r.key,.any,.any]),
   (9,.x (.one (.int .i64 M))),(10,.mp D.length (List.range D.length) (pesF D)),(14,.x (.one (.int .i64 x.1))),(58,.own 84 2 (hs.map Head.row)),
   (999999,.res [(6,5),(6,6)]),(1006005,.link 6 5 58)]++(if x.1=2 then [(35,.own 5 1 (byteRows x.2)),(1006006,.link 6 6 35)] else [(136,.own 5 1 (byteRows x.2)),(1006006,.link 6 6 136)])
theorem record_joined (l:List Rec) (id:List UInt8) (hl:l.length≤1000) (hr:∀r∈l,recF r=0):ACalls Tryz.prog 86 [recsV l,.one (.str id)] (.tup [.agg (joinF l id).1.row,.one (.int .i64 (joinF l id).2)]):=by
 obtain ⟨R,eR⟩:∃R,R=joinF l id:=⟨_,rfl⟩
 rw [←eR]
 unfold joinF at eR
 have k1:=record_find l id (by omega)
 have hmem:=findD_mem (l:=l) (id:=id)
 generalize hr0:findD l id=r at *
 generalize (findIx l id).isSome=B at *
 unfold recsV at *
 have hz:rec0.row=[.int .i64 0,.str [],.str [],.int .i64 0,.str [],.list 2 [],.list 1 []]:=rfl
 have hrow:∀x:Rec,x.row=[.int .i64 x.kind,.str x.id,.str x.of,.int .i64 x.time,.str x.key,.list 2 (x.heads.map Head.row),fileB x.block]:=fun _=>rfl
 rw [hrow r] at k1
 refine @ACalls.ofL _ (convs [5,6,7,26] [18] [(4,[1,1,1,1,1,1,1,0,1,0]),(18,[7,1,1,1,1,1,1,1,1,1,1,1,1,1,1,1,1,1,1,9,0]),(25,[1,1,1,1,1,1,1,1,4,1,0])]) [(6,5),(6,6)] [] _ _ _ _ _ (by simp) mixed (fn:=Tryz.f86) (by kernel_rfl) (by kernel_rfl) rfl (by kernel_rfl) (by simp [Tryz.f86]) (fun hok=>?_)
 simp -implicitDefEqProofs [MARK]
 refine ACallK.of k1 ?_
 cases B
 ·rw [if_pos (.inl rfl)] at eR
  subst eR
  simp -implicitDefEqProofs [MARK,hz]
 have hrm:=recF_right (hr r (hmem rfl))
 by_cases hk5:r.kind=5
 ·rw [if_pos (.inr hk5)] at eR
  subst eR
  have hk5':(r.kind=5)=True:=eq_true hk5
  simp -implicitDefEqProofs [MARK,hz,hk5']
 rw [if_neg (by simp [hk5])] at eR
 have hk5':(r.kind=5)=False:=eq_false hk5
 have hh:=hrm.heads30
 have hb:=hrm.block
 have k2:=slices_CloneHs r.heads (by omega)
 have k3:=slices_CloneBs r.block (by omega)
 simp -implicitDefEqProofs [MARK,hk5']
 refine ACallK.of k2 ?_
 simp -implicitDefEqProofs [MARK]
 refine ACallK.of k3 ?_
 simp -implicitDefEqProofs [MARK]
 refine AConvS.named 6 5 32 1900000 rfl rfl rfl (by decide) rfl (fun v1=>?_)
 refine AConvS.named 6 6 35 1900001 rfl rfl rfl (by decide) rfl (fun v2=>?_)
 refine AConvS.done ?_
 have k4:=record_head r piecesS (by omega)
 have hsp:=ixI_spec (fun h:Head=>smallL h.name==piecesS) r.heads
 have hdI:headI r.heads piecesS=ixI (fun h:Head=>smallL h.name==piecesS) r.heads:=rfl
 have hdX:headIx r.heads piecesS=r.heads.findIdx? fun h=>smallL h.name==piecesS:=rfl
 rw [hdI] at k4
 rw [hdX] at eR
 unfold piecesS at k4 hsp eR
 rw [hrow r] at k4
 simp -implicitDefEqProofs [MARK]
 refine ACallK.named k4 ⟨⟨.inl rfl,.inl rfl,.inl rfl,.inl rfl,.inl rfl,.inr ⟨v1,1900000,_,_,_,rfl,by decide,rfl,rfl⟩,.inr ⟨v2,1900001,_,_,_,rfl,by decide,rfl,rfl⟩,trivial⟩,.inl rfl,trivial⟩ rfl ?_
 simp -implicitDefEqProofs [MARK]
 refine AConvS.linked 6 5 32 1900000 rfl rfl rfl rfl rfl ?_
 refine AConvS.linked 6 6 35 1900001 rfl rfl rfl rfl rfl ?_
 refine AConvS.done ?_
 rcases hsp with ⟨e1,e2⟩ | ⟨k,e1,e2,hk⟩
 ·rw [e1]
  rw [e2] at eR
  subst eR
  simp -implicitDefEqProofs [MARK]
  refine AConvS.fold 6 5 (AConvS.fold 6 6 (AConvS.done ?_))
  simp -implicitDefEqProofs [MARK,hrow]
 rw [e1]
 rw [e2] at eR
 have hk0:((k:Int)<0)=False:=eq_false (by omega)
 have hkl:((k:Int)<(r.heads.length:Int))=True:=eq_true (by omega)
 have k5:=record_number r.heads[k].value
 have hgk:r.heads[k]?=some r.heads[k]:=List.getElem?_eq_getElem hk
 have hrowH:∀h:Head,h.row=[.str h.name,.str h.value]:=fun _=>rfl
 dsimp only at eR
 rw [hgk,Option.getD_some] at eR
 have hmany:=numK4_le (s:=r.heads[k].value)
 simp -implicitDefEqProofs [MARK,hk0,hkl,hk,hgk,hrowH]
 refine ACallK.of k5 ?_
 generalize numN r.heads[k].value=M at *
 by_cases hM:M<2
 ·rw [if_pos hM] at eR
  subst eR
  have hM':((M:Int)<2)=True:=eq_true (by omega)
  simp -implicitDefEqProofs [MARK,hM',hz]
 rw [if_neg hM] at eR
 have hM':((M:Int)<2)=False:=eq_false (by omega)
 have hwk:IntKind.i64.wrap ((k:Int)+1)=(k:Int)+1:=wrapS _ (by omega)
 have k6:=slices_DeleteHs r.heads k hk (by omega)
 simp -implicitDefEqProofs [MARK,hM',hwk]
 refine ACallK.lend ?_
 simp -implicitDefEqProofs [MARK]
 refine ACallM.of k6 ?_
 simp -implicitDefEqProofs [MARK]
 obtain ⟨hs,ehs⟩:∃hs,hs=r.heads.take k++r.heads.drop (k+1):=⟨_,rfl⟩
 rw [←ehs] at eR
 have ehs':List.map Head.row (r.heads.take k)++List.map Head.row (r.heads.drop (k+1))=hs.map Head.row:=by rw [ehs,List.map_append]
 refine ALoopS.of (Nat×List PE) (fun x=>[(0,.x (.one (.list 7 (l.map Rec.row)))),(1,.x (.one (.str id))),(4,.box [.int .i64 0,.str [],.str [],.int .i64 0,.str [],.nil,.nil]),(6,.box [.int .i64 r.kind,.str r.id,.str r.of,.int .i64 r.time,.str r.key,.any,.any]),
   (9,.x (.one (.int .i64 M))),(10,.mp x.2.length (List.range x.2.length) (pesE x.2)),(35,.own 5 1 (byteRows r.block)),(58,.own 84 2 (hs.map Head.row)),(61,.x (.one (.list 7 (l.map Rec.row)))),(62,.x (.one (.int .i64 l.length))),(63,.x (.one (.int .i64 x.1))),
   (999999,.res [(6,5),(6,6)]),(1006005,.link 6 5 58),(1006006,.link 6 6 35)]++famL 2000000 55 7 (pesG x.2) 0)
  (fun x=>x.1≤l.length∧PEs r id (l.take x.1) x.2∧x.2.length≤x.1) (fun x=>l.length-x.1) (0,[]) ⟨Nat.zero_le _,PEs.nil r id,Nat.le_refl _⟩ ?_ ?_
 ·simp [pesE,pesG,famL,ehs]
 rintro ⟨i,D⟩ ⟨hi,hD,hDl⟩
 dsimp only at hi hD hDl ⊢
 by_cases hlt:i<l.length
 ·have hlt':((i:Int)<(l.length:Int))=True:=eq_true (by omega)
  have hwr:IntKind.i64.wrap ((i:Int)+1)=(i:Int)+1:=wrapS _ (by omega)
  have hxr:=recF_right (hr l[i] (List.getElem_mem hlt))
  have htake:l.take (i+1)=l.take i++[l[i]]:=List.take_succ_eq_append_getElem hlt
  have hgl:l[i]?=some l[i]:=List.getElem?_eq_getElem hlt
  have hrow':=hrow l[i]
  have k7:=record_head l[i] numberS (by have:=hxr.heads30;omega)
  rw [hrow'] at k7
  unfold numberS at k7
  simp -implicitDefEqProofs [MARK,hlt,hlt',hrow']
  refine ACallK.of k7 ?_
  have hsp:=ixI_spec (fun h:Head=>smallL h.name==[110,117,109,98,101,114]) l[i].heads
  have hdX7:headIx l[i].heads numberS=l[i].heads.findIdx? fun h=>smallL h.name==[110,117,109,98,101,114]:=rfl
  have hdI7:headI l[i].heads [110,117,109,98,101,114]=ixI (fun h=>smallL h.name==[110,117,109,98,101,114]) l[i].heads:=rfl
  rw [hdI7]
  by_cases c1:l[i].kind=5
  rotate_left
  ·have c1':(l[i].kind=5)=False:=eq_false c1
   have hp:pieceB r id l[i]=false:=by unfold pieceB;rw [beq_eq_false_iff_ne.2 c1,Bool.false_and]
   simp -implicitDefEqProofs [MARK,c1']
   refine Again.of (i+1,D) ⟨hlt,by rw [htake];exact hD.skip hp,Nat.le_succ_of_le hDl⟩ (by simp only;omega) ?_
   simp [hwr]
   exact keeps_famL fun j y hj=>by have h:=mk_famL_at (G:=2000000) (e:=55) (z:=7) (k:=0) hj;rw [Nat.zero_add] at h;simp [h,ne_fam]
  have c1':(l[i].kind=5)=True:=eq_true c1
  by_cases c2:l[i].of=id
  rotate_left
  ·have c2':(l[i].of=id)=False:=eq_false c2
   have hp:pieceB r id l[i]=false:=by unfold pieceB;rw [beq_eq_false_iff_ne.2 c2,Bool.false_and,Bool.and_false]
   simp -implicitDefEqProofs [MARK,c1',c2']
   refine Again.of (i+1,D) ⟨hlt,by rw [htake];exact hD.skip hp,Nat.le_succ_of_le hDl⟩ (by simp only;omega) ?_
   simp [hwr]
   exact keeps_famL fun j y hj=>by have h:=mk_famL_at (G:=2000000) (e:=55) (z:=7) (k:=0) hj;rw [Nat.zero_add] at h;simp [h,ne_fam]
  have c2':(l[i].of=id)=True:=eq_true c2
  rcases hsp with ⟨f1,f2⟩ | ⟨m,f1,f2,hm⟩
  ·rw [f1]
   have hp:pieceB r id l[i]=false:=by unfold pieceB;rw [hdX7,f2];simp
   simp -implicitDefEqProofs [MARK,c1',c2']
   refine Again.of (i+1,D) ⟨hlt,by rw [htake];exact hD.skip hp,Nat.le_succ_of_le hDl⟩ (by simp only;omega) ?_
   simp [hwr]
   exact keeps_famL fun j y hj=>by have h:=mk_famL_at (G:=2000000) (e:=55) (z:=7) (k:=0) hj;rw [Nat.zero_add] at h;simp [h,ne_fam]
  rw [f1]
  have hm0:(0≤(m:Int))=True:=eq_true (by omega)
  by_cases c3:l[i].time=r.time
  rotate_left
  ·have c3':(l[i].time=r.time)=False:=eq_false c3
   have hp:pieceB r id l[i]=false:=by unfold pieceB;rw [beq_eq_false_iff_ne.2 c3];simp
   simp -implicitDefEqProofs [MARK,c1',c2',hm0,c3']
   refine Again.of (i+1,D) ⟨hlt,by rw [htake];exact hD.skip hp,Nat.le_succ_of_le hDl⟩ (by simp only;omega) ?_
   simp [hwr]
   exact keeps_famL fun j y hj=>by have h:=mk_famL_at (G:=2000000) (e:=55) (z:=7) (k:=0) hj;rw [Nat.zero_add] at h;simp [h,ne_fam]
  have c3':(l[i].time=r.time)=True:=eq_true c3
  by_cases c4:l[i].key=r.key
  rotate_left
  ·have c4':(l[i].key=r.key)=False:=eq_false c4
   have hp:pieceB r id l[i]=false:=by unfold pieceB;rw [beq_eq_false_iff_ne.2 c4];simp
   simp -implicitDefEqProofs [MARK,c1',c2',hm0,c3',c4']
   refine Again.of (i+1,D) ⟨hlt,by rw [htake];exact hD.skip hp,Nat.le_succ_of_le hDl⟩ (by simp only;omega) ?_
   simp [hwr]
   exact keeps_famL fun j y hj=>by have h:=mk_famL_at (G:=2000000) (e:=55) (z:=7) (k:=0) hj;rw [Nat.zero_add] at h;simp [h,ne_fam]
  have c4':(l[i].key=r.key)=True:=eq_true c4
  have hp:pieceB r id l[i]=true:=by unfold pieceB;rw [hdX7,f2];simp [c1,c2,c3,c4]
  have hml:((m:Int)<(l[i].heads.length:Int))=True:=eq_true (by omega)
  have hgm:l[i].heads[m]?=some l[i].heads[m]:=List.getElem?_eq_getElem hm
  have hpn:pnum l[i]=numN l[i].heads[m].value:=by unfold pnum;rw [hdX7,f2];simp [hgm]
  have k8:=record_number l[i].heads[m].value
  rw [←hpn] at k8
  simp -implicitDefEqProofs [MARK,c1',c2',hm0,c3',c4',hml,hm,hgm,hrowH]
  refine ACallK.of k8 ?_
  simp -implicitDefEqProofs [MARK,hml,hm,hgm,hrowH]
  refine ACallK.of k8 ?_
  have hfk:=findK_pes (pnum l[i]) D (fun d=>.one (.atom d.v)) 0
  have hfk0:pesE D=D.map fun d=>(.one (.int .i64 d.key),.one (.atom d.v)):=rfl
  rw [←hfk0] at hfk
  cases hfi:D.findIdx? fun d=>d.key==pnum l[i] with
  | none =>
   rw [hfi] at hfk
   have hnin:pnum l[i]∉D.map PE.key:=by
    rw [List.findIdx?_eq_none_iff] at hfi
    intro h
    obtain ⟨d,hd,e⟩:=List.mem_map.1 h
    have:=hfi d hd
    rw [e] at this;simp at this
   have hgl2:(pesG D).length=D.length:=by simp [pesG]
   simp -implicitDefEqProofs [MARK,hfk,hrow']
   refine AName.of 115 (2000000+D.length) rfl (by have:Tryz.f86.ntmps=145:=rfl;omega) (by simp [ne_fam,mk_famL_ge,hgl2]) (fun v=>?_)
   simp -implicitDefEqProofs [MARK,hfk,ne_fam,ne_fam']
   refine Again.of (i+1,D++[⟨pnum l[i],v,[l[i]]⟩]) ⟨hlt,by rw [htake];exact hD.add hp hnin v,by simp;omega⟩ (by simp only;omega) ?_
   simp [hwr,ne_fam,ne_fam',pesE,List.range_succ]
   refine keeps_famL fun j y hj=>?_
   rw [Nat.zero_add]
   by_cases hjl:j<D.length
   ·have hj':(pesG D)[j]?=some y:=by
     unfold pesG at hj ⊢
     rw [List.map_append,List.getElem?_append_left (by simpa using hjl)] at hj
     exact hj
    have h:=mk_famL_at (G:=2000000) (e:=55) (z:=7) (k:=0) hj'
    rw [Nat.zero_add] at h
    have hne:(j=D.length)=False:=eq_false (by omega)
    simp [h,ne_fam,ne_fam',hne]
   ·have hj2:j=D.length:=by
     have:=(List.getElem?_eq_some_iff.1 hj).1
     simp [pesG] at this
     omega
    subst hj2
    have hy:y=(v,[l[i].row]):=by unfold pesG at hj;simp at hj;exact hj.symm
    subst hy
    simp [ne_fam,ne_fam',hrow']
  | some j =>
   rw [hfi] at hfk
   obtain ⟨hj,hkey,_⟩:=List.findIdx?_eq_some_iff_getElem.1 hfi
   have hkey':D[j].key=pnum l[i]:=by simpa using hkey
   have hfe:(pesE D)[j]?=some (.one (.int .i64 D[j].key),.one (.atom D[j].v)):=by unfold pesE;rw [List.getElem?_map,List.getElem?_eq_getElem hj];rfl
   have hge:(pesG D)[j]?=some (D[j].v,D[j].recs.map Rec.row):=by unfold pesG;rw [List.getElem?_map,List.getElem?_eq_getElem hj];rfl
   have hgow:=mk_famL_at (G:=2000000) (e:=55) (z:=7) (k:=0) hge
   rw [Nat.zero_add] at hgow
   dsimp only at hgow
   have hlen:D[j].recs.length≤1000:=by
    rw [hD.recs D[j] (List.getElem_mem hj)]
    unfold pcsOf
    have:=List.length_filter_le (fun x=>pieceB r id x&&pnum x==D[j].key) (l.take i)
    have h2:(l.take i).length≤l.length:=by rw [List.length_take];omega
    omega
   simp -implicitDefEqProofs [MARK,hfk,hfe,hrow']
   refine asrc_atom (2000000+j) 55 7 (D[j].recs.map Rec.row) (by have:Tryz.f86.ntmps=145:=rfl;omega) (by simp [hgow,ne_fam,ne_fam']) ?_
   simp -implicitDefEqProofs [MARK,hfk,hfe,hrow',hgow,ne_fam,ne_fam']
   refine ⟨⟨by omega,by unfold maxLen;omega⟩,?_⟩
   refine AName.of 115 (2000000+j) rfl (by have:Tryz.f86.ntmps=145:=rfl;omega) (by simp [ne_fam,ne_fam']) (fun v=>?_)
   simp -implicitDefEqProofs [MARK,hfk,hfe,ne_fam,ne_fam']
   refine Again.of (i+1,D.set j ⟨pnum l[i],v,D[j].recs++[l[i]]⟩) ⟨hlt,by rw [htake];exact hD.grow hp hj hkey' v,by simp;omega⟩ (by simp only;omega) ?_
   have hmp:pesE (D.set j ⟨pnum l[i],v,D[j].recs++[l[i]]⟩)=(pesE D).set j (.one (.int .i64 D[j].key),.one (.atom v)):=by unfold pesE;rw [List.map_set,hkey']
   simp [hwr,ne_fam,ne_fam',hmp]
   refine ⟨by rw [hkey'],?_⟩
   refine keeps_famL fun m y hm=>?_
   rw [Nat.zero_add]
   by_cases hmj:m=j
   ·subst hmj
    have hy:y=(v,(D[m].recs++[l[i]]).map Rec.row):=by
     unfold pesG at hm
     rw [List.getElem?_map,List.getElem?_set_self hj] at hm
     exact (Option.some.inj hm).symm
    subst hy
    simp [ne_fam,ne_fam',hrow']
   ·have hm':(pesG D)[m]?=some y:=by
     unfold pesG at hm ⊢
     rw [List.getElem?_map,List.getElem?_set_ne (fun h=>hmj h.symm),←List.getElem?_map] at hm
     exact hm
    have h:=mk_famL_at (G:=2000000) (e:=55) (z:=7) (k:=0) hm'
    rw [Nat.zero_add] at h
    have hne:(m=j)=False:=eq_false hmj
    simp [h,ne_fam,ne_fam',hne]
 ·have hlt':((i:Int)<(l.length:Int))=False:=eq_false (by omega)
  have hie:i=l.length:=by omega
  subst hie
  rw [List.take_length] at hD
  simp -implicitDefEqProofs [MARK,hlt']
  obtain ⟨PC,ePC⟩:∃PC,PC=pcsOf l r id:=⟨_,rfl⟩
  rw [←ePC] at eR
  refine ALoopS.ofG 10 (c:=D.length) (bs:=List.range D.length) (es:=pesE D) (pesF D) (Nat×List UInt8) (joinSlots l id r hs M D) (fun x=>(2≤x.1∧x.1≤M+1∧x.2.length≤200000*x.1)∧R=joinG r hs PC (M+1-x.1) x.1 x.2) (fun x=>M+1-x.1) (2,r.block) ⟨⟨by simp,by simp only;omega,by simp only;omega⟩,by rw [eR];rfl⟩ (by simp) ⟨by simp [pesE,pesF],?_⟩ ?_ ?_
  ·intro j x y hx hy
   have hj:j<D.length:=by
    have:=(List.getElem?_eq_some_iff.1 hx).1
    simpa [pesE] using this
   unfold pesE at hx
   unfold pesF at hy
   rw [List.getElem?_map,List.getElem?_eq_getElem hj] at hx hy
   have hx':=(Option.some.inj hx).symm
   have hy':=(Option.some.inj hy).symm
   subst hx' hy'
   have hge:(pesG D)[j]?=some (D[j].v,D[j].recs.map Rec.row):=by unfold pesG;rw [List.getElem?_map,List.getElem?_eq_getElem hj];rfl
   have hgow:=mk_famL_at (G:=2000000) (e:=55) (z:=7) (k:=0) hge
   rw [Nat.zero_add] at hgow
   dsimp only at hgow
   exact ⟨rfl,.inr ⟨D[j].v,2000000+j,55,7,_,rfl,by simp [hgow,ne_fam],rfl⟩⟩
  ·unfold joinSlots
   rw [if_pos rfl]
   simp
  rintro ⟨n,b⟩ ⟨⟨hn2,hnM,hbl⟩,hR⟩
  dsimp only at hn2 hnM hbl hR ⊢
  have hfk:=findK_pes n D (fun d=>.one (.list 7 (d.recs.map Rec.row))) 0
  have hfk0:pesF D=D.map fun d=>(.one (.int .i64 d.key),.one (.list 7 (d.recs.map Rec.row))):=rfl
  rw [←hfk0] at hfk
  have hwn:IntKind.i64.wrap ((n:Int)+1)=((n+1:Nat):Int):=by rw [wrapS _ (by omega)];omega
  by_cases hnM':n≤M
  ·have hle:((n:Int)≤(M:Int))=True:=eq_true (by omega)
   have hfu:M+1-n=(M-n)+1:=by omega
   rw [hfu] at hR
   unfold joinG at hR
   cases hfi:D.findIdx? fun d=>d.key==n with
   | none =>
    rw [hfi] at hfk
    have hp0:PC n=[]:=by
     rw [ePC]
     unfold pcsOf
     rw [List.filter_eq_nil_iff]
     intro x hx hx'
     simp only [Bool.and_eq_true,beq_iff_eq] at hx'
     have:=hD.all x hx hx'.1
     obtain ⟨d,hd,e⟩:=List.mem_map.1 this
     rw [List.findIdx?_eq_none_iff] at hfi
     have h2:=hfi d hd
     rw [e,hx'.2] at h2
     simp at h2
    rw [hp0,if_pos (by simp)] at hR
    subst hR
    unfold joinSlots
    by_cases h2:n=2
    ·rw [if_pos h2]
     simp -implicitDefEqProofs [MARK,hle,hfk,hz]
    ·rw [if_neg h2]
     simp -implicitDefEqProofs [MARK,hle,hfk,hz]
   | some j =>
    rw [hfi] at hfk
    obtain ⟨hj,hkey,_⟩:=List.findIdx?_eq_some_iff_getElem.1 hfi
    have hkey':D[j].key=n:=by simpa using hkey
    have hfe:(pesF D)[j]?=some (.one (.int .i64 D[j].key),.one (.list 7 (D[j].recs.map Rec.row))):=by unfold pesF;rw [List.getElem?_map,List.getElem?_eq_getElem hj];rfl
    have hrc:D[j].recs=PC n:=by rw [hD.recs D[j] (List.getElem_mem hj),hkey',ePC]
    have hlen:(PC n).length≤l.length:=by rw [ePC];exact List.length_filter_le _ _
    by_cases h1:(PC n).length=1
    ·rw [if_neg (by simp [h1])] at hR
     obtain ⟨x,hx⟩:=List.length_eq_one_iff.1 h1
     have hxl:x∈l:=by
      have:x∈PC n:=by rw [hx];simp
      rw [ePC] at this
      exact (List.mem_filter.1 this).1
     have hxb:=(recF_right (hr x hxl)).block
     rw [hx] at hrc hR
     rw [hrc] at hfe
     unfold joinSlots
     by_cases h2:n=2
     ·rw [if_pos h2]
      simp -implicitDefEqProofs [MARK,hle,hfk,hfe,hrow]
      refine ⟨by unfold maxLen;omega,?_⟩
      refine Again.of (n+1,b++x.block) ⟨⟨by simp only;omega,by simp only;omega,by simp only [List.length_append];omega⟩,by rw [hR];simp only [List.headD_cons];congr 1;omega⟩ (by simp only;omega) ?_
      have hn1:(n+1=2)=False:=eq_false (by omega)
      simp [joinSlots,hn1,hwn,byteRows_append]
     ·rw [if_neg h2]
      simp -implicitDefEqProofs [MARK,hle,hfk,hfe,hrow]
      refine ⟨by unfold maxLen;omega,?_⟩
      refine Again.of (n+1,b++x.block) ⟨⟨by simp only;omega,by simp only;omega,by simp only [List.length_append];omega⟩,by rw [hR];simp only [List.headD_cons];congr 1;omega⟩ (by simp only;omega) ?_
      have hn1:(n+1=2)=False:=eq_false (by omega)
      simp [joinSlots,hn1,hwn,byteRows_append]
    ·rw [if_pos h1] at hR
     subst hR
     rw [hrc] at hfe
     have h1':(((PC n).length:Int)=1)=False:=eq_false (by omega)
     unfold joinSlots
     by_cases h2:n=2
     ·rw [if_pos h2]
      simp -implicitDefEqProofs [MARK,hle,hfk,hfe,h1',hz]
     ·rw [if_neg h2]
      simp -implicitDefEqProofs [MARK,hle,hfk,hfe,h1',hz]
  ·have hle:((n:Int)≤(M:Int))=False:=eq_false (by omega)
   have hfu:M+1-n=0:=by omega
   rw [hfu] at hR
   unfold joinG at hR
   unfold joinSlots
   by_cases h2:n=2
   ·rw [if_pos h2]
    simp -implicitDefEqProofs [MARK,hle]
    refine AConvS.fold 6 5 (AConvS.fold 6 6 (AConvS.done ?_))
    have k9:=record_CheckRecord { r with heads:=hs,block:=b }
    rw [hrow] at k9
    simp -implicitDefEqProofs [MARK]
    refine ACallK.of k9 ?_
    generalize recF { r with heads:=hs,block:=b }=F at *
    by_cases hF:F=0
    ·rw [if_neg (by simp [hF])] at hR
     subst hR hF
     simp -implicitDefEqProofs [MARK,hz,hrow]
    ·rw [if_pos hF] at hR
     subst hR
     have hF':(F=0)=False:=eq_false hF
     simp -implicitDefEqProofs [MARK,hz,hF']
   ·rw [if_neg h2]
    simp -implicitDefEqProofs [MARK,hle]
    refine AConvS.fold 6 5 (AConvS.fold 6 6 (AConvS.done ?_))
    have k9:=record_CheckRecord { r with heads:=hs,block:=b }
    rw [hrow] at k9
    simp -implicitDefEqProofs [MARK]
    refine ACallK.of k9 ?_
    generalize recF { r with heads:=hs,block:=b }=F at *
    by_cases hF:F=0
    ·rw [if_neg (by simp [hF])] at hR
     subst hR hF
     simp -implicitDefEqProofs [MARK,hz,hrow]
    ·rw [if_pos hF] at hR
     subst hR
     have hF':(F=0)=False:=eq_false hF
     simp -implicitDefEqProofs [MARK,hz,hF']
theorem nodup_sub_len {α:Type} [DecidableEq α]:∀{l m:List α},l.Nodup→(∀x∈l,x∈m)→l.length≤m.length
 | [],_,_,_=>Nat.zero_le _
 | x::l,m,hn,hs=>by
  rw [List.nodup_cons] at hn
  have h1:=nodup_sub_len (l:=l) (m:=m.erase x) hn.2 (fun y hy=>by
   have hne:y≠x:=fun e=>hn.1 (e▸hy)
   exact (List.mem_erase_of_ne hne).2 (hs y (List.mem_cons_of_mem _ hy)))
  have hx:x∈m:=hs x (by simp)
  rw [List.length_erase_of_mem hx] at h1
  have:0<m.length:=List.length_pos_of_mem hx
  simp only [List.length_cons]
  omega
theorem walkF_ok:∀{l:List Rec} {seen:List (List UInt8)} {n:Nat},walkF seen n l=0→∀r∈l,recF r=0
 | [],_,_,_=>by simp
 | r::l,seen,n,h=>by
  unfold walkF at h
  split at h
  ·rename_i h1
   exact absurd h h1
  ·rename_i h1
   split at h
   ·cases h
   ·intro x hx
    rcases List.mem_cons.1 hx with rfl | hx
    ·exact Decidable.of_not_not h1
    ·exact walkF_ok h x hx
theorem fileF_ok {l:List Rec} (h:fileF l=0):l.length≤1000∧∀r∈l,recF r=0:=by
 unfold fileF at h
 split at h
 ·cases h
 ·exact ⟨by omega,walkF_ok h⟩
def showG (l:List Rec):Nat→List (List UInt8)→List UInt8→List UInt8×Int
 | 0,_,_=>([],0)
 | k+1,seen,w =>
  if (findIx l w).isSome=false then ([],9)
  else if w∈seen then ([],17)
  else if (findD l w).kind=4 then showG l k (seen++[w]) (findD l w).of
  else ((joinF l w).1.block,(joinF l w).2)
def showF (l:List Rec) (w:List UInt8):List UInt8×Int:=if fileF l≠0 then ([],fileF l) else showG l (l.length+1) [] w
theorem findIx_ids {l:List Rec} {w:List UInt8} (h:(findIx l w).isSome=true):w∈l.map Rec.id:=by
 unfold findIx at h
 cases hf:l.findIdx? fun r=>r.id==w with
 | none=>rw [hf] at h;cases h
 | some i =>
  obtain ⟨hi,he,_⟩:=List.findIdx?_eq_some_iff_getElem.1 hf
  exact List.mem_map.2 ⟨l[i],List.getElem_mem hi,by simpa using he⟩
def seenSlots (l:List Rec) (x:List (List UInt8)×List UInt8):List (Nat×AV):=
 [(0,.x (.one (.list 7 (l.map Rec.row)))),(1,.x (.one (.str x.2)))]++(if x.1=[] then [(7,.own 9 1 (x.1.map fun s=>[CV.str s]))] else [(7,.alias 34),(34,.own 9 1 (x.1.map fun s=>[CV.str s]))])
theorem record_Shown (l:List Rec) (w:List UInt8) (hl:l.length≤1000000000):ACalls Tryz.prog 43 [recsV l,.one (.str w)] (.tup [.one (fileB (showF l w).1),.one (.int .i64 (showF l w).2)]):=by
 obtain ⟨R,eR⟩:∃R,R=showF l w:=⟨_,rfl⟩
 rw [←eR]
 unfold showF at eR
 have k1:=record_CheckFile l
 have hz:rec0.row=[.int .i64 0,.str [],.str [],.int .i64 0,.str [],.list 2 [],.list 1 []]:=rfl
 have hrow:∀x:Rec,x.row=[.int .i64 x.kind,.str x.id,.str x.of,.int .i64 x.time,.str x.key,.list 2 (x.heads.map Head.row),fileB x.block]:=fun _=>rfl
 unfold recsV at *
 refine @ACalls.of _ (wilds [(11,[1,1,1,4,7,7,1,0])]) _ _ _ _ _ mixed (fn:=Tryz.f43) (by kernel_rfl) (by kernel_rfl) rfl (by kernel_rfl) (by simp [Tryz.f43]) (fun hok=>?_)
 simp -implicitDefEqProofs [MARK]
 refine ACallK.of k1 ?_
 by_cases h0:fileF l=0
 rotate_left
 ·rw [if_pos h0] at eR
  subst eR
  have h0':(fileF l=0)=False:=eq_false h0
  simp -implicitDefEqProofs [MARK,h0']
 rw [if_neg (by simp [h0])] at eR
 rw [h0]
 obtain ⟨hl',hok⟩:=fileF_ok h0
 simp -implicitDefEqProofs [MARK]
 refine ALoopS.of (List (List UInt8)×List UInt8) (seenSlots l)
  (fun x=>(x.1.Nodup∧∀s∈x.1,s∈l.map Rec.id)∧R=showG l (l.length+1-x.1.length) x.1 x.2) (fun x=>l.length+1-x.1.length) ([],w) ⟨⟨by simp,by simp⟩,eR⟩ ?_ ?_
 ·simp [seenSlots]
 rintro ⟨seen,w⟩ ⟨⟨hnd,hsub⟩,hR⟩
 dsimp only at hnd hsub hR ⊢
 have hlen:=nodup_sub_len hnd hsub
 rw [List.length_map] at hlen
 obtain ⟨n,hn⟩:∃n,n=l.length-seen.length:=⟨_,rfl⟩
 have hfu:l.length+1-seen.length=n+1:=by omega
 rw [hfu] at hR
 unfold showG at hR
 have k2:=record_find l w (by omega)
 rw [hrow (findD l w)] at k2
 have hmem:=findD_mem (l:=l) (id:=w)
 have hids:=findIx_ids (l:=l) (w:=w)
 unfold recsV at k2
 generalize findD l w=r at *
 generalize (findIx l w).isSome=B at *
 unfold seenSlots
 by_cases h0:seen=[]
 ·subst h0
  rw [if_pos rfl]
  simp -implicitDefEqProofs [MARK]
  refine ACallK.of k2 ?_
  cases B
  ·rw [if_pos rfl] at hR
   subst hR
   simp -implicitDefEqProofs [MARK]
  rw [if_neg (by decide)] at hR
  have k3:=slices_ContainsS [] w
  simp -implicitDefEqProofs [MARK]
  refine ACallK.of k3 ?_
  by_cases hm:w∈([]:List (List UInt8))
  ·rw [if_pos hm] at hR
   subst hR
   have hmd:decide (w∈([]:List (List UInt8)))=true:=decide_eq_true hm
   rw [hmd]
   simp -implicitDefEqProofs [MARK]
  rw [if_neg hm] at hR
  have hmd:decide (w∈([]:List (List UInt8)))=false:=decide_eq_false hm
  rw [hmd]
  by_cases h4:r.kind=4
  ·rw [if_pos h4] at hR
   have h4':(r.kind=4)=True:=eq_true h4
   simp -implicitDefEqProofs [MARK,h4']
   refine Again.of ([]++[w],r.of) ⟨⟨by rw [List.nodup_append];exact ⟨hnd,by simp,fun a ha b hb e=>by rw [List.mem_singleton] at hb;subst hb e;exact hm ha⟩,fun s hs=>(List.mem_append.1 hs).elim (hsub s) fun h=>by rw [List.mem_singleton] at h;subst h;exact hids rfl⟩,by rw [hR];simp only [List.length_append,List.length_singleton];congr 1⟩ (by simp only [List.length_append,List.length_singleton];omega) ?_
   simp [seenSlots]
  rw [if_neg h4] at hR
  have h4':(r.kind=4)=False:=eq_false h4
  have k4:=record_joined l w hl' hok
  rw [hrow (joinF l w).1] at k4
  generalize joinF l w=J at *
  subst hR
  unfold recsV at k4
  simp -implicitDefEqProofs [MARK,h4']
  refine ACallK.of k4 ?_
  simp -implicitDefEqProofs [MARK]
 ·rw [if_neg h0]
  simp -implicitDefEqProofs [MARK]
  refine ACallK.of k2 ?_
  cases B
  ·rw [if_pos rfl] at hR
   subst hR
   simp -implicitDefEqProofs [MARK]
  rw [if_neg (by decide)] at hR
  have k3:=slices_ContainsS seen w
  simp -implicitDefEqProofs [MARK]
  refine ACallK.of k3 ?_
  by_cases hm:w∈seen
  ·rw [if_pos hm] at hR
   subst hR
   have hmd:decide (w∈seen)=true:=decide_eq_true hm
   rw [hmd]
   simp -implicitDefEqProofs [MARK]
  rw [if_neg hm] at hR
  have hmd:decide (w∈seen)=false:=decide_eq_false hm
  rw [hmd]
  by_cases h4:r.kind=4
  ·rw [if_pos h4] at hR
   have h4':(r.kind=4)=True:=eq_true h4
   simp -implicitDefEqProofs [MARK,h4']
   refine ⟨⟨by omega,by unfold maxLen;omega⟩,?_⟩
   refine Again.of (seen++[w],r.of) ⟨⟨by rw [List.nodup_append];exact ⟨hnd,by simp,fun a ha b hb e=>by rw [List.mem_singleton] at hb;subst hb e;exact hm ha⟩,fun s hs=>(List.mem_append.1 hs).elim (hsub s) fun h=>by rw [List.mem_singleton] at h;subst h;exact hids rfl⟩,by rw [hR];simp only [List.length_append,List.length_singleton];congr 1;omega⟩ (by simp only [List.length_append,List.length_singleton];omega) ?_
   simp [seenSlots]
  rw [if_neg h4] at hR
  have h4':(r.kind=4)=False:=eq_false h4
  have k4:=record_joined l w hl' hok
  rw [hrow (joinF l w).1] at k4
  generalize joinF l w=J at *
  subst hR
  unfold recsV at k4
  simp -implicitDefEqProofs [MARK,h4']
  refine ACallK.of k4 ?_
  simp -implicitDefEqProofs [MARK]
set_option maxHeartbeats 4000000
def valsL (hs:List Head) (w:List UInt8):List (List UInt8):=(hs.filter fun h=>smallL h.name==w).map Head.value
theorem valsL_le (hs:List Head) (w:List UInt8):(valsL hs w).length≤hs.length:=by
 unfold valsL
 rw [List.length_map]
 exact List.length_filter_le _ _
theorem valsL_snoc (hs:List Head) (w:List UInt8) (h:Head):valsL (hs++[h]) w=valsL hs w++(if smallL h.name=w then [h.value] else []):=by
 unfold valsL
 rw [List.filter_append,List.map_append]
 congr 1
 by_cases hh:smallL h.name=w
 ·rw [if_pos hh];simp [hh]
 ·rw [if_neg hh];simp [hh]
theorem message_values (l:List Head) (w:List UInt8) (hl:l.length≤1000000000):ACalls Tryz.prog 193 [headsV l,.one (.str w)] (.x (strs (valsL l w))):=by
 refine ACalls.of mixed (fn:=Tryz.f193) (by kernel_rfl) (by kernel_rfl) rfl (by kernel_rfl) (by simp [Tryz.f193]) (fun hok=>?_)
 simp -implicitDefEqProofs
 refine ALoopS.of Nat (fun i=>[(1,.x (.one (.str w))),(5,.own 9 1 ((valsL (l.take i) w).map fun s=>[CV.str s])),(8,.x (.one (.list 2 (l.map Head.row)))),(9,.x (.one (.int .i64 l.length))),(10,.x (.one (.int .i64 i)))]) (fun i=>i≤l.length) (fun i=>l.length-i) 0 (Nat.zero_le _) ?_ ?_
 ·simp [valsL]
 rintro i hi
 by_cases hlt:i<l.length
 ·have hlt':((i:Int)<(l.length:Int))=True:=eq_true (by omega)
  have hwr:IntKind.i64.wrap ((i:Int)+1)=(i:Int)+1:=wrapS _ (by omega)
  have hrow:l[i].row=[.str l[i].name,.str l[i].value]:=rfl
  have htake:l.take (i+1)=l.take i++[l[i]]:=List.take_succ_eq_append_getElem hlt
  have hv:(valsL (l.take i) w).length≤i:=Nat.le_trans (valsL_le _ _) (by rw [List.length_take];omega)
  simp -implicitDefEqProofs [hlt,hlt',hrow]
  refine ACallK.of (address_Small l[i].name) ?_
  by_cases hh:smallL l[i].name=w
  ·have hh':(smallL l[i].name=w)=True:=eq_true hh
   simp -implicitDefEqProofs [hh']
   refine ⟨⟨by omega,by unfold maxLen;omega⟩,?_⟩
   refine Again.of (i+1) hlt (by omega) ?_
   have hA:valsL (l.take (i+1)) w=valsL (l.take i) w++[l[i].value]:=by rw [htake,valsL_snoc,if_pos hh]
   simp [hwr,hA]
  ·have hh':(smallL l[i].name=w)=False:=eq_false hh
   simp -implicitDefEqProofs [hh']
   refine Again.of (i+1) hlt (by omega) ?_
   have hA:valsL (l.take (i+1)) w=valsL (l.take i) w:=by rw [htake,valsL_snoc,if_neg hh,List.append_nil]
   simp [hwr,hA]
 ·have hlt':((i:Int)<(l.length:Int))=False:=eq_false (by omega)
  obtain rfl:i=l.length:=by omega
  simp -implicitDefEqProofs [hlt']
theorem message_first (l:List Head) (w:List UInt8) (hl:l.length≤1000000000):ACalls Tryz.prog 152 [headsV l,.one (.str w)] (.tup [.one (.str ((valsL l w).headD [])),.one (.bool ((valsL l w).length != 0))]):=by
 have k:=message_values l w hl
 refine ACalls.of mixed (fn:=Tryz.f152) (by kernel_rfl) (by kernel_rfl) rfl (by kernel_rfl) (by simp [Tryz.f152]) (fun hok=>?_)
 simp -implicitDefEqProofs
 refine ACallK.of k ?_
 cases valsL l w with
 | nil=>simp -implicitDefEqProofs
 | cons a r =>
  have h0:((r.length:Int)+1=0)=False:=eq_false (by omega)
  simp -implicitDefEqProofs [h0]
def hexV (c:UInt8):Nat:=if 48≤c.toNat∧c.toNat≤57 then c.toNat-48 else if 97≤c.toNat∧c.toNat≤102 then c.toNat-87 else if 65≤c.toNat∧c.toNat≤70 then c.toNat-55 else 16
theorem hexV_le (c:UInt8):hexV c≤16:=by unfold hexV;split<;>(try split)<;>(try split)<;>omega
theorem message_hexValue (c:UInt8):ACalls Tryz.prog 258 [byteX c] (.x (.one (.int .i64 (hexV c)))):=by
 have hc:=c.toNat_lt
 obtain ⟨n,hn⟩:∃n,n=c.toNat:=⟨_,rfl⟩
 unfold hexV
 unfold byteX
 rw [←hn] at hc ⊢
 refine ACalls.of mixed (fn:=Tryz.f258) (by kernel_rfl) (by kernel_rfl) rfl (by kernel_rfl) (by simp [Tryz.f258]) (fun hok=>?_)
 by_cases h1:48≤n∧n≤57
 ·have a1:(48≤(n:Int))=True:=eq_true (by omega)
  have a2:((n:Int)≤57)=True:=eq_true (by omega)
  have a3:IntKind.u8.wrap ((n:Int)-48)=((n-48:Nat):Int):=by simp [IntKind.wrap,IntKind.signed,IntKind.bits];omega
  have a4:IntKind.i64.wrap ((n-48:Nat):Int)=((n-48:Nat):Int):=wrapS _ (by omega)
  rw [if_pos h1]
  simp -implicitDefEqProofs [a1,a2,a3,a4]
 rw [if_neg h1]
 have b1:(if 48≤(n:Int) then decide ((n:Int)≤57) else false)=false:=by
  split
  ·rw [decide_eq_false];omega
  ·rfl
 have b2:(decide (48≤(n:Int))&&decide ((n:Int)≤57))=false:=by
  rw [Bool.and_eq_false_iff,decide_eq_false_iff_not,decide_eq_false_iff_not];omega
 have hor1:¬48≤n∨¬n≤57:=by omega
 by_cases h2:97≤n∧n≤102
 ·rw [if_pos h2]
  have a1:(48≤(n:Int))=True:=eq_true (by omega)
  have a2:((n:Int)≤57)=False:=eq_false (by omega)
  have a5:(97≤(n:Int))=True:=eq_true (by omega)
  have a6:((n:Int)≤102)=True:=eq_true (by omega)
  have a3:IntKind.u8.wrap ((n:Int)-97)=((n-97:Nat):Int):=by simp [IntKind.wrap,IntKind.signed,IntKind.bits];omega
  have a4:IntKind.i64.wrap ((n-97:Nat):Int)=((n-97:Nat):Int):=wrapS _ (by omega)
  have a7:IntKind.i64.wrap (((n-97:Nat):Int)+10)=((n-87:Nat):Int):=by rw [wrapS _ (by omega)];omega
  simp -implicitDefEqProofs [a1,a2,a3,a4,a5,a6,a7]
 rw [if_neg h2]
 by_cases h3:65≤n∧n≤70
 ·rw [if_pos h3]
  have a1:(48≤(n:Int))=True:=eq_true (by omega)
  have a2:((n:Int)≤57)=False:=eq_false (by omega)
  have a5:(97≤(n:Int))=False:=eq_false (by omega)
  have a6:(65≤(n:Int))=True:=eq_true (by omega)
  have a8:((n:Int)≤70)=True:=eq_true (by omega)
  have a3:IntKind.u8.wrap ((n:Int)-65)=((n-65:Nat):Int):=by simp [IntKind.wrap,IntKind.signed,IntKind.bits];omega
  have a4:IntKind.i64.wrap ((n-65:Nat):Int)=((n-65:Nat):Int):=wrapS _ (by omega)
  have a7:IntKind.i64.wrap (((n-65:Nat):Int)+10)=((n-55:Nat):Int):=by rw [wrapS _ (by omega)];omega
  simp -implicitDefEqProofs [a1,a2,a3,a4,a5,a6,a7,a8]
 rw [if_neg h3]
 by_cases c1:48≤n<;>by_cases c2:n≤57<;>by_cases c3:97≤n<;>by_cases c4:n≤102<;>by_cases c5:65≤n<;>by_cases c6:n≤70<;>first
   | (exfalso;omega)
   | (have d1:(48≤(n:Int))=(48≤n):=by apply propext;omega
      have d2:((n:Int)≤57)=(n≤57):=by apply propext;omega
      have d3:(97≤(n:Int))=(97≤n):=by apply propext;omega
      have d4:((n:Int)≤102)=(n≤102):=by apply propext;omega
      have d5:(65≤(n:Int))=(65≤n):=by apply propext;omega
      have d6:((n:Int)≤70)=(n≤70):=by apply propext;omega
      simp -implicitDefEqProofs [d1,d2,d3,d4,d5,d6,c1,c2,c3,c4,c5,c6])
def begF:List UInt8→List UInt8→Nat
 | _,[]=>0
 | [],_::_=>1
 | c::b,d::w=>if c=d then begF b w else 2
theorem message_isBegun (b:List UInt8) (w:List UInt8) (hb:b.length≤1000000000) (hw:w.length≤1000):ACalls Tryz.prog 259 [.one (fileB b),.one (.str w)] (.x (.one (.int .i64 (begF b w)))):=by
 have hRl:=rows_len b
 obtain ⟨F,eF⟩:∃F,F=begF b w:=⟨_,rfl⟩
 rw [←eF]
 refine ACalls.of mixed (fn:=Tryz.f259) (by kernel_rfl) (by kernel_rfl) rfl (by kernel_rfl) (by simp [Tryz.f259]) (fun hok=>?_)
 simp -implicitDefEqProofs
 refine ALoopS.of Nat (fun i=>[(0,.x (.one (fileB b))),(1,.x (.one (.str w))),(6,.x (.one (.str w))),(7,.x (.one (.int .i64 w.length))),(8,.x (.one (.int .i64 i)))])
  (fun i=>i≤w.length∧i≤b.length∧F=begF (b.drop i) (w.drop i)) (fun i=>w.length-i) 0 ⟨Nat.zero_le _,Nat.zero_le _,eF⟩ ?_ ?_
 ·simp
 rintro i ⟨hi,hib,hF⟩
 by_cases hlt:i<w.length
 ·have hlt':((i:Int)<(w.length:Int))=True:=eq_true (by omega)
  have hwr:IntKind.i64.wrap ((i:Int)+1)=(i:Int)+1:=wrapS _ (by omega)
  rw [List.drop_eq_getElem_cons hlt] at hF
  by_cases hbl:i<b.length
  ·have hbl':((b.length:Int)≤(i:Int))=False:=eq_false (by omega)
   rw [List.drop_eq_getElem_cons hbl] at hF
   unfold begF at hF
   have hat:∀h,(byteRows b)[i]'h=[.int .u8 b[i].toNat]:=fun h=>by simp [byteRows,byteRow]
   have hgw:w[i]?=some w[i]:=List.getElem?_eq_getElem hlt
   by_cases hc:b[i]=w[i]
   ·rw [if_pos hc] at hF
    have hcn2:((b[i].toNat:Int)=(w[i].toNat:Int))=True:=eq_true (by rw [hc])
    simp -implicitDefEqProofs [hRl,hlt,hlt',hbl,hbl',hat,hgw,hcn2]
    refine Again.of (i+1) ⟨hlt,hbl,hF⟩ (by omega) ?_
    simp [hwr]
   ·rw [if_neg hc] at hF
    subst hF
    have hcn2:((b[i].toNat:Int)=(w[i].toNat:Int))=False:=eq_false fun h=>hc (UInt8.toNat_inj.1 (by omega))
    simp -implicitDefEqProofs [hRl,hlt,hlt',hbl,hbl',hat,hgw,hcn2]
  ·have hbl':((b.length:Int)≤(i:Int))=True:=eq_true (by omega)
   have:b.drop i=[]:=List.drop_eq_nil_of_le (by omega)
   rw [this] at hF
   unfold begF at hF
   subst hF
   simp -implicitDefEqProofs [hRl,hlt,hlt',hbl']
 ·have hlt':((i:Int)<(w.length:Int))=False:=eq_false (by omega)
  have:w.drop i=[]:=List.drop_eq_nil_of_le (by omega)
  rw [this] at hF
  have hF0:begF (b.drop i) []=0:=by cases b.drop i<;>rfl
  rw [hF0] at hF
  subst hF
  simp -implicitDefEqProofs [hlt']
def codingS:List UInt8:=[99,111,100,105,110,103]
def chunkedS:List UInt8:=[99,104,117,110,107,101,100]
def lenV (v:List UInt8):Nat:=if 9<v.length then 200001 else min (decV v) 200001
def lenF (hs:List Head):Nat×Bool:=match valsL hs lengthS with
 | [v]=>if numK 1000 v=true then (lenV v,true) else (0,false)
 | _=>(0,false)
theorem message_length (l:List Head) (hl:l.length≤1000000000):ACalls Tryz.prog 112 [headsV l] (.tup [.one (.int .i64 (lenF l).1),.one (.bool (lenF l).2)]):=by
 have k:=message_values l lengthS hl
 unfold lenF
 generalize valsL l lengthS=V at *
 unfold lengthS at k
 refine ACalls.of mixed (fn:=Tryz.f112) (by kernel_rfl) (by kernel_rfl) rfl (by kernel_rfl) (by simp [Tryz.f112]) (fun hok=>?_)
 simp -implicitDefEqProofs
 refine ACallK.of k ?_
 match V with
 | [] =>
  simp -implicitDefEqProofs
  refine ACallGS.of (fun h=>by cases h) (r:=.x (.one (.bool false))) rfl ?_
  simp -implicitDefEqProofs
 | [v] =>
  have k2:=message_DigitsK 1000 (by omega) v
  dsimp only
  simp -implicitDefEqProofs
  refine ACallGS.of (fun _=>k2) rfl ?_
  cases h:numK 1000 v
  ·simp -implicitDefEqProofs
  ·obtain ⟨h1,h2,h3⟩:=numK_atoi h
   unfold lenV
   by_cases h9:9<v.length
   ·have h9':(9<(v.length:Int))=True:=eq_true (by omega)
    rw [if_pos rfl,if_pos h9]
    simp -implicitDefEqProofs [h9']
   ·have h9':(9<(v.length:Int))=False:=eq_false (by omega)
    rw [if_pos rfl,if_neg h9]
    have k3:=strconv_Atoi1 v _ (by omega) h1
    simp -implicitDefEqProofs [h9']
    refine ACallK.of k3 ?_
    simp -implicitDefEqProofs
    omega
 | a::b::r =>
  dsimp only
  have h1:((r.length:Int)+1+1=1)=False:=eq_false (by omega)
  simp -implicitDefEqProofs [h1]
  refine ACallGS.of (fun h=>by cases h) (r:=.x (.one (.bool false))) rfl ?_
  simp -implicitDefEqProofs
structure Ans where
 st:Int
 re:List UInt8
 hs:List Head
 ct:List UInt8
def Ans.row (a:Ans):List CV:=[.int .i64 a.st,.str a.re,.list 2 (a.hs.map Head.row),fileB a.ct]
def ans0:Ans:=⟨0,[],[],[]⟩
def topF (a:Ans):Int:=if a.st<100∨599<a.st then 1 else if valB a.re=false then 3 else headsF a.hs
theorem message_checkTop (a:Ans):ACalls Tryz.prog 113 [.agg a.row] (.x (.one (.int .i64 (topF a)))):=by
 have hrow:a.row=[.int .i64 a.st,.str a.re,.list 2 (a.hs.map Head.row),fileB a.ct]:=rfl
 rw [hrow]
 unfold topF
 refine ACalls.of mixed (fn:=Tryz.f113) (by kernel_rfl) (by kernel_rfl) rfl (by kernel_rfl) (by simp [Tryz.f113]) (fun hok=>?_)
 have k1:=message_isValue a.re
 have k2:=message_CheckHeads a.hs
 by_cases c1:a.st<100
 ·have c1':(a.st<100)=True:=eq_true c1
  rw [if_pos (.inl c1)]
  simp -implicitDefEqProofs [c1']
 have c1':(a.st<100)=False:=eq_false c1
 by_cases c2:599<a.st
 ·have c2':(599<a.st)=True:=eq_true c2
  rw [if_pos (.inr c2)]
  simp -implicitDefEqProofs [c1',c2']
 have c2':(599<a.st)=False:=eq_false c2
 rw [if_neg (by omega)]
 simp -implicitDefEqProofs [c1',c2']
 refine ACallK.of k1 ?_
 cases valB a.re
 ·simp -implicitDefEqProofs
 ·simp -implicitDefEqProofs
  refine ACallK.of k2 ?_
  simp -implicitDefEqProofs
def frameF (a:Ans):Int:=
 if a.st<200∨a.st=204∨a.st=304 then 1
 else if valsL a.hs codingS=[chunkedS] then 3
 else if 0<(valsL a.hs codingS).length then 0
 else if (valsL a.hs lengthS).length=0 then 4
 else if (lenF a.hs).2=true then 2 else 0
theorem message_frameOf (a:Ans) (hl:a.hs.length≤1000000000):ACalls Tryz.prog 114 [.agg a.row] (.x (.one (.int .i64 (frameF a)))):=by
 have hrow:a.row=[.int .i64 a.st,.str a.re,.list 2 (a.hs.map Head.row),fileB a.ct]:=rfl
 obtain ⟨F,eF⟩:∃F,F=frameF a:=⟨_,rfl⟩
 rw [hrow,←eF]
 clear hrow
 obtain ⟨st,re,hs,ct⟩:=a
 dsimp only at hl ⊢
 have k1:=message_values hs codingS hl
 have k2:=message_values hs lengthS hl
 have k3:=message_length hs hl
 unfold frameF at eF
 dsimp only at eF
 generalize valsL hs codingS=C at *
 generalize valsL hs lengthS=L at *
 generalize lenF hs=N at *
 obtain ⟨N1,N2⟩:=N
 unfold codingS at k1
 unfold lengthS at k2
 dsimp only at k3 eF
 refine ACalls.of mixed (fn:=Tryz.f114) (by kernel_rfl) (by kernel_rfl) rfl (by kernel_rfl) (by simp [Tryz.f114]) (fun hok=>?_)
 simp -implicitDefEqProofs
 refine ACallK.of k1 ?_
 simp -implicitDefEqProofs
 refine ACallK.of k2 ?_
 by_cases c1:st<200
 ·have c1':(st<200)=True:=eq_true c1
  rw [if_pos (.inl c1)] at eF
  subst eF
  simp -implicitDefEqProofs [c1']
 have c1':(st<200)=False:=eq_false c1
 by_cases c2:st=204
 ·rw [if_pos (.inr (.inl c2))] at eF
  subst eF c2
  simp -implicitDefEqProofs
 have c2':(st=204)=False:=eq_false c2
 by_cases c3:st=304
 ·rw [if_pos (.inr (.inr c3))] at eF
  subst eF c3
  simp -implicitDefEqProofs
 have c3':(st=304)=False:=eq_false c3
 rw [if_neg (by omega)] at eF
 match C with
 | [] =>
  rw [if_neg (by simp),if_neg (by simp)] at eF
  cases L with
  | nil =>
   rw [if_pos (by simp)] at eF
   subst eF
   simp -implicitDefEqProofs [c1',c2',c3']
  | cons p q =>
   rw [if_neg (by simp)] at eF
   have h':((q.length:Int)+1=0)=False:=eq_false (by omega)
   simp -implicitDefEqProofs [c1',c2',c3',h']
   refine ACallK.of k3 ?_
   cases N2
   ·rw [if_neg (by decide)] at eF
    subst eF
    simp -implicitDefEqProofs
   ·rw [if_pos rfl] at eF
    subst eF
    simp -implicitDefEqProofs
 | [p] =>
  by_cases h:p=chunkedS
  ·rw [if_pos (by rw [h])] at eF
   subst eF
   have h':(p=[99,104,117,110,107,101,100])=True:=eq_true h
   simp -implicitDefEqProofs [c1',c2',c3',h']
  ·rw [if_neg (by simpa using h),if_pos (by simp)] at eF
   subst eF
   have h':(p=[99,104,117,110,107,101,100])=False:=eq_false h
   simp -implicitDefEqProofs [c1',c2',c3',h']
 | p::q::r =>
  rw [if_neg (by simp),if_pos (by simp)] at eF
  subst eF
  have h1:((r.length:Int)+1+1=1)=False:=eq_false (by omega)
  have h2:(0<(r.length:Int)+1+1)=True:=eq_true (by omega)
  simp -implicitDefEqProofs [c1',c2',c3',h1,h2]
def rhG (b:List UInt8):Nat→List Head→Nat→List Head×Nat×Bool
 | 0,_,_=>([],b.length,false)
 | k+1,acc,a =>
  if a<b.length then
   if crlB b a=false then ([],a,false)
   else if crlS b a=[] then (acc,crlN b a,true)
   else if (headO (crlS b a)).isSome=false then ([],a,false)
   else rhG b k (acc++[headD (crlS b a)]) (crlN b a)
  else ([],b.length,false)
def rhF (b:List UInt8) (a:Nat):List Head×Nat×Bool:=rhG b (b.length-a+1) [] a
theorem rhG_irrel {b:List UInt8}:∀(n m:Nat) (acc:List Head) (a:Nat),a≤b.length→b.length-a<n→b.length-a<m→rhG b n acc a=rhG b m acc a
 | 0,_,_,_,_,h,_=>by omega
 | _,0,_,_,_,_,h=>by omega
 | n+1,m+1,acc,a,h,h1,h2=>by
  unfold rhG
  by_cases hlt:a<b.length
  ·rw [if_pos hlt,if_pos hlt]
   cases hc:crlB b a
   ·rfl
   ·have hg:=crlN_gt hc
    rw [rhG_irrel n m _ _ (crlN_le h) (by omega) (by omega)]
  ·rw [if_neg hlt,if_neg hlt]
theorem message_readHeads (b:List UInt8) (a:Nat) (hb:b.length≤16777216) (ha:a≤b.length):ACalls Tryz.prog 199 [.one (fileB b),.one (.int .i64 a)] (.tup [headsV (rhF b a).1,.one (.int .i64 (rhF b a).2.1),.one (.bool (rhF b a).2.2)]):=by
 obtain ⟨R,eR⟩:∃R,R=rhF b a:=⟨_,rfl⟩
 rw [←eR]
 unfold rhF at eR
 have hRl:=rows_len b
 refine ACalls.of mixed (fn:=Tryz.f199) (by kernel_rfl) (by kernel_rfl) rfl (by kernel_rfl) (by simp [Tryz.f199]) (fun hok=>?_)
 simp -implicitDefEqProofs
 refine ALoopS.of (List Head×Nat) (fun x=>[(0,.x (.one (fileB b))),(1,.x (.one (.int .i64 x.2))),(7,.own 84 2 (x.1.map Head.row))])
  (fun x=>(x.2≤b.length∧x.1.length≤x.2)∧R=rhG b (b.length-x.2+1) x.1 x.2) (fun x=>b.length-x.2) ([],a) ⟨⟨ha,Nat.zero_le _⟩,eR⟩ ?_ ?_
 ·simp
 rintro ⟨acc,a⟩ ⟨⟨ha,hal⟩,hR⟩
 dsimp only at ha hal hR ⊢
 unfold rhG at hR
 by_cases hlt:a<b.length
 ·rw [if_pos hlt] at hR
  have hlt':((a:Int)<(b.length:Int))=True:=eq_true (by omega)
  have k1:=message_Line b a hb ha
  have hg:=crlN_gt (b:=b) (a:=a)
  have hle:=crlN_le ha
  have hsl:=crlS_len b a
  have k2:=message_HeadOf (crlS b a) (by omega)
  have hst:crlB b a=true→rhG b (b.length-a) (acc++[headD (crlS b a)]) (crlN b a)=rhG b (b.length-crlN b a+1) (acc++[headD (crlS b a)]) (crlN b a):=fun h=>rhG_irrel _ _ _ _ hle (by have:=hg h;omega) (by omega)
  have hrow:∀h:Head,h.row=[.str h.name,.str h.value]:=fun _=>rfl
  rw [hrow] at k2
  generalize crlB b a=B at *
  generalize crlN b a=n at *
  generalize headD (crlS b a)=H at *
  generalize (headO (crlS b a)).isSome=O at *
  generalize crlS b a=S at *
  simp -implicitDefEqProofs [hRl,hlt']
  refine ACallK.of k1 ?_
  cases B
  ·rw [if_pos rfl] at hR
   subst hR
   simp -implicitDefEqProofs
  rw [if_neg (by decide)] at hR
  by_cases hS:S=[]
  ·rw [if_pos hS] at hR
   subst hR hS
   simp -implicitDefEqProofs
  rw [if_neg hS] at hR
  have hS':(S=[])=False:=eq_false hS
  simp -implicitDefEqProofs [hS']
  refine ACallK.of k2 ?_
  cases O
  ·rw [if_pos rfl] at hR
   subst hR
   simp -implicitDefEqProofs
  rw [if_neg (by decide),hst rfl] at hR
  have hg:=hg rfl
  simp -implicitDefEqProofs
  refine ⟨⟨by omega,by unfold maxLen;omega⟩,?_⟩
  refine Again.of (acc++[H],n) ⟨⟨hle,by simp only [List.length_append,List.length_singleton];omega⟩,hR⟩ (by simp only;omega) ?_
  simp [hrow]
 ·rw [if_neg hlt] at hR
  subst hR
  have hlt':((a:Int)<(b.length:Int))=False:=eq_false (by omega)
  simp -implicitDefEqProofs [hRl,hlt']
def webS:List UInt8:=[87,69,66,47,49,32]
def topR (b:List UInt8):Ans×Nat×Bool:=
 if crlB b 0=false∨hasPre (crlS b 0) webS=false∨(32:UInt8)∉(crlS b 0).drop 6∨numK 9 (befC 32 ((crlS b 0).drop 6))=false then (ans0,0,false)
 else (⟨decV (befC 32 ((crlS b 0).drop 6)),aftC 32 ((crlS b 0).drop 6),(rhF b (crlN b 0)).1,[]⟩,(rhF b (crlN b 0)).2.1,(rhF b (crlN b 0)).2.2)
theorem message_readTop (b:List UInt8) (hb:b.length≤16777216):ACalls Tryz.prog 111 [.one (fileB b)] (.tup [.agg (topR b).1.row,.one (.int .i64 (topR b).2.1),.one (.bool (topR b).2.2)]):=by
 have hz:ans0.row=[.int .i64 0,.str [],.list 2 [],.list 1 []]:=rfl
 have hrow:∀a:Ans,a.row=[.int .i64 a.st,.str a.re,.list 2 (a.hs.map Head.row),fileB a.ct]:=fun _=>rfl
 obtain ⟨R,eR⟩:∃R,R=topR b:=⟨_,rfl⟩
 rw [←eR]
 unfold topR at eR
 have k1:=message_Line b 0 hb (Nat.zero_le _)
 have k2:=strings_CutPrefixR (crlS b 0) webS
 have k5:=message_readHeads b (crlN b 0) hb (crlN_le (Nat.zero_le _))
 generalize crlB b 0=B at *
 generalize crlN b 0=n at *
 generalize crlS b 0=S at *
 generalize rhF b n=H at *
 have h6:webS.length=6:=rfl
 rw [h6] at k2
 generalize hasPre S webS=P at *
 have e1:P=true→(if P=true then S.drop 6 else S)=S.drop 6:=fun h=>by rw [if_pos h]
 have k3:=strings_Cut1 (if P=true then S.drop 6 else S) 32
 have k4:=message_DigitsK 9 (by omega) (befC 32 (if P=true then S.drop 6 else S))
 unfold webS at k2
 refine ACalls.of mixed (fn:=Tryz.f111) (by kernel_rfl) (by kernel_rfl) rfl (by kernel_rfl) (by simp [Tryz.f111]) (fun hok=>?_)
 simp -implicitDefEqProofs
 refine ACallK.of k1 ?_
 simp -implicitDefEqProofs
 refine ACallK.of k2 ?_
 simp -implicitDefEqProofs
 refine ACallK.of k3 ?_
 cases B
 ·rw [if_pos (.inl rfl)] at eR
  subst eR
  simp -implicitDefEqProofs
  refine ACallGS.of (fun h=>by cases h) (r:=.x (.one (.bool false))) rfl ?_
  simp -implicitDefEqProofs [hz]
 cases P
 ·rw [if_pos (.inr (.inl rfl))] at eR
  subst eR
  simp -implicitDefEqProofs
  refine ACallGS.of (fun h=>by cases h) (r:=.x (.one (.bool false))) rfl ?_
  simp -implicitDefEqProofs [hz]
 rw [e1 rfl] at k3 k4 ⊢
 generalize S.drop 6=T at *
 by_cases hm:(32:UInt8)∈T
 rotate_left
 ·rw [if_pos (.inr (.inr (.inl hm)))] at eR
  subst eR
  have hm':((32:UInt8)∈T)=False:=eq_false hm
  simp -implicitDefEqProofs [hm']
  refine ACallGS.of (fun h=>by cases h) (r:=.x (.one (.bool false))) rfl ?_
  simp -implicitDefEqProofs [hz]
 have hm':((32:UInt8)∈T)=True:=eq_true hm
 simp -implicitDefEqProofs [hm']
 refine ACallGS.of (fun _=>k4) rfl ?_
 cases hk:numK 9 (befC 32 T)
 ·rw [if_pos (.inr (.inr (.inr hk)))] at eR
  subst eR
  simp -implicitDefEqProofs [hz]
 obtain ⟨h1,h2,h3⟩:=numK_atoi hk
 have k6:=strconv_Atoi1 (befC 32 T) _ (by omega) h1
 rw [if_neg (by simp [hk,hm])] at eR
 subst eR
 simp -implicitDefEqProofs [hm']
 refine ACallK.of k6 ?_
 simp -implicitDefEqProofs
 refine ACallK.of k5 ?_
 simp -implicitDefEqProofs [hrow]
theorem begF_zero:∀{w b:List UInt8},begF b w=0→w.length≤b.length
 | [],b,_=>Nat.zero_le _
 | d::w,[],h=>by unfold begF at h;cases h
 | d::w,c::b,h=>by
  unfold begF at h
  by_cases hc:c=d
  ·rw [if_pos hc] at h
   have:=begF_zero h
   simp only [List.length_cons];omega
  ·rw [if_neg hc] at h;cases h
theorem begF_le:∀(b w:List UInt8),begF b w≤2
 | _,[]=>by unfold begF;omega
 | [],_::_=>by unfold begF;omega
 | c::b,d::w=>by
  unfold begF
  split
  ·exact begF_le b w
  ·omega
theorem le_of_lt_nat {a b:Nat} (h:a<b):(a≤b)=True:=eq_true (by omega)
def sizeR:Nat→Nat→List UInt8→Option (Nat×Nat)
 | i,n,[]=>some (i,n)
 | i,n,c::r=>if hexV c<16 then (if 0<i∧n=0 then none else if 65536<16*n+hexV c then none else sizeR (i+1) (16*n+hexV c) r) else some (i,n)
def nlS:List UInt8:=[13,10]
def chunkR (b:List UInt8):List UInt8×Nat×Nat:=match sizeR 0 0 b with
 | none=>([],0,2)
 | some (i,n) =>
  if i=b.length then ([],0,1)
  else if i=0 then ([],0,2)
  else if begF (b.drop i) nlS≠0 then ([],0,begF (b.drop i) nlS)
  else if b.length-(i+2)<n then ([],0,1)
  else if begF (b.drop (i+2+n)) nlS≠0 then ([],0,begF (b.drop (i+2+n)) nlS)
  else ((b.drop (i+2)).take n,i+2+n+2,0)
theorem message_readChunk (b:List UInt8) (hb:b.length≤16777216):ACalls Tryz.prog 201 [.one (fileB b)] (.tup [.one (fileB (chunkR b).1),.one (.int .i64 (chunkR b).2.1),.one (.int .i64 (chunkR b).2.2)]):=by
 obtain ⟨R,eR⟩:∃R,R=chunkR b:=⟨_,rfl⟩
 rw [←eR]
 unfold chunkR at eR
 have hRl:=rows_len b
 refine ACalls.of mixed (fn:=Tryz.f201) (by kernel_rfl) (by kernel_rfl) rfl (by kernel_rfl) (by simp [Tryz.f201]) (fun hok=>?_)
 simp -implicitDefEqProofs
 refine ALoopS.of (Nat×Nat) (fun x=>[(0,.x (.one (fileB b))),(5,.x (.one (.int .i64 x.2))),(6,.x (.one (.int .i64 x.1)))])
  (fun x=>(x.1≤b.length∧x.2≤65536)∧sizeR 0 0 b=sizeR x.1 x.2 (b.drop x.1)) (fun x=>b.length-x.1) (0,0) ⟨⟨Nat.zero_le _,Nat.zero_le _⟩,rfl⟩ ?_ ?_
 ·simp
 rintro ⟨i,n⟩ ⟨⟨hi,hn⟩,hS⟩
 dsimp only at hi hn hS ⊢
 rw [hS] at eR
 by_cases hlt:i<b.length
 ·have hlt':((i:Int)<(b.length:Int))=True:=eq_true (by omega)
  have hat:∀h,(byteRows b)[i]'h=[.int .u8 b[i].toNat]:=fun h=>by simp [byteRows,byteRow]
  have hdr:=List.drop_eq_getElem_cons hlt
  have k1:=message_hexValue b[i]
  have hv:=hexV_le b[i]
  rw [hdr] at eR
  unfold sizeR at eR
  simp -implicitDefEqProofs [hRl,hlt,hlt',hat]
  refine ACallGS.of (fun _=>k1) rfl ?_
  obtain ⟨v,hV⟩:∃v,v=hexV b[i]:=⟨_,rfl⟩
  rw [←hV] at k1 hv eR ⊢
  by_cases h16:v<16
  ·rw [if_pos h16] at eR
   have h16':((v:Int)<16)=True:=eq_true (by omega)
   have hn0:((n:Int)=0)=(n=0):=by apply propext;omega
   have hi0:(0<(i:Int))=(0<i):=by apply propext;omega
   have w1:IntKind.i64.wrap (16*(n:Int))=16*(n:Int):=wrapS _ (by omega)
   have w2:IntKind.i64.wrap (16*(n:Int)+(v:Int))=16*(n:Int)+(v:Int):=wrapS _ (by omega)
   have w3:IntKind.i64.wrap ((i:Int)+1)=(i:Int)+1:=wrapS _ (by omega)
   by_cases h0:0<i∧n=0
   ·rw [if_pos h0] at eR
    subst eR
    have h0a:=eq_true h0.1
    have h0b:=eq_true h0.2
    simp -implicitDefEqProofs [h16',hn0,hi0,h0a,h0b]
   rw [if_neg h0] at eR
   have hgo:65536<16*n+v→R=([],0,2):=fun h=>by rw [if_pos h] at eR;exact eR
   by_cases hbig:65536<16*n+v
   ·have hb1:(65536<16*(n:Int)+(v:Int))=True:=eq_true (by omega)
    have eR:=hgo hbig
    subst eR
    by_cases hi1:0<i
    ·have h0a:=eq_true hi1
     have h0b:(n=0)=False:=eq_false fun h=>h0 ⟨hi1,h⟩
     simp -implicitDefEqProofs [h16',hn0,hi0,h0a,h0b,hRl,hlt,hlt',hat]
     refine ACallK.of k1 ?_
     simp -implicitDefEqProofs [w1,w2,hb1]
    ·have h0a:=eq_false hi1
     simp -implicitDefEqProofs [h16',hn0,hi0,h0a,hRl,hlt,hlt',hat]
     refine ACallK.of k1 ?_
     simp -implicitDefEqProofs [w1,w2,hb1]
   ·rw [if_neg hbig] at eR
    have hb1:(65536<16*(n:Int)+(v:Int))=False:=eq_false (by omega)
    have hS2:sizeR 0 0 b=sizeR (i+1) (16*n+v) (b.drop (i+1)):=by
     rw [hS,hdr]
     conv=>lhs;unfold sizeR
     rw [←hV,if_pos h16,if_neg h0,if_neg hbig]
    by_cases hi1:0<i
    ·have h0a:=eq_true hi1
     have h0b:(n=0)=False:=eq_false fun h=>h0 ⟨hi1,h⟩
     simp -implicitDefEqProofs [h16',hn0,hi0,h0a,h0b,hRl,hlt,hlt',hat]
     refine ACallK.of k1 ?_
     simp -implicitDefEqProofs [w1,w2,hb1]
     refine Again.of (i+1,16*n+v) ⟨⟨hlt,by simp only;omega⟩,hS2⟩ (by simp only;omega) ?_
     simp [w3]
    ·have h0a:=eq_false hi1
     simp -implicitDefEqProofs [h16',hn0,hi0,h0a,hRl,hlt,hlt',hat]
     refine ACallK.of k1 ?_
     simp -implicitDefEqProofs [w1,w2,hb1]
     refine Again.of (i+1,16*n+v) ⟨⟨hlt,by simp only;omega⟩,hS2⟩ (by simp only;omega) ?_
     simp [w3]
  ·rw [if_neg h16] at eR
   have h16':((v:Int)<16)=False:=eq_false (by omega)
   dsimp only at eR
   rw [if_neg (by omega)] at eR
   have hil:((i:Int)=(b.length:Int))=False:=eq_false (by omega)
   by_cases h0:i=0
   ·rw [if_pos h0] at eR
    subst eR
    subst h0
    simp -implicitDefEqProofs [h16',hRl,hil,hlt']
    omega
   rw [if_neg h0] at eR
   have h0':((i:Int)=0)=False:=eq_false (by omega)
   have h0n:(i=0)=False:=eq_false h0
   have c1:cutAt (byteRows b) (i:Int) (b.length:Int)=byteRows (b.drop i):=by
    unfold cutAt byteRows
    rw [Int.toNat_natCast,Int.toNat_natCast,List.take_of_length_le (by simp),List.map_drop]
   have k2:=message_isBegun (b.drop i) nlS (by rw [List.length_drop];omega) (by decide)
   have hbz:=begF_zero (w:=nlS) (b:=b.drop i)
   generalize begF (b.drop i) nlS=F at *
   have hl2:nlS.length=2:=rfl
   rw [hl2,List.length_drop] at hbz
   unfold nlS at k2
   unfold fileB at k2
   have hle:=le_of_lt_nat hlt
   simp -implicitDefEqProofs [h16',hRl,hil,h0n,c1,hle]
   refine ACallK.of k2 ?_
   by_cases hF:F=0
   rotate_left
   ·rw [if_pos hF] at eR
    subst eR
    have hF':(F=0)=False:=eq_false hF
    simp -implicitDefEqProofs [hF']
   rw [if_neg (by simp [hF])] at eR
   have hbz:=hbz hF
   subst hF
   have w4:IntKind.i64.wrap ((i:Int)+2)=(i:Int)+2:=wrapS _ (by omega)
   have w5:IntKind.i64.wrap ((b.length:Int)-((i:Int)+2))=(b.length:Int)-((i:Int)+2):=wrapS _ (by omega)
   by_cases hs:b.length-(i+2)<n
   ·rw [if_pos hs] at eR
    subst eR
    have hs':((b.length:Int)-((i:Int)+2)<(n:Int))=True:=eq_true (by omega)
    simp -implicitDefEqProofs [hRl,w4,w5,hs']
   rw [if_neg hs] at eR
   have hs':((b.length:Int)-((i:Int)+2)<(n:Int))=False:=eq_false (by omega)
   have w6:IntKind.i64.wrap ((i:Int)+2+(n:Int))=(i:Int)+2+(n:Int):=wrapS _ (by omega)
   have w7:IntKind.i64.wrap ((i:Int)+2+(n:Int)+2)=(i:Int)+2+(n:Int)+2:=wrapS _ (by omega)
   have c2:cutAt (byteRows b) ((i:Int)+2+(n:Int)) (b.length:Int)=byteRows (b.drop (i+2+n)):=by
    have:((i:Int)+2+(n:Int))=((i+2+n:Nat):Int):=by omega
    rw [this]
    unfold cutAt byteRows
    rw [Int.toNat_natCast,Int.toNat_natCast,List.take_of_length_le (by simp),List.map_drop]
   have c3:cutAt (byteRows b) ((i:Int)+2) ((i:Int)+2+(n:Int))=byteRows ((b.drop (i+2)).take n):=by
    have e1:((i:Int)+2+(n:Int))=((i+2+n:Nat):Int):=by omega
    have e2:((i:Int)+2)=((i+2:Nat):Int):=by omega
    rw [e1,e2]
    unfold cutAt byteRows
    rw [Int.toNat_natCast,Int.toNat_natCast,List.map_take,List.map_drop,List.drop_take]
    congr 1
    omega
   have k3:=message_isBegun (b.drop (i+2+n)) nlS (by rw [List.length_drop];omega) (by decide)
   generalize begF (b.drop (i+2+n)) nlS=F at *
   unfold nlS at k3
   unfold fileB at k3
   have hin:(0≤(i:Int)+2+(n:Int))=True:=eq_true (by omega)
   have hin2:((i:Int)+2+(n:Int)≤(b.length:Int))=True:=eq_true (by omega)
   have hin3:(0≤(i:Int)+2)=True:=eq_true (by omega)
   have hin4:((i:Int)+2≤(i:Int)+2+(n:Int))=True:=eq_true (by omega)
   simp -implicitDefEqProofs [hRl,w4,w5,w6,hs',c2,hin,hin2]
   refine ACallK.of k3 ?_
   by_cases hF:F=0
   rotate_left
   ·rw [if_pos hF] at eR
    subst eR
    have hF':(F=0)=False:=eq_false hF
    simp -implicitDefEqProofs [hF']
   rw [if_neg (by simp [hF])] at eR
   subst hF eR
   simp -implicitDefEqProofs [hRl,w6,w7,c3,hin,hin2,hin3,hin4]
 ·have hlt':((i:Int)<(b.length:Int))=False:=eq_false (by omega)
  obtain rfl:i=b.length:=by omega
  have:b.drop b.length=[]:=List.drop_length
  rw [this] at eR
  unfold sizeR at eR
  dsimp only at eR
  rw [if_pos rfl] at eR
  subst eR
  simp -implicitDefEqProofs [hRl,hlt']
  refine ACallGS.of (fun h=>by cases h) (r:=.x (.one (.int .i64 0))) rfl ?_
  simp -implicitDefEqProofs [hRl]
theorem chunkR_next {b:List UInt8} (h1:(chunkR b).2.2≠1) (h2:(chunkR b).2.2≠2):4≤(chunkR b).2.1∧(chunkR b).2.1≤b.length∧(chunkR b).1.length≤(chunkR b).2.1:=by
 obtain ⟨R,eR⟩:∃R,R=chunkR b:=⟨_,rfl⟩
 rw [←eR] at h1 h2 ⊢
 unfold chunkR at eR
 cases hs:sizeR 0 0 b with
 | none=>rw [hs] at eR;subst eR;exact absurd rfl h2
 | some p =>
  obtain ⟨i,n⟩:=p
  rw [hs] at eR
  dsimp only at eR
  by_cases c1:i=b.length
  ·rw [if_pos c1] at eR;subst eR;exact absurd rfl h1
  rw [if_neg c1] at eR
  by_cases c2:i=0
  ·rw [if_pos c2] at eR;subst eR;exact absurd rfl h2
  rw [if_neg c2] at eR
  have g1:=begF_le (b.drop i) nlS
  by_cases c3:begF (b.drop i) nlS=0
  rotate_left
  ·rw [if_pos c3] at eR;subst eR;simp only at h1 h2;omega
  rw [if_neg (by simp [c3])] at eR
  by_cases c4:b.length-(i+2)<n
  ·rw [if_pos c4] at eR;subst eR;exact absurd rfl h1
  rw [if_neg c4] at eR
  have g2:=begF_le (b.drop (i+2+n)) nlS
  by_cases c5:begF (b.drop (i+2+n)) nlS=0
  rotate_left
  ·rw [if_pos c5] at eR;subst eR;simp only at h1 h2;omega
  rw [if_neg (by simp [c5])] at eR
  have b2:=begF_zero c5
  have b1:=begF_zero c3
  have hl2:nlS.length=2:=rfl
  rw [hl2,List.length_drop] at b1 b2
  subst eR
  simp only [List.length_take,List.length_drop]
  omega
theorem chunkR_three (b:List UInt8):(chunkR b).2.2≤2:=by
 unfold chunkR
 split
 ·simp
 ·split
  ·simp
  ·split
   ·simp
   ·split
    ·exact begF_le _ _
    ·split
     ·simp
     ·split
      ·exact begF_le _ _
      ·simp
def chunksG (b:List UInt8):Nat→List UInt8→Nat→List UInt8×Nat×Nat×Int
 | 0,_,_=>([],0,0,0)
 | k+1,acc,a =>
  if (chunkR (b.drop a)).2.2=2 then ([],0,a,10)
  else if (chunkR (b.drop a)).2.2=1∧acc.length≤200000 then (acc,a,b.length,15)
  else if (chunkR (b.drop a)).2.2=1 then ([],0,0,2)
  else if 0<(chunkR (b.drop a)).1.length then chunksG b k (acc++(chunkR (b.drop a)).1) (a+(chunkR (b.drop a)).2.1)
  else if 200000<(acc++(chunkR (b.drop a)).1).length then ([],0,0,2)
  else if a+(chunkR (b.drop a)).2.1<b.length then (acc++(chunkR (b.drop a)).1,a+(chunkR (b.drop a)).2.1,a+(chunkR (b.drop a)).2.1,3)
  else (acc++(chunkR (b.drop a)).1,a+(chunkR (b.drop a)).2.1,0,0)
def chunksF (b:List UInt8):List UInt8×Nat×Nat×Int:=chunksG b (b.length+1) [] 0
theorem chunksG_irrel {b:List UInt8}:∀(n m:Nat) (acc:List UInt8) (a:Nat),a≤b.length→b.length-a<n→b.length-a<m→chunksG b n acc a=chunksG b m acc a
 | 0,_,_,_,_,h,_=>by omega
 | _,0,_,_,_,_,h=>by omega
 | n+1,m+1,acc,a,h,h1,h2=>by
  unfold chunksG
  have hn:=chunkR_next (b:=b.drop a)
  rw [List.length_drop] at hn
  generalize chunkR (b.drop a)=C at *
  by_cases c2:C.2.2=2
  ·rw [if_pos c2,if_pos c2]
  by_cases c1:C.2.2=1
  ·simp only [c1,if_true]
  obtain ⟨n1,n2,n3⟩:=hn c1 c2
  rw [chunksG_irrel n m (acc++C.1) (a+C.2.1) (by omega) (by omega) (by omega)]
theorem message_ReadChunks (b:List UInt8) (hb:b.length≤16777216):ACalls Tryz.prog 115 [.one (fileB b)] (.tup [.one (fileB (chunksF b).1),.one (.int .i64 (chunksF b).2.1),.one (.int .i64 (chunksF b).2.2.1),.one (.int .i64 (chunksF b).2.2.2)]):=by
 obtain ⟨R,eR⟩:∃R,R=chunksF b:=⟨_,rfl⟩
 rw [←eR]
 unfold chunksF at eR
 have hRl:=rows_len b
 refine ACalls.of mixed (fn:=Tryz.f115) (by kernel_rfl) (by kernel_rfl) rfl (by kernel_rfl) (by simp [Tryz.f115]) (fun hok=>?_)
 simp -implicitDefEqProofs
 refine ALoopS.of (List UInt8×Nat) (fun x=>[(0,.x (.one (fileB b))),(6,.own 5 1 (byteRows x.1)),(7,.x (.one (.int .i64 x.2)))])
  (fun x=>(x.2≤b.length∧x.1.length≤x.2)∧R=chunksG b (b.length-x.2+1) x.1 x.2) (fun x=>b.length-x.2) ([],0) ⟨⟨Nat.zero_le _,Nat.zero_le _⟩,eR⟩ ?_ ?_
 ·simp
 rintro ⟨acc,a⟩ ⟨⟨ha,hal⟩,hR⟩
 dsimp only at ha hal hR ⊢
 unfold chunksG at hR
 have hAl:=rows_len acc
 have k1:=message_readChunk (b.drop a) (by rw [List.length_drop];omega)
 have hn:=chunkR_next (b:=b.drop a)
 have h3:=chunkR_three (b.drop a)
 rw [List.length_drop] at hn
 have c1:cutAt (byteRows b) (a:Int) (b.length:Int)=byteRows (b.drop a):=by
  unfold cutAt byteRows
  rw [Int.toNat_natCast,Int.toNat_natCast,List.take_of_length_le (by simp),List.map_drop]
 have hst:∀acc' a',a'≤b.length→a<a'→chunksG b (b.length-a) acc' a'=chunksG b (b.length-a'+1) acc' a':=fun acc' a' h h'=>chunksG_irrel _ _ _ _ h (by omega) (by omega)
 generalize chunkR (b.drop a)=C at *
 obtain ⟨cb,cn,ck⟩:=C
 dsimp only at *
 unfold fileB at k1
 simp -implicitDefEqProofs [hRl,ha,c1]
 refine ACallK.of k1 ?_
 by_cases e2:ck=2
 ·rw [if_pos e2] at hR
  subst hR e2
  simp -implicitDefEqProofs
 rw [if_neg e2] at hR
 by_cases e1:ck=1
 ·subst e1
  by_cases hs:acc.length≤200000
  ·rw [if_pos ⟨rfl,hs⟩] at hR
   subst hR
   have hs':((acc.length:Int)≤200000)=True:=eq_true (by omega)
   simp -implicitDefEqProofs [hRl,hAl,hs']
  ·rw [if_neg (by omega),if_pos rfl] at hR
   subst hR
   have hs':((acc.length:Int)≤200000)=False:=eq_false (by omega)
   simp -implicitDefEqProofs [hRl,hAl,hs']
 rw [if_neg (by omega),if_neg e1] at hR
 obtain ⟨n1,n2,n3⟩:=hn e1 e2
 have hck:ck=0:=by omega
 subst hck
 have w1:IntKind.i64.wrap ((a:Int)+(cn:Int))=(a:Int)+(cn:Int):=wrapS _ (by omega)
 have hCl:=rows_len cb
 have hap:=byteRows_append acc cb
 by_cases hc:0<cb.length
 ·rw [if_pos hc] at hR
  have hc':(0<(cb.length:Int))=True:=eq_true (by omega)
  have hc2:(0<cb.length)=True:=eq_true hc
  simp -implicitDefEqProofs [hRl,hAl,hCl,w1,hc',hc2]
  refine ⟨⟨by omega,by unfold maxLen;omega⟩,?_⟩
  rw [hst _ _ (by omega) (by omega)] at hR
  refine Again.of (acc++cb,a+cn) ⟨⟨by simp only;omega,by simp only [List.length_append];omega⟩,hR⟩ (by simp only;omega) ?_
  simp [byteRows_append]
 rw [if_neg hc] at hR
 have hc':(0<(cb.length:Int))=False:=eq_false (by omega)
 have hcb:cb=[]:=List.length_eq_zero_iff.1 (by omega)
 subst hcb
 rw [List.append_nil] at hR
 by_cases hbig:200000<acc.length
 ·rw [if_pos hbig] at hR
  subst hR
  have hbig':(200000<(acc.length:Int))=True:=eq_true (by omega)
  simp -implicitDefEqProofs [hRl,hAl,w1,hbig']
  exact ⟨by omega,by unfold maxLen;omega⟩
 rw [if_neg hbig] at hR
 have hbig':(200000<(acc.length:Int))=False:=eq_false (by omega)
 by_cases hm:a+cn<b.length
 ·rw [if_pos hm] at hR
  subst hR
  have hm':((a:Int)+(cn:Int)<(b.length:Int))=True:=eq_true (by omega)
  simp -implicitDefEqProofs [hRl,hAl,w1,hbig',hm']
  exact ⟨by omega,by unfold maxLen;omega⟩
 rw [if_neg hm] at hR
 subst hR
 have hm':((a:Int)+(cn:Int)<(b.length:Int))=False:=eq_false (by omega)
 simp -implicitDefEqProofs [hRl,hAl,w1,hbig',hm']
 exact ⟨by omega,by unfold maxLen;omega⟩
theorem trimLeftS_le (l cs:List UInt8):(Lib.trimLeftS l cs).length≤l.length:=by
 unfold Lib.trimLeftS
 exact (List.dropWhile_sublist _).length_le
theorem strings_TrimLeftB (l cs:List UInt8) (h:cs.all (fun b=>decide (b.toNat<128))=true) (h2:cs.length<1000):ACalls Tryz.prog 157 [.one (.str l),.one (.str cs)] (.x (.one (.str (Lib.trimLeftS l cs)))):=by
 by_cases hl:l.length≤maxLen
 ·refine ACalls.ofKit [.string ⟨l.toArray⟩,.string ⟨cs.toArray⟩] _ (callable_of Tryz.f157 (by kernel_rfl) (by kernel_rfl) rfl) rfl (fun _ _=>repR_str _ (Nat.le_trans (trimLeftS_le l cs) hl)) (fun hok w=>?_)
  have h116:(Tryz.prog.info? (renn161.t 116)).map (fun i=>(i.zero,i.size))=some (some (.agg (Array.replicate 256 (.bool false))),256):=by kernel_rfl
  exact Any.strings_TrimLeft_ascii layn161 (zero_of_info h116).1 (zero_of_info h116).2 ⟨l.toArray⟩ ⟨cs.toArray⟩ w (by simp only [ByteArray.size,List.size_toArray];omega) (Go.Proofs.ascii_of_all h)
 ·refine ⟨callable_of Tryz.f157 (by kernel_rfl) (by kernel_rfl) rfl,fun w S vs hS ha=>?_⟩
  exact absurd (by simpa [XV.ok,CV.ok] using okAll_of ha _ (List.mem_cons_self)) hl
def typeS:List UInt8:=[116,121,112,101]
def setS:List UInt8:=[115,101,116,61]
def unqB (t:List UInt8):Bool:=decide (2≤t.length)&&(t.head?==some 34&&t.getLast?==some 34)
def unqL (t:List UInt8):List UInt8:=if unqB t=true then (t.drop 1).take (t.length-2) else t
def mdQ (p:List UInt8):List UInt8:=smallL (Lib.trimLeftS p [32,9])
def mdG:List (List UInt8)→List UInt8
 | []=>[]
 | p::r=>if hasPre (mdQ p) setS=true then unqL (trimB ((mdQ p).drop 4)) else mdG r
structure Med where
 mt:List UInt8
 set:List UInt8
def Med.row (m:Med):List CV:=[.str m.mt,.str m.set]
def med0:Med:=⟨[],[]⟩
def mediaF (hs:List Head):Med×Bool×Int:=
 if headsF hs≠0 then (med0,false,headsF hs)
 else match valsL hs typeS with
 | []=>(med0,false,0)
 | v::_ =>
  if (47:UInt8)∈(splitC 59 v).headD [] then (⟨smallL (trimB ((splitC 59 v).headD [])),mdG (splitC 59 v).tail⟩,true,0) else (med0,false,0)
theorem valsL_mem {hs:List Head} {w v:List UInt8} (h:v∈valsL hs w):∃x∈hs,x.value=v:=by
 unfold valsL at h
 obtain ⟨x,hx,e⟩:=List.mem_map.1 h
 exact ⟨x,(List.mem_filter.1 hx).1,e⟩
theorem message_MediaOf (l:List Head) (hl:l.length≤1000000000):ACalls Tryz.prog 89 [headsV l] (.tup [.agg (mediaF l).1.row,.one (.bool (mediaF l).2.1),.one (.int .i64 (mediaF l).2.2)]):=by
 have hz:med0.row=[.str [],.str []]:=rfl
 have hrow:∀m:Med,m.row=[.str m.mt,.str m.set]:=fun _=>rfl
 obtain ⟨R,eR⟩:∃R,R=mediaF l:=⟨_,rfl⟩
 rw [←eR]
 unfold mediaF at eR
 have k1:=message_CheckHeads l
 have k2:=message_first l typeS hl
 refine ACalls.of mixed (fn:=Tryz.f89) (by kernel_rfl) (by kernel_rfl) rfl (by kernel_rfl) (by simp [Tryz.f89]) (fun hok=>?_)
 simp -implicitDefEqProofs
 refine ACallK.of k1 ?_
 by_cases h0:headsF l=0
 rotate_left
 ·rw [if_pos h0] at eR
  subst eR
  have h0':(headsF l=0)=False:=eq_false h0
  simp -implicitDefEqProofs [hz,h0']
 rw [if_neg (by simp [h0])] at eR
 have hok:=headsF_ok h0
 rw [h0]
 unfold typeS at k2
 simp -implicitDefEqProofs
 refine ACallK.of k2 ?_
 have hvm:=fun v=>valsL_mem (hs:=l) (w:=[116,121,112,101]) (v:=v)
 unfold typeS at eR
 generalize valsL l [116,121,112,101]=V at *
 cases V with
 | nil =>
  dsimp only at eR
  subst eR
  simp -implicitDefEqProofs [hz]
 | cons v vs =>
  dsimp only at eR
  have hv:v.length≤1000:=by
   obtain ⟨x,hx,e⟩:=hvm v (by simp)
   rw [←e];exact (hok x hx).2
  have k3:=strings_Split1 v 59 (by omega)
  have hne:=splitC_ne 59 v
  have hcnt:=splitC_count 59 v
  have hpar:=splitC_len 59 v
  generalize splitC 59 v=PS at *
  have hnn:(((vs.length:Int)+1 != 0))=true:=by simp;omega
  simp -implicitDefEqProofs [hnn]
  refine ACallK.of k3 ?_
  cases PS with
  | nil=>exact absurd rfl hne
  | cons p ps =>
   change R=if (47:UInt8)∈p then (⟨smallL (trimB p),mdG ps⟩,true,0) else (med0,false,0) at eR
   have k4:=message_trim p
   have k5:=address_Small (trimB p)
   have k6:=strings_ContainsA p 47
   simp -implicitDefEqProofs
   refine ACallK.of k4 ?_
   simp -implicitDefEqProofs
   refine ACallK.of k5 ?_
   simp -implicitDefEqProofs
   refine ACallK.of k6 ?_
   by_cases hm:(47:UInt8)∈p
   rotate_left
   ·rw [if_neg hm] at eR
    subst eR
    have hm':((47:UInt8)∈p)=False:=eq_false hm
    simp -implicitDefEqProofs [hm',hz]
   rw [if_pos hm] at eR
   have hm':((47:UInt8)∈p)=True:=eq_true hm
   have c1:cutAt ([CV.str p]::ps.map fun s=>[CV.str s]) 1 ((ps.length:Int)+1)=ps.map fun s=>[CV.str s]:=by
    unfold cutAt
    have:((ps.length:Int)+1).toNat=ps.length+1:=by omega
    rw [this]
    simp
    exact List.take_of_length_le (by simp)
   simp -implicitDefEqProofs [hm',c1]
   refine ⟨by omega,?_⟩
   generalize smallL (trimB p)=MT at *
   have hpl:ps.length≤1000:=by simp only [List.length_cons] at hcnt;omega
   refine ALoopS.of Nat (fun i=>[(2,.box [.str [],.str []]),(9,.box [.str MT,.str []]),(43,.x (.one (.list 1 (ps.map fun s=>[CV.str s])))),(44,.x (.one (.int .i64 ps.length))),(45,.x (.one (.int .i64 i)))])
    (fun i=>i≤ps.length∧mdG ps=mdG (ps.drop i)) (fun i=>ps.length-i) 0 ⟨Nat.zero_le _,rfl⟩ ?_ ?_
   ·simp
   rintro i ⟨hi,hG⟩
   rw [hG] at eR
   by_cases hlt:i<ps.length
   ·have hlt':((i:Int)<(ps.length:Int))=True:=eq_true (by omega)
    have hwr:IntKind.i64.wrap ((i:Int)+1)=(i:Int)+1:=wrapS _ (by omega)
    have hdr:=List.drop_eq_getElem_cons hlt
    rw [hdr] at eR
    unfold mdG at eR
    have k7:=strings_TrimLeftB ps[i] [32,9] (by decide) (by decide)
    have k8:=address_Small (Lib.trimLeftS ps[i] [32,9])
    have hQ:smallL (Lib.trimLeftS ps[i] [32,9])=mdQ ps[i]:=rfl
    rw [hQ] at k8
    obtain ⟨Q,eQ⟩:∃Q,Q=mdQ ps[i]:=⟨_,rfl⟩
    rw [←eQ] at k8 eR
    have hQl:Q.length≤1000:=by
     rw [eQ]
     unfold mdQ smallL
     rw [List.length_map]
     have h1:=trimLeftS_le ps[i] [32,9]
     have h2:=hpar ps[i] (List.mem_cons_of_mem _ (List.getElem_mem hlt))
     omega
    have hTl:(trimB (Q.drop 4)).length≤1000:=by
     have h1:=trimS_le (Q.drop 4) blankCs
     unfold trimB
     rw [List.length_drop] at h1
     omega
    have k9:=strings_CutPrefixR Q setS
    have h4:setS.length=4:=rfl
    rw [h4] at k9
    obtain ⟨P,eP⟩:∃P,P=hasPre Q setS:=⟨_,rfl⟩
    rw [←eP] at k9 eR
    have k10:=message_trim (Q.drop 4)
    unfold setS at k9
    simp -implicitDefEqProofs [hlt,hlt']
    refine ACallK.of k7 ?_
    simp -implicitDefEqProofs
    refine ACallK.of k8 ?_
    simp -implicitDefEqProofs
    refine ACallK.of k9 ?_
    cases P
    ·rw [if_neg (by decide)] at eR
     simp -implicitDefEqProofs
     have hG2:mdG ps=mdG (ps.drop (i+1)):=by
      rw [hG,hdr]
      conv=>lhs;unfold mdG
      rw [←eQ,←eP,if_neg (by decide)]
     refine Again.of (i+1) ⟨hlt,hG2⟩ (by omega) ?_
     simp [hwr]
    ·rw [if_pos rfl] at eR
     simp -implicitDefEqProofs
     refine ACallK.of k10 ?_
     generalize trimB (Q.drop 4)=T at *
     by_cases c2:2≤T.length
     ·have c2':(2≤(T.length:Int))=True:=eq_true (by omega)
      have c0:0<T.length:=by omega
      have c0':(0<(T.length:Int))=True:=eq_true (by omega)
      have cl:T.length-1<T.length:=by omega
      have g0:T[0]?=some T[0]:=List.getElem?_eq_getElem c0
      have gl:T[T.length-1]?=some T[T.length-1]:=List.getElem?_eq_getElem cl
      have w1:IntKind.i64.wrap ((T.length:Int)-1)=((T.length-1:Nat):Int):=by rw [wrapS _ (by omega)];omega
      have d1:T.head?=some T[0]:=by rw [List.head?_eq_getElem?];exact g0
      have d2:T.getLast?=some T[T.length-1]:=by rw [List.getLast?_eq_getElem?];exact gl
      have cl':((T.length-1:Nat):Int)<(T.length:Int):=by omega
      have hu:unqB T=(T[0]==34&&T[T.length-1]==34):=by
       unfold unqB
       rw [d1,d2,decide_eq_true c2,Bool.true_and]
       rfl
      have e1:cutAt T 1 ((T.length-1:Nat):Int)=(T.drop 1).take (T.length-2):=by
       unfold cutAt
       rw [Int.toNat_natCast,show (1:Int).toNat=1 from rfl,List.drop_take]
       congr 1
      have f1:∀c:UInt8,((c.toNat:Int)=34)=(c=34):=fun c=>by
       apply propext
       constructor
       ·intro h;exact UInt8.toNat_inj.1 (by show c.toNat=34;omega)
       ·rintro rfl;rfl
      have i1:((1:Int)≤((T.length-1:Nat):Int))=True:=eq_true (by omega)
      unfold unqL at eR
      rw [hu] at eR
      simp -implicitDefEqProofs [c2',c0,c0',cl,g0,gl,w1,f1,e1,i1]
      constructor
      ·intro q1 q2
       rw [if_pos (by rw [q1,q2];rfl)] at eR
       subst eR
       simp [hrow]
      ·intro q
       rw [if_neg (by
        intro hh
        rw [Bool.and_eq_true,beq_iff_eq,beq_iff_eq] at hh
        exact q hh.1 hh.2)] at eR
       subst eR
       simp [hrow]
     ·have c2':(2≤(T.length:Int))=False:=eq_false (by omega)
      have hu:unqB T=false:=by unfold unqB;rw [decide_eq_false c2,Bool.false_and]
      unfold unqL at eR
      rw [hu,if_neg (by decide)] at eR
      subst eR
      simp -implicitDefEqProofs [c2',hrow]
   ·have hlt':((i:Int)<(ps.length:Int))=False:=eq_false (by omega)
    have hd:ps.drop i=[]:=List.drop_eq_nil_of_le (by omega)
    rw [hd] at eR
    unfold mdG at eR
    subst eR
    simp -implicitDefEqProofs [hlt',hrow]
set_option maxHeartbeats 8000000
theorem rhG_le {b:List UInt8}:∀(k:Nat) (acc:List Head) (a:Nat),a≤b.length→acc.length≤a→(rhG b k acc a).2.1≤b.length∧(rhG b k acc a).1.length≤b.length
 | 0,_,_,_,_=>by unfold rhG;exact ⟨Nat.le_refl _,Nat.zero_le _⟩
 | k+1,acc,a,h,ha=>by
  unfold rhG
  split
  ·split
   ·exact ⟨h,Nat.zero_le _⟩
   ·rename_i hc
    split
    ·exact ⟨crlN_le h,by simp only;omega⟩
    ·split
     ·exact ⟨h,Nat.zero_le _⟩
     ·have hg:=crlN_gt (b:=b) (a:=a) (by simpa using hc)
      exact rhG_le k _ _ (crlN_le h) (by rw [List.length_append,List.length_singleton];omega)
  ·exact ⟨Nat.le_refl _,Nat.zero_le _⟩
theorem topR_le (b:List UInt8):(topR b).2.1≤b.length∧(topR b).1.hs.length≤b.length:=by
 unfold topR
 split
 ·exact ⟨Nat.zero_le _,Nat.zero_le _⟩
 ·have h:=rhG_le (b:=b) (b.length-crlN b 0+1) [] (crlN b 0) (crlN_le (Nat.zero_le _)) (Nat.zero_le _)
  exact h
def ansG (b:List UInt8) (t:Ans) (at':Nat):Ans×Int×Nat×Int:=
 if topF t≠0 then (ans0,0,0,if frameF t=2∧(lenF t.hs).2=true∧200000<(lenF t.hs).1 then 2 else topF t)
 else if frameF t=0 then (ans0,0,0,12)
 else if frameF t=1 then (if 0<b.length-at' then (t,1,at',3) else (t,1,0,0))
 else if frameF t=3 then
  (if (chunksF (b.drop at')).2.2.2=2 then (ans0,0,0,2)
   else if (chunksF (b.drop at')).2.2.2=10 then (ans0,0,at'+(chunksF (b.drop at')).2.2.1,10)
   else if (chunksF (b.drop at')).2.2.2≠0 then ({ t with ct:=(chunksF (b.drop at')).1 },3,at'+(chunksF (b.drop at')).2.2.1,(chunksF (b.drop at')).2.2.2)
   else ({ t with ct:=(chunksF (b.drop at')).1 },3,0,0))
 else if frameF t=4 then (if 200000<b.length-at' then (ans0,0,0,2) else ({ t with ct:=b.drop at' },4,0,0))
 else if 200000<(lenF t.hs).1 then (ans0,0,0,2)
 else if b.length-at'<(lenF t.hs).1 then ({ t with ct:=(b.drop at').take (min (lenF t.hs).1 (b.length-at')) },frameF t,b.length,15)
 else if (lenF t.hs).1<b.length-at' then ({ t with ct:=(b.drop at').take (min (lenF t.hs).1 (b.length-at')) },frameF t,at'+(lenF t.hs).1,3)
 else ({ t with ct:=(b.drop at').take (min (lenF t.hs).1 (b.length-at')) },frameF t,0,0)
def ansF (b:List UInt8):Ans×Int×Nat×Int:=
 if 400000<b.length then (ans0,0,0,2)
 else if (topR b).2.2=false then (ans0,0,(topR b).2.1,10)
 else ansG b (topR b).1 (topR b).2.1
theorem chunksG_le {b:List UInt8}:∀(k:Nat) (acc:List UInt8) (a:Nat),a≤b.length→(chunksG b k acc a).2.2.1≤b.length
 | 0,_,_,_=>Nat.zero_le _
 | k+1,acc,a,h=>by
  unfold chunksG
  have hn:=chunkR_next (b:=b.drop a)
  rw [List.length_drop] at hn
  split
  ·exact h
  ·rename_i c2
   split
   ·exact Nat.le_refl _
   ·split
    ·exact Nat.zero_le _
    ·rename_i c1
     obtain ⟨n1,n2,_⟩:=hn c1 c2
     split
     ·exact chunksG_le k _ _ (by omega)
     ·split
      ·exact Nat.zero_le _
      ·split
       ·simp only;omega
       ·exact Nat.zero_le _
theorem message_ReadAnswer (b:List UInt8):ACalls Tryz.prog 65 [.one (fileB b)] (.tup [.agg (ansF b).1.row,.one (.int .i64 (ansF b).2.1),.one (.int .i64 (ansF b).2.2.1),.one (.int .i64 (ansF b).2.2.2)]):=by
 have hz:ans0.row=[.int .i64 0,.str [],.list 2 [],.list 1 []]:=rfl
 have hrow:∀a:Ans,a.row=[.int .i64 a.st,.str a.re,.list 2 (a.hs.map Head.row),fileB a.ct]:=fun _=>rfl
 obtain ⟨R,eR⟩:∃R,R=ansF b:=⟨_,rfl⟩
 rw [←eR]
 unfold ansF at eR
 have hRl:=rows_len b
 refine ACalls.of mixed (fn:=Tryz.f65) (by kernel_rfl) (by kernel_rfl) rfl (by kernel_rfl) (by simp [Tryz.f65]) (fun hok=>?_)
 by_cases h1:400000<b.length
 ·rw [if_pos h1] at eR
  subst eR
  have h1':(400000<(b.length:Int))=True:=eq_true (by omega)
  simp -implicitDefEqProofs [hRl,h1',hz]
 rw [if_neg h1] at eR
 have h1':(400000<(b.length:Int))=False:=eq_false (by omega)
 have k1:=message_readTop b (by omega)
 obtain ⟨hat,hhs⟩:=topR_le b
 generalize topR b=T at *
 obtain ⟨t,at',ok⟩:=T
 dsimp only at *
 rw [hrow t] at k1
 simp -implicitDefEqProofs [hRl,h1']
 refine ACallK.of k1 ?_
 cases ok
 ·rw [if_pos rfl] at eR
  subst eR
  simp -implicitDefEqProofs [hz]
 rw [if_neg (by decide)] at eR
 have k2:=message_length t.hs (by omega)
 have k3:=message_checkTop t
 have k4:=message_frameOf t (by omega)
 rw [hrow t] at k3 k4
 unfold ansG at eR
 generalize lenF t.hs=L at *
 obtain ⟨ln,lok⟩:=L
 generalize topF t=F at *
 generalize frameF t=fr at *
 dsimp only at *
 simp -implicitDefEqProofs
 refine ACallK.of k2 ?_
 simp -implicitDefEqProofs
 refine ACallK.of k3 ?_
 by_cases hF:F=0
 rotate_left
 ·rw [if_pos hF] at eR
  have hF':(F=0)=False:=eq_false hF
  simp -implicitDefEqProofs [hF']
  refine ACallK.of k4 ?_
  by_cases q1:fr=2
  ·have q1':(fr=2)=True:=eq_true q1
   cases lok
   ·rw [if_neg (by simp)] at eR
    subst eR
    simp -implicitDefEqProofs [q1',hz]
   ·by_cases q3:200000<ln
    ·rw [if_pos ⟨q1,rfl,q3⟩] at eR
     subst eR
     have q3':(200000<(ln:Int))=True:=eq_true (by omega)
     simp -implicitDefEqProofs [q1',q3',hz]
    ·rw [if_neg (by simp [q3])] at eR
     subst eR
     have q3':(200000<(ln:Int))=False:=eq_false (by omega)
     simp -implicitDefEqProofs [q1',q3',hz]
  ·rw [if_neg (by simp [q1])] at eR
   subst eR
   have q1':(fr=2)=False:=eq_false q1
   simp -implicitDefEqProofs [q1',hz]
 rw [if_neg (by simp [hF])] at eR
 subst hF
 simp -implicitDefEqProofs
 refine ACallK.of k4 ?_
 have hRd:=rows_len (b.drop at')
 rw [List.length_drop] at hRd
 have hati:(at'≤b.length)=True:=eq_true hat
 have hsub:((b.length-at':Nat):Int)=(b.length:Int)-(at':Int):=by omega
 have c1:cutAt (byteRows b) (at':Int) (b.length:Int)=byteRows (b.drop at'):=by
  unfold cutAt byteRows
  rw [Int.toNat_natCast,Int.toNat_natCast,List.take_of_length_le (by simp),List.map_drop]
 by_cases f0:fr=0
 ·rw [if_pos f0] at eR
  subst f0 eR
  simp -implicitDefEqProofs [hRl,hati,c1,hz]
 rw [if_neg f0] at eR
 have f0':(fr=0)=False:=eq_false f0
 by_cases f1:fr=1
 ·rw [if_pos f1] at eR
  subst f1
  by_cases g:0<b.length-at'
  ·rw [if_pos g] at eR
   subst eR
   simp -implicitDefEqProofs [hRl,hRd,hati,c1,hrow]
   omega
  ·rw [if_neg g] at eR
   subst eR
   simp -implicitDefEqProofs [hRl,hRd,hati,c1,hrow]
   omega
 rw [if_neg f1] at eR
 have f1':(fr=1)=False:=eq_false f1
 by_cases f3:fr=3
 ·rw [if_pos f3] at eR
  subst f3
  have k5:=message_ReadChunks (b.drop at') (by rw [List.length_drop];omega)
  have hce:=chunksG_le (b:=b.drop at') ((b.drop at').length+1) [] 0 (Nat.zero_le _)
  change (chunksF (b.drop at')).2.2.1≤_ at hce
  rw [List.length_drop] at hce
  generalize chunksF (b.drop at')=CH at *
  obtain ⟨cb,cn,ce,cf⟩:=CH
  dsimp only at *
  unfold fileB at k5
  have w1:IntKind.i64.wrap ((at':Int)+(ce:Int))=(at':Int)+(ce:Int):=wrapS _ (by omega)
  simp -implicitDefEqProofs [hRl,hati,c1]
  refine ACallK.of k5 ?_
  by_cases e2:cf=2
  ·rw [if_pos e2] at eR
   subst eR e2
   simp -implicitDefEqProofs [hz]
  rw [if_neg e2] at eR
  have e2':(cf=2)=False:=eq_false e2
  by_cases e10:cf=10
  ·rw [if_pos e10] at eR
   subst eR e10
   simp -implicitDefEqProofs [hz,w1]
  rw [if_neg e10] at eR
  have e10':(cf=10)=False:=eq_false e10
  by_cases e0:cf=0
  ·rw [if_neg (by simp [e0])] at eR
   subst eR e0
   simp -implicitDefEqProofs [hrow]
  ·rw [if_pos e0] at eR
   subst eR
   have e0':(cf=0)=False:=eq_false e0
   simp -implicitDefEqProofs [e2',e10',e0',w1,hrow]
 rw [if_neg f3] at eR
 have f3':(fr=3)=False:=eq_false f3
 by_cases f4:fr=4
 ·rw [if_pos f4] at eR
  subst f4
  by_cases g:200000<b.length-at'
  ·rw [if_pos g] at eR
   subst eR
   have g':(200000<((b.length-at':Nat):Int))=True:=eq_true (by omega)
   simp -implicitDefEqProofs [hRl,hRd,hati,c1,g',hz]
  ·rw [if_neg g] at eR
   subst eR
   have g':(200000<((b.length-at':Nat):Int))=False:=eq_false (by omega)
   simp -implicitDefEqProofs [hRl,hRd,hati,c1,g',hrow]
   exact ⟨by omega,by unfold maxLen;omega⟩
 rw [if_neg f4] at eR
 have f4':(fr=4)=False:=eq_false f4
 by_cases g:200000<ln
 ·rw [if_pos g] at eR
  subst eR
  have g':(200000<(ln:Int))=True:=eq_true (by omega)
  simp -implicitDefEqProofs [hRl,hati,c1,f0',f1',f3',f4',g',hz]
 rw [if_neg g] at eR
 have g':(200000<(ln:Int))=False:=eq_false (by omega)
 have w1:IntKind.i64.wrap ((at':Int)+(ln:Int))=(at':Int)+(ln:Int):=wrapS _ (by omega)
 have em:(min (ln:Int) ((b.length-at':Nat):Int)).toNat=min ln (b.length-at'):=by omega
 simp -implicitDefEqProofs [hRl,hRd,hati,c1,f0',f1',f3',f4',g',w1,em]
 refine ⟨⟨by omega,by omega⟩,⟨by omega,by unfold maxLen;omega⟩,fun q=>?_,fun q=>⟨fun q2=>?_,fun q2=>?_⟩⟩
 ·rw [if_pos q] at eR
  subst eR
  simp [hrow]
 ·rw [if_neg (by omega),if_pos q2] at eR
  subst eR
  simp [hrow]
 ·rw [if_neg (by omega),if_neg (by omega)] at eR
  subst eR
  simp [hrow]
theorem ansF_hs (b:List UInt8):(ansF b).1.hs.length≤1000000000:=by
 unfold ansF
 split
 ·exact Nat.zero_le _
 ·rename_i h
  split
  ·exact Nat.zero_le _
  ·have h1:=(topR_le b).2
   have key:∀t:Ans,∀at':Nat,t.hs.length≤1000000000→(ansG b t at').1.hs.length≤1000000000:=by
    intro t at' ht
    unfold ansG
    repeat' split
    all_goals first | exact ht | exact Nat.zero_le _
   exact key _ _ (by omega)
def toldF (b:List UInt8):Int×List UInt8:=
 if (ansF b).2.2.2≠0 then (0,[])
 else if (mediaF (ansF b).1.hs).2.1=true∧wordB (mediaF (ansF b).1.hs).1.mt 40=true then ((ansF b).1.st,(mediaF (ansF b).1.hs).1.mt) else ((ansF b).1.st,[])
theorem index_told (b:List UInt8):ACalls Tryz.prog 45 [.one (fileB b)] (.tup [.one (.int .i64 (toldF b).1),.one (.str (toldF b).2)]):=by
 have hrow:∀a:Ans,a.row=[.int .i64 a.st,.str a.re,.list 2 (a.hs.map Head.row),fileB a.ct]:=fun _=>rfl
 have hrowM:∀m:Med,m.row=[.str m.mt,.str m.set]:=fun _=>rfl
 obtain ⟨R,eR⟩:∃R,R=toldF b:=⟨_,rfl⟩
 rw [←eR]
 unfold toldF at eR
 have k1:=message_ReadAnswer b
 have k2:=message_MediaOf (ansF b).1.hs (ansF_hs b)
 generalize ansF b=A at *
 obtain ⟨t,fr,at',f⟩:=A
 dsimp only at *
 rw [hrow] at k1
 rw [hrowM] at k2
 generalize mediaF t.hs=M at *
 obtain ⟨⟨mt,st⟩,mb,mf⟩:=M
 dsimp only at *
 have k3:=isWord mt 40
 refine ACalls.of mixed (fn:=Tryz.f45) (by kernel_rfl) (by kernel_rfl) rfl (by kernel_rfl) (by simp [Tryz.f45]) (fun hok=>?_)
 simp -implicitDefEqProofs
 refine ACallK.of k1 ?_
 by_cases hf:f=0
 rotate_left
 ·rw [if_pos hf] at eR
  subst eR
  have hf':(f=0)=False:=eq_false hf
  simp -implicitDefEqProofs [hf']
 rw [if_neg (by simp [hf])] at eR
 subst hf
 simp -implicitDefEqProofs
 refine ACallK.of k2 ?_
 cases mb
 ·rw [if_neg (by simp)] at eR
  subst eR
  simp -implicitDefEqProofs
  refine ACallGS.of (fun h=>by cases h) (r:=.x (.one (.bool false))) rfl ?_
  simp -implicitDefEqProofs
 ·simp -implicitDefEqProofs
  refine ACallGS.of (fun _=>k3) rfl ?_
  cases hw:wordB mt 40
  ·rw [if_neg (by simp [hw])] at eR
   subst eR
   simp -implicitDefEqProofs
  ·rw [if_pos ⟨rfl,hw⟩] at eR
   subst eR
   simp -implicitDefEqProofs
end Go.Proofs.YtlcmnclbljedfaaGreatDoor
namespace Go.Proofs.YtlcmnclbljedfaaGreatDoor
open Go Go.Ab Go.RowKit Go.Lib
variable [Amb] [HasInt 0] [HasPow10 Tryz.prog]
set_option maxRecDepth 1000000 in
set_option maxHeartbeats 4000000 in
theorem isNaN_calls (x:Int) (w:World):Calls Tryz.prog 169 #[.int .i64 x] w fun e w'=>e=.returned (.bool false)∧w'=w:=by
 go_enter Tryz.func169,Tryz.ntmps169
 go_wp2
 go_ret
 exact ⟨rfl,rfl⟩
set_option maxRecDepth 1000000 in
set_option maxHeartbeats 4000000 in
theorem cmpCompare_calls (x y:Int) (w:World):Calls Tryz.prog 95 #[.int .i64 x,.int .i64 y] w fun e w'=>e=.returned (.int .i64 (Lib.compareInt x y))∧w'=w:=by
 go_enter Tryz.func95,Tryz.ntmps95
 go_wp2_with fail
 refine (isNaN_calls x w).mono ?_
 rintro e w' ⟨rfl,rfl⟩
 dsimp only
 go_wp2_with fail
 refine (isNaN_calls y w').mono ?_
 rintro e w' ⟨rfl,rfl⟩
 dsimp only
 go_wp2_with fail
 all_goals (go_ret;refine ⟨?_,rfl⟩;unfold Lib.compareInt;(repeat' split)<;>first | rfl | (exfalso;omega))
set_option maxRecDepth 1000000 in
set_option maxHeartbeats 4000000 in
theorem or_calls (a b c d:Int) (blk:Nat) (w:World) (h0:w.cell? ⟨blk,0,none⟩=some (.int .i64 a)) (h1:w.cell? ⟨blk,1,none⟩=some (.int .i64 b)) (h2:w.cell? ⟨blk,2,none⟩=some (.int .i64 c)) (h3:w.cell? ⟨blk,3,none⟩=some (.int .i64 d)) :
  Calls Tryz.prog 93 #[.slice (some ⟨blk,0,none⟩) 4 4] w fun e w'=>e=.returned (.int .i64 (firstNZ [a,b,c,d]))∧w'=w:=by
 go_enter Tryz.func93,Tryz.ntmps93
 go_wp2_with fail
 by_cases ca:a=0
 ·subst ca
  by_cases cb:b=0
  ·subst cb
   by_cases cc:c=0
   ·subst cc
    by_cases cd:d=0
    ·subst cd
     refine wp_loop_rounds 5 ?_
     rw [rounds_succ];go_wp2
     rw [rounds_succ];go_wp2
     rw [rounds_succ];go_wp2
     rw [rounds_succ];go_wp2
     rw [rounds_succ];go_wp2
     go_ret
     exact ⟨by simp [firstNZ, *],rfl⟩
    ·refine wp_loop_rounds 4 ?_
     rw [rounds_succ];go_wp2
     rw [rounds_succ];go_wp2
     rw [rounds_succ];go_wp2
     rw [rounds_succ];go_wp2
     go_ret
     exact ⟨by simp [firstNZ, *],rfl⟩
   ·refine wp_loop_rounds 3 ?_
    rw [rounds_succ];go_wp2
    rw [rounds_succ];go_wp2
    rw [rounds_succ];go_wp2
    go_ret
    exact ⟨by simp [firstNZ, *],rfl⟩
  ·refine wp_loop_rounds 2 ?_
   rw [rounds_succ];go_wp2
   rw [rounds_succ];go_wp2
   go_ret
   exact ⟨by simp [firstNZ, *],rfl⟩
 ·refine wp_loop_rounds 1 ?_
  rw [rounds_succ];go_wp2
  go_ret
  exact ⟨by simp [firstNZ, *],rfl⟩
theorem cmpS_calls (a b:List UInt8) (w:World):Calls Tryz.prog 94 #[.string ⟨a.toArray⟩,.string ⟨b.toArray⟩] w fun e w'=>e=.returned (.int .i64 (Lib.compareBytes a b))∧w'=w:=
 Any.strings_Compare layn106 ⟨a.toArray⟩ ⟨b.toArray⟩ w
set_option maxRecDepth 1000000 in
set_option maxHeartbeats 4000000 in
theorem compare_calls (x0 x1 x2 x3 x4 y0 y1 y2 y3 y4:Value) (ka kb fa fb:List UInt8) (ta tb la lb:Int) (w:World) :
  Calls Tryz.prog 47 #[.agg #[.string ⟨ka.toArray⟩,.int .i64 ta,x0,x1,x2,.string ⟨fa.toArray⟩,.int .i64 la,x3,x4],.agg #[.string ⟨kb.toArray⟩,.int .i64 tb,y0,y1,y2,.string ⟨fb.toArray⟩,.int .i64 lb,y3,y4]] w fun e w' =>
   e=.returned (.int .i64 (firstNZ [Lib.compareBytes ka kb,Lib.compareInt ta tb,Lib.compareBytes fa fb,Lib.compareInt la lb]))∧∃q os',w'=Go.Sort.grow (w.drewN q) os':=by
 go_enter Tryz.func47,Tryz.ntmps47
 go_wp2_with fail
 obtain ⟨oa,eoa⟩:∃oa,oa=Obj.cells #[Value.string ⟨ka.toArray⟩,.int .i64 ta,x0,x1,x2,.string ⟨fa.toArray⟩,.int .i64 la,x3,x4] 36:=⟨_,rfl⟩
 obtain ⟨ob,eob⟩:∃ob,ob=Obj.cells #[Value.string ⟨kb.toArray⟩,.int .i64 tb,y0,y1,y2,.string ⟨fb.toArray⟩,.int .i64 lb,y3,y4] 36:=⟨_,rfl⟩
 rw [←eoa,←eob]
 obtain ⟨V,eV⟩:∃V,V=((w.alloc oa).alloc ob).drew:=⟨_,rfl⟩
 have hA:V.heap[w.heap.size]?=some oa:=by
  rw [eV]
  show ((w.heap.push oa).push ob)[w.heap.size]?=some oa
  rw [Array.getElem?_push,if_neg (by rw [Array.size_push];omega),Array.getElem?_push,if_pos rfl]
 have hB:V.heap[w.heap.size+1]?=some ob:=by
  rw [eV]
  show ((w.heap.push oa).push ob)[w.heap.size+1]?=some ob
  rw [Array.getElem?_push,if_pos (by rw [Array.size_push])]
 have ca:∀j,V.cell? ⟨w.heap.size,j,none⟩=(#[Value.string ⟨ka.toArray⟩,.int .i64 ta,x0,x1,x2,.string ⟨fa.toArray⟩,.int .i64 la,x3,x4])[j]?:=fun j=>by unfold World.cell?;rw [hA,eoa];rfl
 have cb:∀j,V.cell? ⟨w.heap.size+1,j,none⟩=(#[Value.string ⟨kb.toArray⟩,.int .i64 tb,y0,y1,y2,.string ⟨fb.toArray⟩,.int .i64 lb,y3,y4])[j]?:=fun j=>by unfold World.cell?;rw [hB,eob];rfl
 have a0:V.cell? ⟨w.heap.size,0,none⟩=some (.string ⟨ka.toArray⟩):=ca 0
 have a1:V.cell? ⟨w.heap.size,1,none⟩=some (.int .i64 ta):=ca 1
 have a5:V.cell? ⟨w.heap.size,5,none⟩=some (.string ⟨fa.toArray⟩):=ca 5
 have a6:V.cell? ⟨w.heap.size,6,none⟩=some (.int .i64 la):=ca 6
 have b0:V.cell? ⟨w.heap.size+1,0,none⟩=some (.string ⟨kb.toArray⟩):=cb 0
 have b1:V.cell? ⟨w.heap.size+1,1,none⟩=some (.int .i64 tb):=cb 1
 have b5:V.cell? ⟨w.heap.size+1,5,none⟩=some (.string ⟨fb.toArray⟩):=cb 5
 have b6:V.cell? ⟨w.heap.size+1,6,none⟩=some (.int .i64 lb):=cb 6
 clear ca cb hA hB
 refine wp_region_still_tail 22 (by kernel_rfl) (by kernel_rfl) ?_
 simp only [List.take_succ_cons,List.take_zero,List.drop_succ_cons,List.drop_zero]
 have eV':({ (w.alloc oa).alloc ob with drawn:=((w.alloc oa).alloc ob).drawn+1 }:World)=V:=eV.symm
 rw [eV']
 have eV2:Hid (V=((w.alloc oa).alloc ob).drew):=eV
 clear eV eV' eoa eob
 repeat still_step
 still_call (cmpS_calls ka kb V)
 repeat still_step
 still_call (cmpCompare_calls ta tb V)
 repeat still_step
 still_call (cmpS_calls fa fb V)
 repeat still_step
 still_call (cmpCompare_calls la lb V)
 refine wpStill_nil ?_
 go_wp2_with fail
 have hO:∀(o:Obj) (cs:Array Value) (t:TypeId),o=.cells cs t→∀j,(V.alloc o).cell? ⟨V.heap.size,j,none⟩=cs[j]?:=by
  intro o cs t ho j
  have:(V.alloc o).heap[V.heap.size]?=some o:=by
   show (V.heap.push o)[V.heap.size]?=some o
   rw [Array.getElem?_push,if_pos rfl]
  unfold World.cell?
  rw [this,ho]
  rfl
 refine (or_calls _ _ _ _ V.heap.size _ (hO _ _ _ rfl 0) (hO _ _ _ rfl 1) (hO _ _ _ rfl 2) (hO _ _ _ rfl 3)).mono ?_
 rintro e w' ⟨rfl,rfl⟩
 dsimp only
 go_wp2_with fail
 go_ret
 refine ⟨rfl,?_⟩
 refine ⟨1,#[oa,ob,Obj.cells #[.int .i64 (Lib.compareBytes ka kb),.int .i64 (Lib.compareInt ta tb),.int .i64 (Lib.compareBytes fa fb),.int .i64 (Lib.compareInt la lb)] 3],?_⟩
 rw [eV2.out]
 simp only [Go.Sort.grow,World.alloc,World.drew,World.drewN,Array.push_eq_append,Array.append_assoc]
 rfl
end Go.Proofs.YtlcmnclbljedfaaGreatDoor
namespace Go.Proofs.YtlcmnclbljedfaaGreatDoor
open Go
set_option maxRecDepth 100000
def renSlF0n6:Go.Shelf.Ren:=⟨fun x=>if x=6 then 46 else if x=14 then 91 else if x=15 then 92 else if x=20 then 158 else if x=21 then 159 else if x=22 then 160 else if x=23 then 161 else if x=24 then 162 else if x=25 then 163 else if x=26 then 164 else if x=27 then 165 else if x=28 then 166 else if x=29 then 167 else if x=46 then 240 else if x=47 then 241 else if x=48 then 242 else if x=49 then 243 else if x=50 then 244 else if x=57 then 284 else x,fun x=>if x=0 then 0 else if x=3 then 3 else if x=4 then 4 else if x=5 then 5 else if x=9 then 9 else if x=22 then 22 else if x=24 then 36 else if x=25 then 107 else if x=39 then 165 else if x=45 then 226 else if x=46 then 227 else if x=50 then 188 else if x=53 then 233 else if x=55 then 156 else if x=66 then 276 else if x=70 then 280 else if x=76 then 307 else if x=77 then 308 else x,fun x=>x⟩
theorem laySlF0n6:Go.Proofs.SlLaysF0.n6 Tryz.prog renSlF0n6 where
 mixed:=by kernel_rfl
 f6:=⟨Tryz.f46.name,by kernel_rfl,Tryz.func46.trans (congrArg some (by kernel_rfl))⟩
 f14:=⟨Tryz.f91.name,by kernel_rfl,Tryz.func91.trans (congrArg some (by kernel_rfl))⟩
 f15:=Tryz.func92.trans (congrArg some (by kernel_rfl))
 f20:=⟨Tryz.f158.name,by kernel_rfl,Tryz.func158.trans (congrArg some (by kernel_rfl))⟩
 f21:=⟨Tryz.f159.name,by kernel_rfl,Tryz.func159.trans (congrArg some (by kernel_rfl))⟩
 f22:=⟨Tryz.f160.name,by kernel_rfl,Tryz.func160.trans (congrArg some (by kernel_rfl))⟩
 f23:=⟨Tryz.f161.name,by kernel_rfl,Tryz.func161.trans (congrArg some (by kernel_rfl))⟩
 f24:=⟨Tryz.f162.name,by kernel_rfl,Tryz.func162.trans (congrArg some (by kernel_rfl))⟩
 f25:=⟨Tryz.f163.name,by kernel_rfl,Tryz.func163.trans (congrArg some (by kernel_rfl))⟩
 f26:=⟨Tryz.f164.name,by kernel_rfl,Tryz.func164.trans (congrArg some (by kernel_rfl))⟩
 f27:=⟨Tryz.f165.name,by kernel_rfl,Tryz.func165.trans (congrArg some (by kernel_rfl))⟩
 f28:=Tryz.func166.trans (congrArg some (by kernel_rfl))
 f29:=Tryz.func167.trans (congrArg some (by kernel_rfl))
 f46:=⟨Tryz.f240.name,by kernel_rfl,Tryz.func240.trans (congrArg some (by kernel_rfl))⟩
 f47:=Tryz.func241.trans (congrArg some (by kernel_rfl))
 f48:=Tryz.func242.trans (congrArg some (by kernel_rfl))
 f49:=⟨Tryz.f243.name,by kernel_rfl,Tryz.func243.trans (congrArg some (by kernel_rfl))⟩
 f50:=⟨Tryz.f244.name,by kernel_rfl,Tryz.func244.trans (congrArg some (by kernel_rfl))⟩
 f57:=⟨Tryz.f284.name,by kernel_rfl,Tryz.func284.trans (congrArg some (by kernel_rfl))⟩
 t0:=Tryz.underlying0
 a0:=Tryz.isAgg0
 z0:=Tryz.sizeOf0
 v0:=Tryz.zeroValue0
 t3:=Tryz.underlying3
 a3:=Tryz.isAgg3
 z3:=Tryz.sizeOf3
 v3:=Tryz.zeroValue3
 t4:=Tryz.underlying4
 a4:=Tryz.isAgg4
 z4:=Tryz.sizeOf4
 v4:=Tryz.zeroValue4
 t5:=Tryz.underlying5
 a5:=Tryz.isAgg5
 z5:=Tryz.sizeOf5
 v5:=Tryz.zeroValue5
 t9:=Tryz.underlying9
 a9:=Tryz.isAgg9
 z9:=Tryz.sizeOf9
 v9:=Tryz.zeroValue9
 t22:=Tryz.underlying22
 a22:=Tryz.isAgg22
 z22:=Tryz.sizeOf22
 v22:=Tryz.zeroValue22
 t25:=Tryz.underlying107
 a25:=Tryz.isAgg107
 z25:=Tryz.sizeOf107
 v25:=Tryz.zeroValue107
 t39:=Tryz.underlying165
 a39:=Tryz.isAgg165
 z39:=Tryz.sizeOf165
 v39:=Tryz.zeroValue165
 t45:=Tryz.underlying226
 a45:=Tryz.isAgg226
 z45:=Tryz.sizeOf226
 v45:=Tryz.zeroValue226
 t46:=Tryz.underlying227
 a46:=Tryz.isAgg227
 z46:=Tryz.sizeOf227
 v46:=Tryz.zeroValue227
 t50:=Tryz.underlying188
 a50:=Tryz.isAgg188
 z50:=Tryz.sizeOf188
 v50:=Tryz.zeroValue188
 t53:=Tryz.underlying233
 a53:=Tryz.isAgg233
 z53:=Tryz.sizeOf233
 v53:=Tryz.zeroValue233
 t55:=Tryz.underlying156
 a55:=Tryz.isAgg156
 z55:=Tryz.sizeOf156
 v55:=Tryz.zeroValue156
 t66:=Tryz.underlying276
 a66:=Tryz.isAgg276
 z66:=Tryz.sizeOf276
 v66:=Tryz.zeroValue276
 t70:=Tryz.underlying280
 a70:=Tryz.isAgg280
 z70:=Tryz.sizeOf280
 v70:=Tryz.zeroValue280
 t76:=Tryz.underlying307
 a76:=Tryz.isAgg307
 z76:=Tryz.sizeOf307
 v76:=Tryz.zeroValue307
 t77:=Tryz.underlying308
 a77:=Tryz.isAgg308
 z77:=Tryz.sizeOf308
 v77:=Tryz.zeroValue308
end Go.Proofs.YtlcmnclbljedfaaGreatDoor
namespace Go.Proofs.YtlcmnclbljedfaaGreatDoor
open Go Go.Ab Go.RowKit Go.Lib Go.Sort
section
variable [Amb] {α:Type} [Inhabited α]
theorem flatK_list (enc:α→List Value) (k:Nat) (h0:0<k) (hk:∀x,(enc x).length=k) (d:Array α):(flatK enc k d).toList=(d.toList.map enc).flatten:=by
 apply List.ext_getElem?
 intro t
 rw [flatten_div h0 (fun x hx=>by obtain ⟨y,_,rfl⟩:=List.mem_map.1 hx;exact hk y)]
 by_cases ht:t<d.size*k
 ·have h1:t / k<d.size:=Nat.div_lt_of_lt_mul (by rw [Nat.mul_comm];exact ht)
  have h2:t % k<k:=Nat.mod_lt _ h0
  have e1:(flatK enc k d).toList[t]?=some ((flatK enc k d)[t]!):=by
   rw [Array.getElem?_toList,Array.getElem?_eq_getElem (by simpa using ht),getElem!_pos _ t (by simpa using ht)]
  rw [e1,get_flatK enc k d t ht,List.getElem?_map,Array.getElem?_toList,Array.getElem?_eq_getElem h1,getElem!_pos d _ h1]
  show _=(enc d[t / k])[t % k]?
  rw [List.getElem?_eq_getElem (by rw [hk];exact h2),getElem!_pos _ _ (by rw [hk];exact h2)]
 ·have h1:d.size≤t / k:=(Nat.le_div_iff_mul_le h0).2 (by omega)
  rw [List.getElem?_eq_none (by simp only [Array.length_toList,size_flatK];omega),List.getElem?_map,Array.getElem?_toList,Array.getElem?_eq_none h1]
  rfl
theorem sortWorldK_row (enc:α→List Value) (k:Nat) (w:World) (g n:Nat) (d:Array α) (os:Array Obj) (cur:Array Value) (t:TypeId) (fz:Nat×Nat) (hg:w.heap[g]?=some (.cells cur t fz)) :
  (sortWorldK enc k w g 0 n d os).heap[g]?=some (.cells (putCells id 0 (flatK enc k d) cur) t fz):=by
 have hlt:=(Array.getElem?_eq_some_iff.1 hg).1
 show ((w.heap.modify g (onCells (putCells id 0 (flatK enc k d))))++os)[g]?=_
 rw [Array.getElem?_append_left (by simpa using hlt),Array.getElem?_modify,if_pos rfl,hg]
 rfl
theorem sortWorldK_other (enc:α→List Value) (k:Nat) (w:World) (g n:Nat) (d:Array α) (os:Array Obj) (j:Nat) (hj:j<w.heap.size) (hne:j≠g) :
  (sortWorldK enc k w g 0 n d os).heap[j]?=w.heap[j]?:=by
 show ((w.heap.modify g (onCells (putCells id 0 (flatK enc k d))))++os)[j]?=_
 rw [Array.getElem?_append_left (by simpa using hj),Array.getElem?_modify,if_neg (fun h=>hne h.symm)]
theorem putCells_size (F cur:Array Value):(putCells id 0 F cur).size=cur.size:=by simp [putCells]
theorem putCells_take (F cur:Array Value) (h:F.size≤cur.size):(putCells id 0 F cur).toList.take F.size=F.toList:=by
 apply List.ext_getElem?
 intro t
 rw [List.getElem?_take]
 by_cases ht:t<F.size
 ·rw [if_pos ht,Array.getElem?_toList,Array.getElem?_toList]
  unfold putCells
  rw [Array.getElem?_mapIdx,Array.getElem?_eq_getElem (by omega),Array.getElem?_eq_getElem ht]
  simp [ht,getElem!_pos F t ht]
 ·rw [if_neg ht,List.getElem?_eq_none (by simp;omega)]
end
variable [Amb] [HasInt 0] [HasPow10 Tryz.prog]
instance:Inhabited Entry:=⟨⟨[],0,0,[],[],[],0,0,false⟩⟩
def encE (e:Entry):List Value:=[.string ⟨e.key.toArray⟩,.int .i64 e.time,.int .i64 e.status,.string ⟨e.type.toArray⟩,.string ⟨e.digest.toArray⟩,.string ⟨e.file.toArray⟩,.int .i64 e.lo,.int .i64 e.hi,.bool e.same]
theorem encE_len (e:Entry):(encE e).length=9:=rfl
theorem encE_one (e:Entry):∀v∈encE e,v.oneCell'=true:=by
 intro v hv
 simp only [encE,List.mem_cons,List.not_mem_nil,or_false] at hv
 rcases hv with rfl | rfl | rfl | rfl | rfl | rfl | rfl | rfl | rfl<;>rfl
theorem cmpE_lays (w:World) (g size:Nat):CmpLays Tryz.prog 47 #[] encE 9 cmpE g 0 size w:=by
 intro m os dk hs x y
 have h:=compare_calls (.int .i64 x.status) (.string ⟨x.type.toArray⟩) (.string ⟨x.digest.toArray⟩) (.int .i64 x.hi) (.bool x.same) (.int .i64 y.status) (.string ⟨y.type.toArray⟩) (.string ⟨y.digest.toArray⟩) (.int .i64 y.hi) (.bool y.same) x.key y.key x.file y.file x.time y.time x.lo y.lo (sortWorldK encE 9 w g 0 m dk os)
 exact h
theorem row_enc {w:World} {S:Nat→Prop} (e:Entry) {j:Nat} {c:CV} {u:Value} (hc:e.row[j]?=some c) (h:RepC w S c u):(encE e)[j]?=some u:=by
 match j,hc with
 | 0,hc=>cases hc;cases h;rfl
 | 1,hc=>cases hc;cases h;rfl
 | 2,hc=>cases hc;cases h;rfl
 | 3,hc=>cases hc;cases h;rfl
 | 4,hc=>cases hc;cases h;rfl
 | 5,hc=>cases hc;cases h;rfl
 | 6,hc=>cases hc;cases h;rfl
 | 7,hc=>cases hc;cases h;rfl
 | 8,hc=>cases hc;cases h;rfl
 | j+9,hc=>simp [Entry.row] at hc
theorem rows9 (l:List Entry):∀x∈l.map Entry.row,x.length=9:=fun x hx=>by obtain ⟨e,_,rfl⟩:=List.mem_map.1 hx;rfl
theorem encs9 (l:List Entry):∀x∈l.map encE,x.length=9:=fun x hx=>by obtain ⟨e,_,rfl⟩:=List.mem_map.1 hx;rfl
theorem rep_enc {w:World} {S:Nat→Prop} {l:List Entry} {us:List Value} (h:RepL w S (l.map Entry.row).flatten us):us=(l.map encE).flatten:=by
 apply List.ext_getElem?
 intro t
 have hlen:us.length=l.length*9:=by rw [h.1,flatten_length (rows9 l),List.length_map]
 rw [flatten_div (by decide) (encs9 l)]
 by_cases ht:t<l.length*9
 ·have h1:t / 9<l.length:=by omega
  have h2:t % 9<9:=Nat.mod_lt _ (by decide)
  have hr:(l.map Entry.row).flatten[t]?=some ((l[t / 9].row)[t % 9]'(by exact h2)):=by
   rw [flatten_div (by decide) (rows9 l),List.getElem?_map,List.getElem?_eq_getElem h1]
   exact List.getElem?_eq_getElem _
  obtain ⟨u,hu,hc⟩:=h.2 t _ hr
  rw [hu,List.getElem?_map,List.getElem?_eq_getElem h1]
  exact (row_enc l[t / 9] (List.getElem?_eq_getElem _) hc).symm
 ·rw [List.getElem?_eq_none (by omega),List.getElem?_map,List.getElem?_eq_none (by omega:l.length≤t / 9)]
  rfl
theorem rep_of {w w':World} {S S':Nat→Prop} {l l':List Entry} {us:List Value} (h:RepL w S (l.map Entry.row).flatten us) (hm:∀e∈l',e∈l):RepL w' S' (l'.map Entry.row).flatten (l'.map encE).flatten:=by
 have flat:∀(e:Entry),e∈l→∀(j:Nat) (c:CV),e.row[j]?=some c→∃u,(encE e)[j]?=some u∧RepC w' S' c u:=by
  intro e he j c hc
  obtain ⟨i,hi,rfl⟩:=List.mem_iff_getElem.1 he
  have hj:j<9:=by
   have:=(List.getElem?_eq_some_iff.1 hc).1
   exact this
  have hr:(l.map Entry.row).flatten[i*9+j]?=some c:=by
   rw [flatten_div (by decide) (rows9 l),show (i*9+j) / 9=i by omega,show (i*9+j) % 9=j by omega,List.getElem?_map,List.getElem?_eq_getElem hi]
   exact hc
  obtain ⟨u,_,hu⟩:=h.2 _ _ hr
  refine ⟨u,row_enc _ hc hu,?_⟩
  match j,hc with
  | 0,hc=>cases hc;cases hu;exact .str _ ‹_›
  | 1,hc=>cases hc;cases hu;exact .int _ _
  | 2,hc=>cases hc;cases hu;exact .int _ _
  | 3,hc=>cases hc;cases hu;exact .str _ ‹_›
  | 4,hc=>cases hc;cases hu;exact .str _ ‹_›
  | 5,hc=>cases hc;cases hu;exact .str _ ‹_›
  | 6,hc=>cases hc;cases hu;exact .int _ _
  | 7,hc=>cases hc;cases hu;exact .int _ _
  | 8,hc=>cases hc;cases hu;exact .bool _
  | j+9,hc=>omega
 refine ⟨?_,fun t c ht=>?_⟩
 ·rw [flatten_length (rows9 l'),List.length_map]
  have:∀m:List Entry,(m.map encE).flatten.length=m.length*9:=by
   intro m
   induction m with
   | nil=>rfl
   | cons x r ih=>simp only [List.map_cons,List.flatten_cons,List.length_append,ih,encE_len,List.length_cons];omega
  exact this l'
 ·rw [flatten_div (by decide) (rows9 l')] at ht
  rw [flatten_div (by decide) (encs9 l')]
  rw [List.getElem?_map] at ht ⊢
  cases he:l'[t / 9]? with
  | none=>rw [he] at ht;cases ht
  | some e =>
   rw [he] at ht
   exact flat e (hm e (List.mem_of_getElem? he)) _ _ ht
theorem ltB_weak {a b c:List UInt8} (h:ltB a c=true):ltB a b=true∨ltB b c=true:=by
 by_cases h1:ltB a b=true
 ·exact .inl h1
 ·right
  have h1:ltB a b=false:=by simpa using h1
  by_cases h2:ltB b a=true
  ·exact ltB_trans h2 h
  ·have:=ltB_total h1 (by simpa using h2)
   rw [←this];exact h
theorem swoE:SWO (ltOf cmpE) where
 irrefl:=fun x=>by
  unfold ltOf
  rw [decide_eq_false_iff_not,cmpE_neg]
  unfold Before
  have:=ltB_irrefl x.key
  have:=ltB_irrefl x.file
  simp [*]
 trans:=fun x y z h1 h2=>by
  unfold ltOf at *
  rw [decide_eq_true_iff,cmpE_neg] at *
  exact h1.trans h2
 ntrans:=fun x y z h1 h2=>by
  unfold ltOf at *
  rw [decide_eq_false_iff_not,cmpE_neg] at *
  intro h
  unfold Before at *
  rcases h with h | ⟨e1,h⟩
  ·rcases ltB_weak (b:=y.key) h with k | k
   ·exact h1 (.inl k)
   ·exact h2 (.inl k)
  have k1:ltB x.key y.key=false:=by
   cases hh:ltB x.key y.key
   ·rfl
   ·exact absurd (.inl hh) h1
  have k2:ltB y.key z.key=false:=by
   cases hh:ltB y.key z.key
   ·rfl
   ·exact absurd (.inl hh) h2
  have hk:x.key=y.key:=ltB_total k1 (by rw [e1];exact k2)
  have h1':=fun q=>h1 (.inr ⟨hk,q⟩)
  have h2':=fun q=>h2 (.inr ⟨hk.symm.trans e1,q⟩)
  rcases h with h | ⟨e2,h⟩
  ·by_cases t1:x.time<y.time
   ·exact h1' (.inl t1)
   ·exact h2' (.inl (by omega))
  have t1:¬x.time<y.time:=fun q=>h1' (.inl q)
  have t2:¬y.time<z.time:=fun q=>h2' (.inl q)
  have ht:x.time=y.time:=by omega
  have h1'':=fun q=>h1' (.inr ⟨ht,q⟩)
  have h2'':=fun q=>h2' (.inr ⟨ht.symm.trans e2,q⟩)
  rcases h with h | ⟨e3,h⟩
  ·rcases ltB_weak (b:=y.file) h with k | k
   ·exact h1'' (.inl k)
   ·exact h2'' (.inl k)
  have k3:ltB x.file y.file=false:=by
   cases hh:ltB x.file y.file
   ·rfl
   ·exact absurd (.inl hh) h1''
  have k4:ltB y.file z.file=false:=by
   cases hh:ltB y.file z.file
   ·rfl
   ·exact absurd (.inl hh) h2''
  have hf:x.file=y.file:=ltB_total k3 (by rw [e3];exact k4)
  have g1:¬x.lo<y.lo:=fun q=>h1'' (.inr ⟨hf,q⟩)
  have g2:¬y.lo<z.lo:=fun q=>h2'' (.inr ⟨hf.symm.trans e3,q⟩)
  omega
theorem extract_all {α:Type} (d:Array α) {n:Nat} (h:d.size=n):d.extract 0 n=d:=by subst h;exact Array.extract_size
def sortE (l:List Entry):List Entry:=(pdq (ltOf cmpE) l.toArray 0 l.length (Lib.bitLen l.length) true true).toList
theorem sortE_spec (l:List Entry):(sortE l).Perm l∧∀(i j:Nat) (hij:i<j) (hj:j<(sortE l).length),¬Before (sortE l)[j] ((sortE l)[i]'(Nat.lt_trans hij hj)):=by
 have h:=pdq_sorts (ltOf cmpE) swoE l.toArray 0 l.length (Lib.bitLen l.length) true true (Nat.zero_le _) (by simp) (.inl rfl)
 have hs:(pdq (ltOf cmpE) l.toArray 0 l.length (Lib.bitLen l.length) true true).size=l.length:=by rw [h.1.1];simp
 have e1:(pdq (ltOf cmpE) l.toArray 0 l.length (Lib.bitLen l.length) true true).extract 0 l.length=pdq (ltOf cmpE) l.toArray 0 l.length (Lib.bitLen l.length) true true:=extract_all _ hs
 have e2:l.toArray.extract 0 l.length=l.toArray:=extract_all _ (by simp)
 have hp:=h.1.2.2
 rw [e1,e2] at hp
 refine ⟨hp,fun i j hij hj=>?_⟩
 have hj':j<l.length:=by unfold sortE at hj;rw [Array.length_toList,hs] at hj;exact hj
 have h2:=h.2 i j (Nat.zero_le _) hij hj'
 rw [getElem!_pos _ j (by rw [hs];exact hj'),getElem!_pos _ i (by rw [hs];omega)] at h2
 unfold ltOf at h2
 rw [decide_eq_false_iff_not,cmpE_neg] at h2
 exact h2
theorem sort_calls (w:World) (g cap:Nat) (l:List Entry) (hH:HoldsK encE 9 w g 0 l.toArray) (hblk:g<w.heap.size) (hl:l.length≤1000000) :
  Calls Tryz.prog 46 #[.slice (some ⟨g,0,none⟩) l.length cap,.func (.func 47) #[] #[]] w fun e w' =>
   e=.returned (.tuple #[])∧∃n os,w'=sortWorldK encE 9 w g 0 n (sortE l).toArray os:=by
 have h:=AnyQ.slices_SortFunc_eq laySlF0n6 9 (fun w=>Tryz.isAgg36 w) (fun w=>Tryz.sizeOf36 w) encE encE_len encE_one cmpE swoE 47 #[] g 0 cap l.toArray w (enters_of Tryz.func47 (by kernel_rfl) rfl) (cmpE_lays w g _) hH hblk (by simp only [List.size_toArray];omega)
 refine h.mono ?_
 rintro e w' ⟨he,n,os,hw⟩
 exact ⟨he,n,os,by rw [hw];unfold sortE;simp⟩
theorem sort_none (w:World) (cap:Nat) (p:Option Go.Addr) :
  Calls Tryz.prog 46 #[.slice p 0 cap,.func (.func 47) #[] #[]] w fun e w'=>e=.returned (.tuple #[])∧w'=w:=
 AnyF.slices_SortFunc_none laySlF0n6 p cap _ w
theorem slices_SortFuncE (l:List Entry) (hl:l.length≤1000000) :
  ACallsM Tryz.prog 46 [.own 36 9 (l.map Entry.row),.x (funcV 47)] (.tup []) [.own 36 9 ((sortE l).map Entry.row),.dead]:=by
 refine ⟨(callable_of Tryz.f46 (by kernel_rfl) (by kernel_rfl) rfl),rfl,fun w E vs hE hM=>?_⟩
 have h0:=(hM.rep 0 _ rfl).2
 have h1:RepC w E.rd (.atom (.func (.func 47) #[] #[])) (tmV vs 1):=(hM.rep 1 _ rfl).2
 have e1:tmV vs 1=.func (.func 47) #[] #[]:=by generalize tmV vs 1=u at h1;cases h1;rfl
 have hvs:vs=#[tmV vs 0,tmV vs 1]:=by
  have hsz:=hM.size
  simp only [List.length_cons,List.length_nil] at hsz
  have:1<vs.size:=by
   rcases Nat.lt_or_ge 1 vs.size with h | h
   ·exact h
   ·exfalso
    have:tmV vs 1=undef:=by simp [tmV,Array.getD_eq_getD_getElem?,Array.getElem?_eq_none h]
    rw [this] at e1;cases e1
  apply Array.ext
  ·simp;omega
  ·intro j hj1 hj2
   have hj3:j<2:=by simpa using hj2
   match j,hj3 with
   | 0,_=>simp [tmV,Array.getD_eq_getD_getElem?,Array.getElem?_eq_getElem hj1]
   | 1,_=>simp [tmV,Array.getD_eq_getD_getElem?,Array.getElem?_eq_getElem hj1]
 obtain ⟨us,ho,hr,hx,hm,hB⟩:=h0
 have hll:(l.map Entry.row).length=l.length:=by simp
 rw [hll] at ho hm
 have hspec:=(sortE_spec l).1
 have hsl:=hspec.length_eq
 have hen:=rep_enc hr
 rcases ho.2 with ⟨hv,hn⟩ | ⟨g,cap,cur,hv,_,⟨fz,hh,hfz⟩,hnc,hcm,hcs,htake⟩
 ·have hl0:l=[]:=List.length_eq_zero_iff.1 hn
  subst hl0
  have hs0:sortE []=[]:=List.length_eq_zero_iff.1 hsl
  rw [hs0]
  have hvs2:vs=#[.slice none 0 0,.func (.func 47) #[] #[]]:=by rw [hvs,hv,e1]
  rw [hvs2]
  refine (sort_none w 0 none).mono ?_
  rintro e w' ⟨rfl,rfl⟩
  refine ⟨_,rfl,Kept.refl _ _,⟨#[],rfl,rfl,fun j x hj=>by simp at hj⟩,?_,?_⟩
  ·intro b hb;cases hb
  ·intro j o hj
   match j,hj with
   | 0,hj =>
    cases hj
    exact ⟨[],World.ownsT_nil _ _ _ _,⟨rfl,fun j c h=>by simp at h⟩,by simp,Nat.zero_le _,fun b hb=>by cases hb⟩
   | 1,hj=>cases hj;trivial
   | j+2,hj=>simp at hj
 ·have hlent:E.lent g:=hB g (by rw [hv];rfl)
  have hgl:=(Array.getElem?_eq_some_iff.1 hh).1
  have hF:(flatK encE 9 l.toArray).toList=us:=by rw [flatK_list encE 9 (by decide) encE_len,hen]
  have hFs:(flatK encE 9 l.toArray).size=l.length*9:=by simp
  have hcl:cur.toList.length=cap*9:=by simpa using hcs
  have hH:HoldsK encE 9 w g 0 l.toArray:=by
   intro j hj
   rw [hFs] at hj
   have hcj:w.cell? ⟨g,0+j,none⟩=cur[j]?:=by
    rw [Nat.zero_add];exact cell_of_row w g j cur _ fz hh
   have e2:cur.toList[j]?=some ((flatK encE 9 l.toArray)[j]!):=by
    have:(cur.toList.take (l.length*9))[j]?=cur.toList[j]?:=by rw [List.getElem?_take,if_pos hj]
    rw [←this,htake,←hF,Array.getElem?_toList,getElem!_pos _ j (by rw [hFs];exact hj)]
    exact Array.getElem?_eq_getElem _
   refine ⟨?_,?_⟩
   ·rw [hcj,←Array.getElem?_toList,e2];rfl
   ·rcases hfz with rfl | hz
    ·simp [World.frozen?,hh]
    ·obtain ⟨lo,hi'⟩:=fz
     simp [World.frozen?,hh]
     intro h;dsimp only at hz;omega
  have hvs2:vs=#[.slice (some ⟨g,0,none⟩) l.length cap,.func (.func 47) #[] #[]]:=by rw [hvs,hv,e1]
  rw [hvs2]
  refine (sort_calls w g cap l hH hgl hl).mono ?_
  rintro e w' ⟨rfl,n,os,hw⟩
  have hrow:=sortWorldK_row encE 9 w g n (sortE l).toArray os cur _ fz hh
  have hoth:=fun j hj hne=>sortWorldK_other encE 9 w g n (sortE l).toArray os j hj hne
  have hFs2:(flatK encE 9 (sortE l).toArray).size=l.length*9:=by simp [hsl]
  have htk:=putCells_take (flatK encE 9 (sortE l).toArray) cur (by rw [hFs2];simp only [←Array.length_toList,hcl];omega)
  rw [hFs2,flatK_list encE 9 (by decide) encE_len] at htk
  have hps:=putCells_size (flatK encE 9 (sortE l).toArray) cur
  rw [←hw] at hrow hoth
  have hg1:∀b,E.rd b→b≠g:=fun b hb hbg=>by subst hbg;exact hE.apart b hb hlent
  have hsz:w.heap.size≤w'.heap.size:=by
   rw [hw]
   show w.heap.size≤((w.heap.modify g (onCells (putCells id 0 (flatK encE 9 (sortE l).toArray))))++os).size
   rw [Array.size_append,Array.size_modify];omega
  refine ⟨_,rfl,⟨by rw [hw];rfl,by rw [hw];rfl,by rw [hw];rfl,hsz,fun k hk hk2=>hoth k hk (fun e=>hk2 (by rw [e];exact hlent))⟩,⟨#[],rfl,rfl,fun j x hj=>by simp at hj⟩,?_,?_⟩
  ·intro b hb;cases hb
  ·intro j o hj
   match j,hj with
   | 0,hj =>
    cases hj
    refine ⟨((sortE l).map encE).flatten,⟨?_,.inr ⟨g,cap,_,?_,Nat.zero_le _,⟨fz,hrow,by rw [hps];exact hfz⟩,?_,hcm,by rw [hps,hcs],?_⟩⟩,rep_of hr (fun e he=>hspec.mem_iff.1 he),rows9 _,?_,?_⟩
    ·have hl3:(putCells id 0 (flatK encE 9 (sortE l).toArray) cur).toList.length=cap*9:=by rw [Array.length_toList,hps,hcs]
     rw [←htk,List.length_take,List.length_map,hsl,hl3]
     omega
    ·show Value.slice (some ⟨g,0,none⟩) l.length cap=_
     rw [List.length_map,hsl]
    ·rw [List.length_map,hsl];exact hnc
    ·rw [List.length_map,hsl];exact htk
    ·rw [List.length_map,hsl];unfold maxLen;omega
    ·intro b hb
     have hb:g=b:=by simpa [Value.ownBlock,tmV] using hb
     subst hb
     exact hlent
   | 1,hj=>cases hj;trivial
   | j+2,hj=>simp at hj
end Go.Proofs.YtlcmnclbljedfaaGreatDoor
namespace Go.Proofs.YtlcmnclbljedfaaGreatDoor
open Go Go.Ab
variable [Amb] [HasInt 0] [HasPow10 Tryz.prog]
set_option maxRecDepth 100000
set_option maxHeartbeats 8000000
theorem goF_ok (b:List UInt8):∀(n a:Nat) (L:List Rec) (M:List Mark),L.length=M.length→(goF n b a L M).2.2.2=0→fileF (goF n b a L M).1=0∧(goF n b a L M).2.1.length=(goF n b a L M).1.length
 | 0,_,_,_,_,_=>⟨rfl,rfl⟩
 | n+1,a,L,M,h,h0=>by
  unfold goF at h0 ⊢
  split at h0
  ·rename_i hlt
   rw [if_pos hlt]
   split at h0
   ·rename_i hf
    exact absurd h0 hf
   ·rename_i hf
    rw [if_neg hf]
    exact goF_ok b n _ _ _ (by simp [h]) h0
  ·rename_i hlt
   rw [if_neg hlt]
   split at h0
   ·rename_i hf
    exact absurd h0 hf
   ·rename_i hf
    rw [if_neg hf]
    exact ⟨Decidable.of_not_not hf,h.symm⟩
theorem readF_ok {b:List UInt8} (h:(readF b).2.2.2=0):fileF (readF b).1=0∧(readF b).2.1.length=(readF b).1.length:=by
 unfold readF at *
 split at h
 ·cases h
 ·rename_i hb
  rw [if_neg hb]
  exact goF_ok b _ _ _ _ rfl h
theorem joinG_len (r:Rec) (hs:List Head) (pc:Nat→List Rec):∀(k n:Nat) (b:List UInt8),(joinG r hs pc k n b).1.block.length≤200000
 | 0,n,b=>by
  unfold joinG
  split
  ·exact Nat.zero_le _
  ·rename_i h
   exact (recF_right (Decidable.of_not_not h)).block
 | k+1,n,b=>by
  unfold joinG
  split
  ·exact Nat.zero_le _
  ·exact joinG_len r hs pc k _ _
theorem joinF_len {l:List Rec} (hr:∀r∈l,recF r=0) (id:List UInt8):(joinF l id).1.block.length≤200000:=by
 unfold joinF
 split
 ·exact Nat.zero_le _
 ·rename_i h
  split
  ·exact (recF_right (hr _ (findD_mem (by cases hh:(findIx l id).isSome with | true=>rfl | false=>exact absurd (.inl hh) h)))).block
  ·split
   ·exact Nat.zero_le _
   ·exact joinG_len _ _ _ _ _ _
theorem showG_len {l:List Rec} (hr:∀r∈l,recF r=0):∀(k:Nat) (seen:List (List UInt8)) (w:List UInt8),(showG l k seen w).1.length≤200000
 | 0,_,_=>Nat.zero_le _
 | k+1,seen,w=>by
  unfold showG
  split
  ·exact Nat.zero_le _
  ·split
   ·exact Nat.zero_le _
   ·split
    ·exact showG_len hr k _ _
    ·exact joinF_len hr w
theorem showF_len (l:List Rec) (w:List UInt8):(showF l w).1.length≤200000:=by
 unfold showF
 split
 ·exact Nat.zero_le _
 ·rename_i h
  exact showG_len (fileF_ok (Decidable.of_not_not h)).2 _ _ _
def entOf (f:List UInt8) (l:List Rec) (r:Rec) (m:Mark):Entry:=
 ⟨r.key,r.time,if (showF l r.id).2=0 then (toldF (showF l r.id).1).1 else 0,if (showF l r.id).2=0 then (toldF (showF l r.id).1).2 else [],digL (showF l r.id).1,f,m.lo,m.hi,r.kind==4⟩
def entG (f:List UInt8) (l:List Rec):List Rec→List Mark→List Entry
 | r::rs,m::ms=>(if r.kind=3∨r.kind=4∨r.kind=1 then [entOf f l r m] else [])++entG f l rs ms
 | _,_=>[]
def ofFileF (f b:List UInt8):List Entry×Int:=
 if nameB f=false then ([],5)
 else if (readF b).2.2.2≠0 then ([],(readF b).2.2.2)
 else (sortE (entG f (readF b).1 (readF b).1 (readF b).2.1),0)
theorem entG_snoc (f:List UInt8) (l:List Rec):∀{rs:List Rec} {ms:List Mark} (r:Rec) (m:Mark),rs.length=ms.length→entG f l (rs++[r]) (ms++[m])=entG f l rs ms++(if r.kind=3∨r.kind=4∨r.kind=1 then [entOf f l r m] else [])
 | [],[],r,m,_=>by simp [entG]
 | a::rs,b::ms,r,m,h=>by
  simp only [List.cons_append,entG]
  rw [entG_snoc f l r m (by simpa using h),List.append_assoc]
theorem entG_le (f:List UInt8) (l:List Rec):∀(rs:List Rec) (ms:List Mark),(entG f l rs ms).length≤rs.length
 | [],_=>by unfold entG;exact Nat.zero_le _
 | _::_,[]=>by unfold entG;exact Nat.zero_le _
 | a::rs,b::ms=>by
  have:=entG_le f l rs ms
  unfold entG
  rw [List.length_append,List.length_cons]
  split<;>simp<;>omega
theorem index_OfFile (f b:List UInt8):ACalls Tryz.prog 19 [.one (.str f),.one (fileB b)] (.tup [entries (ofFileF f b).1,.one (.int .i64 (ofFileF f b).2)]):=by
 obtain ⟨R,eR⟩:∃R,R=ofFileF f b:=⟨_,rfl⟩
 rw [←eR]
 unfold ofFileF at eR
 have k1:=isName f
 have k2:=record_ReadFile b
 have k3:=record_Marks b
 have hok:=readF_ok (b:=b)
 generalize readF b=D at *
 obtain ⟨L,M,at',flt⟩:=D
 dsimp only at *
 unfold recsV at k2
 unfold marksV at k3
 refine ACalls.of mixed (fn:=Tryz.f19) (by kernel_rfl) (by kernel_rfl) rfl (by kernel_rfl) (by simp [Tryz.f19]) (fun hok=>?_)
 simp -implicitDefEqProofs
 refine ACallK.of k1 ?_
 cases hn:nameB f
 ·rw [if_pos hn] at eR
  subst eR
  simp -implicitDefEqProofs
 rw [if_neg (by simp [hn])] at eR
 simp -implicitDefEqProofs
 refine ACallK.of k2 ?_
 by_cases hf:flt=0
 rotate_left
 ·rw [if_pos hf] at eR
  subst eR
  have hf':(flt=0)=False:=eq_false hf
  simp -implicitDefEqProofs [hf']
 rw [if_neg (by simp [hf])] at eR
 subst hf
 obtain ⟨hfile,hml⟩:=hok rfl
 obtain ⟨hl1000,hrec⟩:=fileF_ok hfile
 simp -implicitDefEqProofs
 refine ACallK.of k3 ?_
 simp -implicitDefEqProofs
 refine ALoopS.of Nat (fun i=>[(0,.x (.one (.str f))),(6,.x (.one (.list 7 (L.map Rec.row)))),(9,.x (.one (.list 3 (M.map Mark.row)))),(11,.own 36 9 ((entG f L (L.take i) (M.take i)).map Entry.row)),(34,.x (.one (.list 7 (L.map Rec.row)))),(35,.x (.one (.int .i64 L.length))),(36,.x (.one (.int .i64 i)))])
  (fun i=>i≤L.length) (fun i=>L.length-i) 0 (Nat.zero_le _) ?_ ?_
 ·simp [entG]
 rintro i hi
 by_cases hlt:i<L.length
 ·have hlt':((i:Int)<(L.length:Int))=True:=eq_true (by omega)
  have hwr:IntKind.i64.wrap ((i:Int)+1)=(i:Int)+1:=wrapS _ (by omega)
  have hltM:i<M.length:=by omega
  have hrow:L[i].row=[.int .i64 L[i].kind,.str L[i].id,.str L[i].of,.int .i64 L[i].time,.str L[i].key,.list 2 (L[i].heads.map Head.row),fileB L[i].block]:=rfl
  have hrowM:M[i].row=[.str M[i].id,.int .i64 M[i].lo,.int .i64 M[i].hi]:=rfl
  have htake:L.take (i+1)=L.take i++[L[i]]:=List.take_succ_eq_append_getElem hlt
  have htakeM:M.take (i+1)=M.take i++[M[i]]:=List.take_succ_eq_append_getElem hltM
  have hsn:=entG_snoc f L (rs:=L.take i) (ms:=M.take i) L[i] M[i] (by rw [List.length_take,List.length_take];omega)
  rw [←htake,←htakeM] at hsn
  have hle:=entG_le f L (L.take i) (M.take i)
  rw [List.length_take] at hle
  have k4:=record_Shown L L[i].id (by omega)
  have hsl:=showF_len L L[i].id
  have k5:=alike_Digest (showF L L[i].id).1 (by omega)
  have k6:=index_told (showF L L[i].id).1
  have hent:entOf f L L[i] M[i]=⟨L[i].key,L[i].time,if (showF L L[i].id).2=0 then (toldF (showF L L[i].id).1).1 else 0,if (showF L L[i].id).2=0 then (toldF (showF L L[i].id).1).2 else [],digL (showF L L[i].id).1,f,M[i].lo,M[i].hi,L[i].kind==4⟩:=rfl
  generalize showF L L[i].id=S at *
  obtain ⟨sb,sf⟩:=S
  dsimp only at *
  generalize toldF sb=T at *
  obtain ⟨ts,tt⟩:=T
  dsimp only at *
  unfold recsV at k4
  by_cases hkind:L[i].kind=3∨L[i].kind=4∨L[i].kind=1
  rotate_left
  ·rw [if_neg hkind,List.append_nil] at hsn
   have q3:(L[i].kind=3)=False:=eq_false fun h=>hkind (.inl h)
   have q4:(L[i].kind=4)=False:=eq_false fun h=>hkind (.inr (.inl h))
   have q1:(L[i].kind=1)=False:=eq_false fun h=>hkind (.inr (.inr h))
   simp -implicitDefEqProofs [hlt,hlt',hrow,q3,q4,q1]
   refine Again.of (i+1) hlt (by omega) ?_
   simp [hwr,hsn]
  rw [if_pos hkind] at hsn
  rcases hkind with h | h | h
  ·have q3:(L[i].kind=3)=True:=eq_true h
   have q4:(L[i].kind=4)=False:=eq_false (by omega)
   simp -implicitDefEqProofs [hlt,hltM,hlt',hrow,hrowM,q3,q4]
   refine AltR.l ⟨by kernel_rfl,?_⟩
   simp -implicitDefEqProofs [hlt,hltM,hlt',hrow,hrowM,q3,q4]
   refine ACallK.of k4 ?_
   simp -implicitDefEqProofs
   refine ACallK.of k5 ?_
   by_cases hsf:sf=0
   ·subst hsf
    simp -implicitDefEqProofs
    refine ACallK.of k6 ?_
    simp -implicitDefEqProofs
    refine ⟨⟨by omega,by unfold maxLen;omega⟩,?_⟩
    refine Again.of (i+1) hlt (by omega) ?_
    simp [hwr,hsn,hent,Entry.row,h]
   ·have hsf':(sf=0)=False:=eq_false hsf
    simp -implicitDefEqProofs [hsf']
    refine ⟨⟨by omega,by unfold maxLen;omega⟩,?_⟩
    refine Again.of (i+1) hlt (by omega) ?_
    simp [hwr,hsn,hent,Entry.row,h,hsf']
  ·have q3:(L[i].kind=3)=False:=eq_false (by omega)
   have q4:(L[i].kind=4)=True:=eq_true h
   simp -implicitDefEqProofs [hlt,hltM,hlt',hrow,hrowM,q3,q4]
   refine AltR.l ⟨by kernel_rfl,?_⟩
   simp -implicitDefEqProofs [hlt,hltM,hlt',hrow,hrowM,q3,q4]
   refine ACallK.of k4 ?_
   simp -implicitDefEqProofs
   refine ACallK.of k5 ?_
   by_cases hsf:sf=0
   ·subst hsf
    simp -implicitDefEqProofs
    refine ACallK.of k6 ?_
    simp -implicitDefEqProofs
    refine ⟨⟨by omega,by unfold maxLen;omega⟩,?_⟩
    refine Again.of (i+1) hlt (by omega) ?_
    simp [hwr,hsn,hent,Entry.row,h]
   ·have hsf':(sf=0)=False:=eq_false hsf
    simp -implicitDefEqProofs [hsf']
    refine ⟨⟨by omega,by unfold maxLen;omega⟩,?_⟩
    refine Again.of (i+1) hlt (by omega) ?_
    simp [hwr,hsn,hent,Entry.row,h,hsf']
  ·have q3:(L[i].kind=3)=False:=eq_false (by omega)
   have q4:(L[i].kind=4)=False:=eq_false (by omega)
   have q1:(L[i].kind=1)=True:=eq_true h
   simp -implicitDefEqProofs [hlt,hltM,hlt',hrow,hrowM,q3,q4,q1]
   refine AltR.l ⟨by kernel_rfl,?_⟩
   simp -implicitDefEqProofs [hlt,hltM,hlt',hrow,hrowM,q3,q4,q1]
   refine ACallK.of k4 ?_
   simp -implicitDefEqProofs
   refine ACallK.of k5 ?_
   by_cases hsf:sf=0
   ·subst hsf
    simp -implicitDefEqProofs
    refine ACallK.of k6 ?_
    simp -implicitDefEqProofs
    refine ⟨⟨by omega,by unfold maxLen;omega⟩,?_⟩
    refine Again.of (i+1) hlt (by omega) ?_
    simp [hwr,hsn,hent,Entry.row,h]
   ·have hsf':(sf=0)=False:=eq_false hsf
    simp -implicitDefEqProofs [hsf']
    refine ⟨⟨by omega,by unfold maxLen;omega⟩,?_⟩
    refine Again.of (i+1) hlt (by omega) ?_
    simp [hwr,hsn,hent,Entry.row,h,hsf']
 ·have hlt':((i:Int)<(L.length:Int))=False:=eq_false (by omega)
  obtain rfl:i=L.length:=by omega
  rw [List.take_length,←hml,List.take_length]
  have hel:=entG_le f L L M
  have k9:=slices_SortFuncE (entG f L L M) (by omega)
  subst eR
  rw [←hml] at hlt'
  simp -implicitDefEqProofs [hlt',hml]
  refine ACallK.lend ?_
  simp -implicitDefEqProofs
  refine ACallM.of k9 ?_
  simp -implicitDefEqProofs
end Go.Proofs.YtlcmnclbljedfaaGreatDoor
