/- A part of the proof: lemmas and contracts of functions. -/
import Derived.Test.YtaalfcghmjkaeaaGreatDoorIxGSb
import Derived.WalkKit
import Derived.Deep.RegionLaw
import Derived.Lib.SliceRun
import Derived.Laws.IdiomCopy
import Derived.Test.YtaalfcghmjkaeaaGreatDoorIxGSa
import Derived.LoopN
import Derived.Sort.Grow
import Derived.StillTailTactics
import Derived.Test.YtaalfcghmjkaeaaGreatDoorAbJ0
import Derived.Shelf.Lays
import Derived.Test.YtaalfcghmjkaeaaGreatDoorProg
import Derived.KernelRfl
import Derived.Shelf.Strings.IndexAnyAll
import Derived.Shelf.LaysC
import Derived.Shelf.LaysM
import Derived.Test.YtaalfcghmjkaeaaGreatDoorAbJ5
import Derived.Lib.AtoiErrMem
import Derived.Shelf.Strconv.AtoiAll
set_option linter.all false
namespace Go.Proofs.YtaalfcghmjkaeaaGreatDoor
open Go Go.Ab Go.Proofs.Tryz Go.IntKind
variable [bf][ee 0][cK prog]
set_option maxRecDepth 100000
set_option maxHeartbeats 4000000
def nn{α:Type}(p:α->Bool)(l:List α):Int:=match l.findIdx? p with
 |some i=>(i:Int)
 |none=>-1
def Yl{α:Type}{p:α->Bool}{l:List α}{i:Nat}(h:gF (fun e=>!p e) l i)(aq:i<l.length)(ak:p l[i]=true):nn p l=(i:Int):=by
 unfold nn;have:l.findIdx? p=some i:=by rw[s8];refine⟨aq,ak,fun j ac=>?_⟩;have:=fm.1 h.2 l[j] (by rw[List.mem_take_iff_getElem];exact⟨j,by omega,rfl⟩);simpa using this
 rw[this]
def Ym{α:Type}{p:α->Bool}{l:List α}(h:gF (fun e=>!p e) l l.length):nn p l=-1:=by
 unfold nn;have:l.findIdx? p=none:=by rw[AM];intro x aj;have ab:=h.2;rw[sQ]at ab;have:=fm.1 ab x aj;simpa using this
 rw[this]
def Lh{α:Type}(p:α->Bool)(l:List α):(nn p l=-1/\l.findIdx? p=none)\/∃i:Nat,nn p l=(i:Int)/\l.findIdx? p=some i/\i<l.length:=by
 unfold nn;cases h:l.findIdx? p with
 |none=>exact .inl ⟨rfl,rfl⟩
 |some i=>exact .inr ⟨i,rfl,rfl,(s8.1 h).1⟩
def Yn(l:List Rec)(g:FuncId)(c:af)(p:Rec->Bool)(ao:∀r∈l,aD prog g [.agg r.row,.one c] (.x (.one (.bool (p r)))))(al:l.length<=1000000000) :
  aD prog 68 [jj l,.one (.ht g [c])] (.x (.one (.int .i64 (nn p l)))):=by
 obtain⟨R,aR⟩:∃R,R=nn p l:=⟨_,rfl⟩
 rw[<-aR];unfold jj;refine aD.a6 f68 mixed fun aE=>?_;simp-implicitDefEqProofs;refine cI.of Nat (fun i=>[(0,.x (.one (.list 7 (l.map Rec.row)))),(1,.x (.one (.ht g [c]))),(7,.x (.one (.int .i64 l.length))),(8,.x (.one (.int .i64 i)))]) (gF (fun e=>!p e) l) (fun i=>l.length-i) 0 gF.zero ?_ ?_
 ·simp
 intro i ai;have hle:=ai.1;by_cases aq:i<l.length
 ·have aO:((i:Int)<(l.length:Int))=True:=aL (by omega);have fL:i64.wrap ((i:Int)+1)=(i:Int)+1:=bk _ (by omega);have aF:=ao l[i] (jN aq);have bm:l[i].row=[.int .i64 l[i].kind,.str l[i].id,.str l[i].of,.int .i64 l[i].time,.str l[i].key,.list 2 (l[i].bd.map Head.row),dj l[i].block]:=rfl;rw[bm]at aF;simp-implicitDefEqProofs[aq,aO,bm];refine aA.of aF ?_;cases ak:p l[i]
  ·simp-implicitDefEqProofs[fL];exact bI.of (i+1) (ai.step aq (by rw[ak];rfl)) (by omega) (by simp)
  ·have:=Yl ai aq ak;rw[this]at aR;subst aR;simp-implicitDefEqProofs
 ·have aO:((i:Int)<(l.length:Int))=False:=aV (by omega);have i8:i=l.length:=by omega
  subst i8;have:=Ym ai;rw[this]at aR;subst aR;simp-implicitDefEqProofs[aO]
def zkS(l:List Head)(g:FuncId)(c:af)(p:Head->Bool)(ao:∀r∈l,aD prog g [.agg r.row,.one c] (.x (.one (.bool (p r)))))(al:l.length<=1000000000) :
  aD prog 188 [wi l,.one (.ht g [c])] (.x (.one (.int .i64 (nn p l)))):=by
 obtain⟨R,aR⟩:∃R,R=nn p l:=⟨_,rfl⟩
 rw[<-aR];refine aD.a6 f188 mixed fun aE=>?_;simp-implicitDefEqProofs;refine cI.of Nat (fun i=>[(0,.x (wi l)),(1,.x (.one (.ht g [c]))),(7,.x (.one (.int .i64 l.length))),(8,.x (.one (.int .i64 i)))]) (gF (fun e=>!p e) l) (fun i=>l.length-i) 0 gF.zero ?_ ?_
 ·simp
 intro i ai;have hle:=ai.1;by_cases aq:i<l.length
 ·have aO:((i:Int)<(l.length:Int))=True:=aL (by omega);have fL:i64.wrap ((i:Int)+1)=(i:Int)+1:=bk _ (by omega);have aF:=ao l[i] (jN aq);have bm:∀h:Head,h.row=[.str h.name,.str h.value]:=fun _=>rfl;rw[bm]at aF;simp-implicitDefEqProofs[aq,aO,bm];refine aA.of aF ?_;cases ak:p l[i]
  ·simp-implicitDefEqProofs[fL];exact bI.of (i+1) (ai.step aq (by rw[ak];rfl)) (by omega) (by simp)
  ·have:=Yl ai aq ak;rw[this]at aR;subst aR;simp-implicitDefEqProofs
 ·have aO:((i:Int)<(l.length:Int))=False:=aV (by omega);have i8:i=l.length:=by omega
  subst i8;have:=Ym ai;rw[this]at aR;subst aR;simp-implicitDefEqProofs[aO]
def zkT(r:Rec)(w:List UInt8):aD prog 121 [.agg r.row,.one (.ref [.str w])] (.x (.one (.bool (r.id==w)))):=by unfold Rec.row;refine aD.a6 f121 mixed fun aE=>?_;simp-implicitDefEqProofs
def zkU(h:Head)(w:List UInt8):aD prog 189 [.agg h.row,.one (.ref [.str w])] (.x (.one (.bool (cD h.name==w)))):=by have k:=q6 h.name;unfold Head.row;refine aD.a6 f189 mixed fun aE=>?_;simp-implicitDefEqProofs;refine aA.of k ?_;simp-implicitDefEqProofs
def rr(l:List Rec)(w:List UInt8):Option Nat:=l.findIdx? fun r=>r.id==w
def findD(l:List Rec)(w:List UInt8):Rec:=((rr l w).bind fun i=>l[i]?).getD j6
def Yo(l:List Rec)(w:List UInt8)(al:l.length<=1000000000):aD prog 71 [jj l,.one (.str w)] (.b2 [.agg (findD l w).row,.one (.bool (rr l w).isSome)]):=by
 have k:=Yn l 121 (.ref [.str w]) (fun r=>r.id==w) (fun r _=>zkT r w) al;have ap:=Lh (fun r:Rec=>r.id==w) l;unfold findD rr;unfold jj at*;generalize nn (fun r:Rec=>r.id==w) l=I at*;generalize l.findIdx? (fun r:Rec=>r.id==w)=O at*;refine aD.a6 f71 mixed fun aE=>?_;simp-implicitDefEqProofs;refine aA.of k ?_;rcases ap with⟨rfl,rfl⟩|⟨i,rfl,rfl,aq⟩
 ·simp-implicitDefEqProofs[j6,Rec.row]
 ·have aW:((i:Int)<0)=False:=aV (by omega);have aO:((i:Int)<(l.length:Int))=True:=aL (by omega);have bm:l[i].row=[.int .i64 l[i].kind,.str l[i].id,.str l[i].of,.int .i64 l[i].time,.str l[i].key,.list 2 (l[i].bd.map Head.row),dj l[i].block]:=rfl;simp-implicitDefEqProofs[aW,aq,aO,bm]
def Hq(l:List Head)(w:List UInt8):Option Nat:=l.findIdx? fun h=>cD h.name==w
def Li(l:List Head)(w:List UInt8):Int:=nn (fun h=>cD h.name==w) l
def Yp(r:Rec)(w:List UInt8)(al:r.bd.length<=1000000000):aD prog 124 [.agg r.row,.one (.str w)] (.x (.one (.int .i64 (Li r.bd w)))):=by have k:=zkS r.bd 189 (.ref [.str w]) (fun h=>cD h.name==w) (fun h _=>zkU h w) al;unfold Li Rec.row;refine aD.a6 f124 mixed fun aE=>?_;simp-implicitDefEqProofs;refine aA.of k ?_;simp-implicitDefEqProofs
def wB(s:List UInt8):Nat:=if mu 4 s=true then dk s else 0
def Yq(s:List UInt8):aD prog 125 [.one (.str s)] (.x (.one (.int .i64 (wB s)))):=by
 have k:=K4 4 (by omega) s;unfold wB;refine aD.a6 f125 mixed fun aE=>?_;simp-implicitDefEqProofs;refine aA.of k ?_;cases h:mu 4 s
 ·simp-implicitDefEqProofs
 ·obtain⟨aa,ab,_⟩:=DJ h;have aP:=Hb s _ (by omega) aa;simp-implicitDefEqProofs;refine aA.of aP ?_;simp-implicitDefEqProofs
def zkV(l:List Head)(al:l.length<=1000000):aD prog 122 [wi l] (.own 212 2 (l.map Head.row)):=by
 cases l with
 |nil=>
  refine aD.O9 (pre:=[]) (post:=[]) ?_ ?_
  ·refine aD.a6 f122 mixed fun aE=>?_;simp-implicitDefEqProofs
  ·refine aD.a6 f122 mixed fun aE=>?_;simp-implicitDefEqProofs
 |cons x r=>have bm:x.row=[.str x.name,.str x.value]:=rfl;simp at al;refine aD.a6 f122 mixed fun aE=>?_;simp-implicitDefEqProofs[bm];unfold maxLen;omega
def zkW(l:List UInt8)(ae:l.length<=16777216):aD prog 123 [.one (dj l)] (.own 5 1 (bL l)):=by
 cases l with
 |nil=>
  refine aD.O9 (pre:=[]) (post:=[]) ?_ ?_
  ·refine aD.a6 f123 mixed fun aE=>?_;simp-implicitDefEqProofs[bL]
  ·refine aD.a6 f123 mixed fun aE=>?_;simp-implicitDefEqProofs[bL]
 |cons x r=>simp at ae;refine aD.a6 f123 mixed fun aE=>?_;simp-implicitDefEqProofs[bL,g_];unfold maxLen;omega
end Go.Proofs.YtaalfcghmjkaeaaGreatDoor
namespace Go.Proofs.YtaalfcghmjkaeaaGreatDoor
open Go Go.Ab Go.RowKit Go.Lib Go.Proofs.Tryz Go.IntKind
variable [bf][ee 0][cK prog]
def QU(w:World)(g o:Nat)(t:TypeId)(dl:Nat×Nat)(cur:Array Value)(vs:List Value)(aB:w.heap[g]?=some (.cells cur t dl))(aY:D' dl cur.size)(al:o+vs.length<=cur.size)(aa:∀v∈vs,v.oneCell'=true) :
  w.setCells g o vs=w.setRow g (cur.toList.take o++vs++cur.toList.drop (o+vs.length)).toArray:=by
 have ao:∀j,j<vs.length->w.cell? ⟨g,o+0+j,none⟩=some (cur.getD (o+0+j) undef):=by
  intro j ac;have aq:o+0+j<cur.size:=by omega
  simp[World.cell?,aB,show o+j<cur.size by omega]
 have ay:∀j,j<vs.length->w.frozen? ⟨g,o+0+j,none⟩=false:=by
  intro j ac;rcases aY with rfl|aY
  ·simp[World.frozen?,aB]
  ·obtain⟨aK,eN⟩:=dl;simp[World.frozen?,aB];intro h;dsimp only at aY;omega
 have av:=Bh default g o t dl vs 0 cur w aB aY (by omega) aa;have aI:=run_storeCells_cells (P:=default) g o vs 0 w (fun j ac=>by rw[ao j ac];rfl) ay aa;rw[av]at aI;simp only[ti]at aI;injection aI with _ aI
 exact aI.symm
def zkX(w:World)(t e ty:TypeId)(z:Value)(ba:prog.underlying t=some (.slice e))(aH:∀w,(zeroValue e).run prog w=.ok z w)(aY:z.cells=#[.string ⟨#[]⟩,.string ⟨#[]⟩])(b o c:Nat)
  (ao:∀j,j<2->(w.cell? ⟨b,o+j,none⟩).isSome=true)(ay:∀j,j<2->w.frozen? ⟨b,o+j,none⟩=false) :
  (Builtin.clear_ #[t] ty #[.slice (some ⟨b,o,none⟩) 1 c]).run prog w=.ok (.tuple #[]) (w.setCells b o [.string ⟨#[]⟩,.string ⟨#[]⟩]):=by
 have zkY:(Builtin.zeroCells z.cells 1).toList=[.string ⟨#[]⟩,.string ⟨#[]⟩]:=by rw[aY];simp[Builtin.zeroCells,List.range_succ]
 have b3:=run_storeCells_cells (P:=prog) b o [.string ⟨#[]⟩,.string ⟨#[]⟩] 0 w (fun j ac=>by simpa using ao j (by simpa using ac)) (fun j ac=>by simpa using ay j (by simpa using ac)) (by intro v gb;simp at gb;subst gb;rfl);simp only[ti]at b3;simp[Builtin.clear_,run_underlying ba,aH,zkY,b3]
set_option maxRecDepth 1000000 in
set_option maxHeartbeats 4000000 in
def zkZ(w:World)(g n cap i:Nat)(cur:Array Value)(dl:Nat×Nat)(a1:w.heap[g]?=some (.cells cur 212 dl))(hI:D' dl cur.size)(ai:i<n)(aT:n<=cap)(hm:cap<=9223372036854775807)(BQ:n<=1000000)(en:cur.size=cap*2)
  (aa:∀v∈cur.toList.take (n*2),v.oneCell'=true) :
  Calls prog 126 #[.slice (some ⟨g,0,none⟩) n cap,.int .i64 i,.int .i64 ((i:Int)+1)] w fun e w'=>e=.returned (.slice (some ⟨g,0,none⟩) (n-1) cap) /\
   w'=(w.drew.setCells g (i*2) ((cur.toList.drop ((i+1)*2)).take ((n-(i+1))*2))).setCells g ((n-1)*2) [.string ⟨#[]⟩,.string ⟨#[]⟩]:=by
 obtain⟨news,la⟩:∃news,news=(cur.toList.drop ((i+1)*2)).take ((n-(i+1))*2):=⟨_,rfl⟩
 rw[<-la];have hlen:news.length=(n-(i+1))*2:=by rw[la,d',eo,iZ,en];omega
 have gN:∀j,j<cap*2->w.cell? ⟨g,j,none⟩=cur.toList[j]?:=by intro j ac;rw[cell_of_row w g j cur _ dl a1];simp
 have HR:∀j,j<cap*2->w.frozen? ⟨g,j,none⟩=false:=by
  intro j ac;rcases hI with rfl|aY
  ·simp[World.frozen?,a1]
  ·obtain⟨aK,eN⟩:=dl;simp[World.frozen?,a1];intro h;dsimp only at aY;omega
 have tE:∀t u,news[t]?=some u->w.cell? ⟨g,(i+1)*2+t,none⟩=some u:=by
  intro t u hu;have ba:=(ep.1 hu).1;rw[gN _ (by omega)];rw[la,jl]at hu;split at hu
  ·rw[h3]at hu;exact hu
  ·cases hu
 obtain⟨A,cY,eW⟩:∃A:Go.Addr,(if cap=i+1 then some (⟨g,0,none⟩:Go.Addr)else some ⟨g,(i+1)*2,none⟩)=some A/\Hid (∀t u,news[t]?=some u->w.drew.cell? (A.add t)=some u):=by
  by_cases h:cap=i+1
  ·refine⟨⟨g,0,none⟩,by simp[h],fun t u hu=>?_⟩;have:=(ep.1 hu).1;omega
  ·refine⟨⟨g,(i+1)*2,none⟩,by simp[h],fun t u hu=>?_⟩;rw[ln];exact tE t u hu
 have s1:Hid (news.length=(n-(i+1))*2):=hlen;have s2:Hid (∀u∈news,u.oneCell'=true):=by intro u hu;rw[la]at hu;rw[List.take_drop,show (i+1)*2+(n-(i+1))*2=n*2 by omega]at hu;exact aa u (tw hu)
 have zla:Hid (∀t,t<news.length->(w.drew.cell? ⟨g,0+i*2+t,none⟩).isSome=true/\w.drew.frozen? ⟨g,0+i*2+t,none⟩=false):=by
  intro t ba;rw[hlen]at ba;rw[f_];refine⟨?_,HR _ (by omega)⟩;show (w.cell? _).isSome=true
  rw[gN _ (by omega),cn (by rw[iZ,en];omega)];rfl
 obtain⟨o1,QV⟩:∃o1,o1=w.drew.setCells g (0+i*2) news:=⟨_,rfl⟩
 have Yr:o1=w.drew.setRow g (cur.toList.take (i*2)++news++cur.toList.drop (i*2+news.length)).toArray:=by rw[QV,f_];exact QU w.drew g (i*2) _ dl cur news a1 hI (by rw[hlen,en];omega) s2.out
 have bm:o1.heap[g]?=some (.cells (cur.toList.take (i*2)++news++cur.toList.drop (i*2+news.length)).toArray 212 dl):=by rw[Yr];exact setRow_heap w.drew g cur _ _ dl a1
 have yV:(cur.toList.take (i*2)++news++cur.toList.drop (i*2+news.length)).length=cap*2:=by simp only[eE,d',eo,iZ,en,hlen];omega
 have em:i+(n-(i+1))=n-1:=by omega
 have hC:∀ty,(Builtin.clear_ #[66] ty #[.slice (some ⟨g,(i+(n-(i+1)))*2,none⟩) (n-(i+(n-(i+1)))) (cap-(i+(n-(i+1))))]).run prog o1=.ok (.tuple #[]) (o1.setCells g ((n-1)*2) [.string ⟨#[]⟩,.string ⟨#[]⟩]):=by
  intro ty;rw[em,show n-(n-1)=1 by omega];exact zkX o1 _ 212 ty _ underlying66 (fun w=>zeroValue212 w) rfl g ((n-1)*2) _ (fun j ac=>by
   rw[cell_of_row o1 g _ _ _ dl bm];rw[List.getElem?_toArray,cn (by rw[yV];omega)];rfl) (fun j ac=>by
   rcases hI with rfl|aY
   ·simp[World.frozen?,bm]
   ·obtain⟨aK,eN⟩:=dl;simp[World.frozen?,bm];intro h;dsimp only at aY;omega)
 have dq:Hid (o1=w.drew.setCells g (0+i*2) news):=QV;have zJr:i<=cap:=by omega
 have zJs:i+1<=cap:=by omega
 have bG:i64.wrap ((i:Int)+1)=(i:Int)+1:=by rw[IntKind.wrap_i64];omega
 have x2:(0:Int)<=(i:Int)+1:=by omega
 have hk:(i:Int)+1<=(n:Int):=by omega
 have fN:((i:Int)+1).toNat=i+1:=by omega
 have Mc:(i:Int)+1<=(cap:Int):=by omega
 have bC:¬((i:Int)=(i:Int)+1):=by omega
 have zlb:(prog.info? 212).map (·.size)=some 2:=by kernel_rfl
 obtain⟨i0,pH,Ys⟩:=KP.1 zlb;have iD:prog.follows .mixedOrders=true:=mixed;have zlc:Hid (i+(n-(i+1))=n-1):=em;clear em QV Yr bm yV tE la hlen gN HR a1 hI aa en
 go_enter func126,ntmps126
 go_wp2_with fail
 go_region_law_o (refine step_append_room rfl (.tmp 22) (.tmp 25) 66 rfl 212 i0 2 underlying66 pH Ys g 0 i cap (by simp[Act.eval,Act.put]) A (n-(i+1)) (cap-(i+1)) news (by simp[Act.eval,Act.put]) s1.out eW.out s2.out (by omega) zla.out ?_;rw[<-dq.out])
 go_wp2
 go_ret
 refine⟨by rw[zlc.out];rfl,?_⟩;rw[dq.out,f_]
def zld(l:List Head)(i:Nat)(ai:i<l.length)(gA:l.length<=1000000) :
  cB prog 126 [.own 212 2 (l.map Head.row),.x (.one (.int .i64 i)),.x (.one (.int .i64 ((i:Int)+1)))] (.own 212 2 ((l.take i++l.drop (i+1)).map Head.row)) [.dead,.dead,.dead]:=by
 refine⟨(nc f126 (by kernel_rfl) (by kernel_rfl) rfl),rfl,fun w E vs fE ho=>?_⟩;have aW:=(ho.rep 0 _ rfl).2;have aa:bn w E.rd (.int .i64 i) (b8 vs 1):=(ho.rep 1 _ rfl).2;have ab:bn w E.rd (.int .i64 ((i:Int)+1)) (b8 vs 2):=(ho.rep 2 _ rfl).2;have av:b8 vs 1=.int .i64 i:=by generalize b8 vs 1=u at aa;cases aa;rfl
 have aI:b8 vs 2=.int .i64 ((i:Int)+1):=by generalize b8 vs 2=u at ab;cases ab;rfl
 have fp:vs=#[b8 vs 0,b8 vs 1,b8 vs 2]:=by
  have b':=ho.size;simp only[eg,rF]at b';have:2<vs.size:=by
   rcases kJ 2 vs.size with h|h
   ·exact h
   ·exfalso;have:b8 vs 2=undef:=by simp[b8,Cv h]
    rw[this]at aI;cases aI
  apply yY
  ·simp;omega
  ·intro j vS rg;have QW:j<3:=by simpa using rg
   match j,QW with
   |0,_=>simp[b8,qs vS]
   |1,_=>simp[b8,qs vS]
   |2,_=>simp[b8,qs vS]
 obtain⟨us,aw,al,aj,hm,bl⟩:=aW;have xt:(l.map Head.row).length=l.length:=by simp
 rw[xt]at aw hm;rcases aw.2 with⟨_,h⟩|⟨g,cap,cur,aH,_,⟨dl,a1,hI⟩,nl,fT,en,ge⟩
 ·omega
 have wC:E.eA g:=bl g (by rw[aH];rfl);have am:=zkZ w g l.length cap i cur dl a1 hI ai nl (by unfold maxLen at fT;omega) gA en (fun v yv=>by rw[ge]at yv;exact cj.xb al v yv);have Hr:vs=#[.slice (some ⟨g,0,none⟩) l.length cap,.int .i64 i,.int .i64 ((i:Int)+1)]:=by rw[fp,aH,av,aI]
 rw[Hr];refine am.mono ?_;rintro e w' ⟨rfl,rfl⟩;have lr:us.length=l.length*2:=aw.1;obtain⟨news,la⟩:∃news,news=(cur.toList.drop ((i+1)*2)).take ((l.length-(i+1))*2):=⟨_,rfl⟩
 rw[<-la];have hC:cur.toList.length=cap*2:=by simpa using en
 have hlen:news.length=(l.length-(i+1))*2:=by rw[la,d',eo,hC];omega
 have x':news=us.drop ((i+1)*2):=by rw[la,List.take_drop,show (i+1)*2+(l.length-(i+1))*2=l.length*2 by omega,ge]
 have w3:∀v∈news,v.oneCell'=true:=by intro v yv;rw[x']at yv;exact cj.xb al v (tw yv)
 have x9:=QU w.drew g (i*2) _ dl cur news a1 hI (by rw[hlen,en];omega) w3;obtain⟨gm,QX⟩:∃gm,gm=(cur.toList.take (i*2)++news++cur.toList.drop (i*2+news.length)).toArray:=⟨_,rfl⟩
 rw[<-QX]at x9;have QY:gm.size=cur.size:=by rw[QX,lS];simp only[eE,d',eo,hC,en,hlen];omega
 rw[x9];have Yt:=setRow_heap w.drew g cur gm _ dl a1;have xi:=QU (w.drew.setRow g gm) g ((l.length-1)*2) _ dl gm [.string ⟨#[]⟩,.string ⟨#[]⟩] Yt (by rw[QY];exact hI) (by rw[QY,en];simp;omega) (by intro v yv;simp at yv;subst yv;rfl);rw[xi];obtain⟨iK,QZ⟩:∃iK,iK=(gm.toList.take ((l.length-1)*2)++[Value.string ⟨#[]⟩,.string ⟨#[]⟩]++gm.toList.drop ((l.length-1)*2+2)).toArray:=⟨_,rfl⟩
 have zle:(gm.toList.take ((l.length-1)*2)++[Value.string ⟨#[]⟩,.string ⟨#[]⟩]++gm.toList.drop ((l.length-1)*2+[Value.string ⟨#[]⟩,.string ⟨#[]⟩].length)).toArray=iK:=by rw[QZ];rfl
 rw[zle];have Yu:iK.size=cur.size:=by
  have zlf:gm.toList.length=cap*2:=by simpa[en]using QY
  rw[QZ,lS];simp only[eE,d',eo,eg,rF,zlf,en];omega
 have Yv:=setRow_heap (w.drew.setRow g gm) g gm iK _ dl Yt;obtain⟨sM,DW⟩:∃sM,sM=(w.drew.setRow g gm).setRow g iK:=⟨_,rfl⟩
 rw[<-DW]at Yv⊢;have Yw:∀k,k≠g->sM.heap[k]?=w.heap[k]?:=by intro k am;rw[DW,setRow_other _ g k _ am,setRow_other _ g k _ am];rfl
 have tj:sM.heap.size=w.heap.size:=by rw[DW,(BY (w:=w.drew.setRow g gm) g iK).2,(BY (w:=w.drew) g gm).2];rfl
 have un:iK.toList.take ((l.length-1)*2)=us.take (i*2)++us.drop ((i+1)*2):=by
  have Kd:cur.toList.take (i*2)=us.take (i*2):=by rw[<-ge,List.take_take,K2 (by omega)]
  have gl:(us.take (i*2)++us.drop ((i+1)*2)).length=(l.length-1)*2:=by simp[lr];omega
  have aa:gm.toList.take ((l.length-1)*2)=us.take (i*2)++us.drop ((i+1)*2):=by rw[QX,<-gl,Kd,x',List.toList_toArray,Ea]
  rw[QZ,List.toList_toArray,pg,List.take_left' (by rw[aa,gl]),aa]
 have ko:∀b,E.rd b->b≠g:=fun b ae lb=>by subst lb;exact fE.apart b ae wC
 have cp:∀b,¬r9 [.dead,.dead,.dead] #[.slice (some ⟨g,0,none⟩) l.length cap,.int .i64 i,.int .i64 ((i:Int)+1)] b:=by
  rintro b ⟨j,o,ac,ae⟩
  match j,ac with
  |0,ac=>cases ac;cases ae
  |1,ac=>cases ac;cases ae
  |2,ac=>cases ac;cases ae
  |j+3,ac=>simp at ac
 refine⟨_,rfl,?_,⟨us.take (i*2)++us.drop ((i+1)*2),⟨?_,.inr ⟨g,cap,iK,?_,cd _,⟨dl,Yv,by rw[Yu];exact hI⟩,?_,fT,by rw[Yu,en],?_⟩⟩,?_,?_,?_,?_⟩,?_,?_⟩
 ·exact⟨by rw[DW];rfl,by rw[DW];rfl,by rw[DW];rfl,by rw[tj];exact eG _,fun k _ am=>Yw k (fun e=>am (by rw[e];exact wC))⟩
 ·simp[lr];omega
 ·simp;omega
 ·simp;omega
 ·rw[<-un];congr 1;simp;omega
 ·have eh:((l.take i++l.drop (i+1)).map Head.row).flatten=(l.map Head.row).flatten.take (i*2)++(l.map Head.row).flatten.drop ((i+1)*2):=by
   rw[vn,IS,yc,AO,BE aj,EB aj]
  rw[eh];have gk:cj sM (fun b=>h' w sM E [.dead,.dead,.dead] #[.slice (some ⟨g,0,none⟩) l.length cap,.int .i64 i,.int .i64 ((i:Int)+1)] b/\Value.ownBlock (.slice (some ⟨g,0,none⟩) (l.length-1) cap)≠some b) (l.map Head.row).flatten us:=
   al.mono (fun b ae=>⟨⟨.inl ae,cp b⟩,fun h=>ko b ae (by simpa[Value.ownBlock]using h.symm)⟩) (fun b ae=>Yw b (ko b ae))
  have Yx:(l.map Head.row).flatten.length=us.length:=gk.1.symm;refine⟨by simp[Yx],fun j c ac=>?_⟩;rw[xc]at ac⊢;have DA:((l.map Head.row).flatten.take (i*2)).length=(us.take (i*2)).length:=by simp[Yx]
  rw[DA]at ac;split at ac
  ·rename_i h;rw[aC h];rw[jl]at ac⊢;split at ac
   ·rename_i bE;rw[aC bE];exact gk.2 _ _ ac
   ·cases ac
  ·rename_i h;rw[au h];rw[h3]at ac⊢;exact gk.2 _ _ ac
 ·intro x DD;obtain⟨h,_,rfl⟩:=hh.1 DD;rfl
 ·simp;unfold maxLen;omega
 ·intro b ae;have ae:g=b:=by simpa[Value.ownBlock]using ae
  subst ae;exact⟨.inr (.inl wC),cp g⟩
 ·intro b ae;have ae:g=b:=by simpa[bw.ha,Value.ownBlock]using ae
  subst ae;exact⟨⟨.inr (.inl wC),cp g⟩,fun h=>fE.apart g h wC⟩
 ·intro j o ac
  match j,ac with
  |0,ac=>cases ac;trivial
  |1,ac=>cases ac;trivial
  |2,ac=>cases ac;trivial
  |j+3,ac=>simp at ac
end Go.Proofs.YtaalfcghmjkaeaaGreatDoor
namespace Go.Proofs.YtaalfcghmjkaeaaGreatDoor
open Go Go.Ab Go.Proofs.Tryz Go.IntKind
variable [bf][ee 0][cK prog]
set_option maxRecDepth 100000
set_option maxHeartbeats 4000000
def yw:List UInt8:=[112,105,101,99,101,115]
def Hs:List UInt8:=[110,117,109,98,101,114]
def jk(x:Rec):Nat:=wB (((Hq x.bd Hs).bind fun j=>x.bd[j]?).getD ⟨[],[]⟩).value
def k7(r:Rec)(id:List UInt8)(x:Rec):Bool:=x.kind==5&&(x.of==id&&((Hq x.bd Hs).isSome&&(x.time==r.time&&x.key==r.key)))
def uN(l:List Rec)(r:Rec)(id:List UInt8)(n:Nat):List Rec:=l.filter fun x=>k7 r id x&&jk x==n
def Ht(r:Rec)(ap:List Head)(Bp:Nat->List Rec):Nat->Nat->List UInt8->Rec×Int
 |0,_,b=>if ji {r with bd:=ap,block:=b}≠0 then (j6,ji {r with bd:=ap,block:=b})else ({r with bd:=ap,block:=b},0)
 |k+1,n,b=>if (Bp n).length≠1 then (j6,9)else Ht r ap Bp k (n+1) (b++((Bp n).headD j6).block)
def uO(l:List Rec)(id:List UInt8):Rec×Int:=
 if (rr l id).isSome=false\/(findD l id).kind=5 then (j6,9)
 else match Hq (findD l id).bd yw with
  |none=>(findD l id,0)
  |some k=>
   if wB (((findD l id).bd[k]?).getD ⟨[],[]⟩).value<2 then (j6,3)
   else Ht (findD l id) ((findD l id).bd.take k++(findD l id).bd.drop (k+1)) (uN l (findD l id) id) (wB (((findD l id).bd[k]?).getD ⟨[],[]⟩).value-1) 2 (findD l id).block
structure k8 where
 key:Nat
 v:Value
 fa:List Rec
def qc(D:List k8):List (az×az):=D.map fun d=>(.one (.int .i64 d.key),.one (.atom d.v))
def A7(D:List k8):List (az×az):=D.map fun d=>(.one (.int .i64 d.key),.one (.list 7 (d.fa.map Rec.row)))
def ob(D:List k8):List (Value×List (List af)):=D.map fun d=>(d.v,d.fa.map Rec.row)
def Yy(n:Nat)(D:List k8)(f:k8->az):∀i,er (.i .i64) (.one (.int .i64 n)) (D.map fun d=>(.one (.int .i64 d.key),f d)) i=some ((D.findIdx? fun d=>d.key==n).map (·+i)):=by
 induction D with
 |nil=>intro i;rfl
 |cons d r aX=>
  intro i;simp only[iw,er,rK,List.findIdx?_cons];by_cases h:d.key=n
  ·subst h;simp
  ·have aa:((n:Int)==(d.key:Int))=false:=by rw[jz];omega
   have ab:(d.key==n)=false:=by rw[jz];exact h
   rw[aa,ab,aX (i+1)];cases r.findIdx? fun d=>d.key==n with
   |none=>rfl
   |some j=>simp;omega
structure qd(r:Rec)(id:List UInt8)(ls:List Rec)(D:List k8):Prop where
 Lj:(D.map k8.key).Nodup
 fa:∀d∈D,d.fa=uN ls r id d.key
 all:∀x∈ls,k7 r id x=true->jk x∈D.map k8.key
def qd.nil(r:Rec)(id:List UInt8):qd r id [] []:=⟨by simp,by simp,by simp⟩
def Q0(ls:List Rec)(r:Rec)(id:List UInt8)(x:Rec)(n:Nat):uN (ls++[x]) r id n=uN ls r id n++(if (k7 r id x&&jk x==n)=true then [x]else []):=by unfold uN;rw[List.filter_append];congr 1;simp only[List.filter_cons,List.filter_nil]
def qd.skip{r:Rec}{id:List UInt8}{ls:List Rec}{D:List k8}{x:Rec}(h:qd r id ls D)(aj:k7 r id x=false):qd r id (ls++[x]) D:=by
 refine⟨h.Lj,fun d ax=>?_,fun y aS ak=>?_⟩
 ·rw[Q0,aj];simpa using h.fa d ax
 ·rcases gv.1 aS with aa|aa
  ·exact h.all y aa ak
  ·obtain rfl:y=x:=by simpa using aa
   rw[aj]at ak;cases ak
def qd.add{r:Rec}{id:List UInt8}{ls:List Rec}{D:List k8}{x:Rec}(h:qd r id ls D)(aj:k7 r id x=true)(aT:jk x∉D.map k8.key)(v:Value):qd r id (ls++[x]) (D++[⟨jk x,v,[x]⟩]):=by
 have cp:uN ls r id (jk x)=[]:=by unfold uN;rw[P9];intro y aS ae;simp only[b4,fB]at ae;exact aT (by rw[<-ae.2];exact h.all y aS ae.1)
 refine⟨?_,fun d ax=>?_,fun y aS ak=>?_⟩
 ·rw[vn,Gg];refine⟨h.Lj,by simp,fun a bj b ae=>?_⟩;obtain rfl:b=jk x:=by simpa using ae
  rintro rfl;exact aT bj
 ·rw[Q0];rcases gv.1 ax with aa|aa
  ·have bC:(jk x==d.key)=false:=by rw[jz];intro e;exact aT (by rw[e];exact hh.2 ⟨d,aa,rfl⟩)
   rw[aj,bC];simpa using h.fa d aa
  ·obtain rfl:d=⟨jk x,v,[x]⟩:=by simpa using aa
   simp only[cp];rw[aj];simp
 ·rw[vn,gv];rcases gv.1 aS with aa|aa
  ·exact .inl (h.all y aa ak)
  ·obtain rfl:y=x:=by simpa using aa
   exact .inr (by simp)
def qd.grow{r:Rec}{id:List UInt8}{ls:List Rec}{D:List k8}{x:Rec}{j:Nat}(h:qd r id ls D)(aj:k7 r id x=true)(ac:j<D.length)(am:D[j].key=jk x)(v:Value):qd r id (ls++[x]) (D.set j ⟨jk x,v,D[j].fa++[x]⟩):=by
 have Yz:(D.set j ⟨jk x,v,D[j].fa++[x]⟩).map k8.key=D.map k8.key:=by
  rw[Gy];apply tz;intro i;rw[w2];split
  ·rename_i e;subst e;simp[ac,am]
  ·rfl
 refine⟨by rw[Yz];exact h.Lj,fun d ax=>?_,fun y aS ak=>?_⟩
 ·obtain⟨i,ai,rfl⟩:=Ma ax;rw[Q0];have eN:i<D.length:=by simpa using ai
  rw[List.getElem_set];by_cases e:j=i
  ·subst e;rw[aC rfl];simp only;rw[aj];have:=h.fa D[j] (jN ac);rw[am]at this;rw[this];simp
  ·rw[au e];have bC:(jk x==D[i].key)=false:=by
    rw[jz];intro aI;have aa:(D.map k8.key)[j]'(by simpa using ac)=(D.map k8.key)[i]'(by simpa using eN):=by simp[am,aI]
    have ak:=P7.1 h.Lj;rcases kJ j i with ab|ab
    ·exact ak j i (by simpa using ac) (by simpa using eN) ab aa
    ·exact ak i j (by simpa using eN) (by simpa using ac) (by omega) aa.symm
   rw[aj,bC];simpa using h.fa D[i] (jN eN)
 ·rw[Yz];rcases gv.1 aS with aa|aa
  ·exact h.all y aa ak
  ·obtain rfl:y=x:=by simpa using aa
   rw[<-am];exact hh.2 ⟨_,jN ac,rfl⟩
set_option maxHeartbeats 8000000
def lP{j a:Nat}(h:a<2000000):(2000000+j=a)=False:=aV (by omega)
def td{j a:Nat}(h:a<2000000):(a=2000000+j)=False:=aV (by omega)
@[simp]def zJt(s:ag)(v:Value):gx s (.x (.one (.atom v)))=none:=rfl
@[simp]def zJu:J6 none=none:=rfl
def YA{l:List Rec}{id:List UInt8}(h:(rr l id).isSome=true):findD l id∈l:=by
 unfold findD rr at*;cases ay:l.findIdx? fun r=>r.id==id with
 |none=>rw[ay]at h;cases h
 |some i=>have aq:=(s8.1 ay).1;simp[aq]
def zlg{s:List UInt8}:wB s<=9999:=by
 unfold wB;split
 ·rename_i h;obtain⟨_,aa,ab⟩:=DJ h;have:=ux s ab;have ak:(10:Nat)^s.length<=10^4:=Dh (by decide) aa;omega
 ·omega
def yx(l:List Rec)(id:List UInt8)(r:Rec)(ap:List Head)(M:Nat)(D:List k8)(x:Nat×List UInt8):List (Nat×ad):=
 [(0,.x (.one (.list 7 (l.map Rec.row)))),(1,.x (.one (.str id))),(4,.box [.int .i64 0,.str [],.str [],.int .i64 0,.str [],.nil,.nil]),(6,.box [.int .i64 r.kind,.str r.id,.str r.of,.int .i64 r.time,.str r.key,.any,.any]),
   (9,.x (.one (.int .i64 M))),(10,.mp D.length (List.range D.length) (A7 D)),(14,.x (.one (.int .i64 x.1))),(58,.own 212 2 (ap.map Head.row)),
   (999999,.res [(6,5),(6,6)]),(1006005,.link 6 5 58)]++(if x.1=2 then [(35,.own 5 1 (bL x.2)),(1006006,.link 6 6 35)]else [(136,.own 5 1 (bL x.2)),(1006006,.link 6 6 136)])
def YB(l:List Rec)(id:List UInt8)(al:l.length<=1000)(an:∀r∈l,ji r=0):aD prog 72 [jj l,.one (.str id)] (.b2 [.agg (uO l id).1.row,.one (.int .i64 (uO l id).2)]):=by
 obtain⟨R,aR⟩:∃R,R=uO l id:=⟨_,rfl⟩
 rw[<-aR];unfold uO at aR;have aF:=Yo l id (by omega);have B5:=YA (l:=l) (id:=id);generalize xf:findD l id=r at*;generalize (rr l id).isSome=B at*;unfold jj at*;have aY:j6.row=[.int .i64 0,.str [],.str [],.int .i64 0,.str [],.list 2 [],.list 1 []]:=rfl;have bm:∀x:Rec,x.row=[.int .i64 x.kind,.str x.id,.str x.of,.int .i64 x.time,.str x.key,.list 2 (x.bd.map Head.row),dj x.block]:=fun _=>rfl;rw[bm r]at aF;refine @aD.J8 _ (FO [5,6,7,26] [18] [(4,[1,1,1,1,1,1,1,0,1,0]),(18,[7,1,1,1,1,1,1,1,1,1,1,1,1,1,1,1,1,1,1,9,0]),(25,[1,1,1,1,1,1,1,1,4,1,0])]) [(6,5),(6,6)] [] _ _ _ _ _ (by simp) mixed (fn:=f72) (by kernel_rfl) (by kernel_rfl) rfl (by kernel_rfl) (by simp[f72]) (fun aE=>?_);simp-implicitDefEqProofs;refine aA.of aF ?_;cases B
 ·rw[aC (.inl rfl)]at aR;subst aR;simp-implicitDefEqProofs[aY]
 have YC:=DV (an r (B5 rfl));by_cases Lk:r.kind=5
 ·rw[aC (.inr Lk)]at aR;subst aR;have AZ:(r.kind=5)=True:=aL Lk;simp-implicitDefEqProofs[aY,AZ]
 rw[au (by simp[Lk])]at aR;have AZ:(r.kind=5)=False:=aV Lk;have a1:=YC.QP;have ae:=YC.block;have aP:=zkV r.bd (by omega);have a7:=zkW r.block (by omega);simp-implicitDefEqProofs[AZ];refine aA.of aP ?_;simp-implicitDefEqProofs;refine aA.of a7 ?_;simp-implicitDefEqProofs[bF];refine dT.named 6 5 32 1900000 rfl rfl rfl (by decide) rfl (fun v1=>?_);refine dT.named 6 6 35 1900001 rfl rfl rfl (by decide) rfl (fun v2=>?_);refine dT.done ?_;have b1:=Yp r yw (by omega);have cU:=Lh (fun h:Head=>cD h.name==yw) r.bd;have zlh:Li r.bd yw=nn (fun h:Head=>cD h.name==yw) r.bd:=rfl;have zli:Hq r.bd yw=r.bd.findIdx? fun h=>cD h.name==yw:=rfl;rw[zlh]at b1;rw[zli]at aR;unfold yw at b1 cU aR;rw[bm r]at b1;simp-implicitDefEqProofs;refine aA.named b1 ⟨⟨.inl rfl,.inl rfl,.inl rfl,.inl rfl,.inl rfl,.inr ⟨v1,1900000,_,_,_,rfl,by decide,rfl,rfl⟩,.inr ⟨v2,1900001,_,_,_,rfl,by decide,rfl,rfl⟩,trivial⟩,.inl rfl,trivial⟩ rfl ?_;simp-implicitDefEqProofs;refine dT.linked 6 5 32 1900000 rfl rfl rfl rfl rfl ?_;refine dT.linked 6 6 35 1900001 rfl rfl rfl rfl rfl ?_;refine dT.done ?_;rcases cU with⟨av,aI⟩|⟨k,av,aI,am⟩
 ·rw[av];rw[aI]at aR;subst aR;simp-implicitDefEqProofs;refine dT.fold 6 5 (dT.fold 6 6 (dT.done ?_));simp-implicitDefEqProofs[bm]
 rw[av];rw[aI]at aR;have Ll:((k:Int)<0)=False:=aV (by omega);have hQ:((k:Int)<(r.bd.length:Int))=True:=aL (by omega);have dZ:=Yq r.bd[k].value;have oR:r.bd[k]?=some r.bd[k]:=cn am;have Q1:∀h:Head,h.row=[.str h.name,.str h.value]:=fun _=>rfl;dsimp only at aR;rw[oR,rW]at aR;have zJv:=zlg (s:=r.bd[k].value);simp-implicitDefEqProofs[Ll,hQ,am,Q1];refine aA.of dZ ?_;generalize wB r.bd[k].value=M at*;by_cases ho:M<2
 ·rw[aC ho]at aR;subst aR;have DT:((M:Int)<2)=True:=aL (by omega);simp-implicitDefEqProofs[DT,aY]
 rw[au ho]at aR;have DT:((M:Int)<2)=False:=aV (by omega);have FQ:i64.wrap ((k:Int)+1)=(k:Int)+1:=bk _ (by omega);have jV:=zld r.bd k am (by omega);simp-implicitDefEqProofs[DT,FQ];refine aA.Ox ?_;simp-implicitDefEqProofs;refine gg.of jV ?_;simp-implicitDefEqProofs[bF];obtain⟨ap,Q2⟩:∃ap,ap=r.bd.take k++r.bd.drop (k+1):=⟨_,rfl⟩
 rw[<-Q2]at aR;have zJw:List.map Head.row (r.bd.take k)++List.map Head.row (r.bd.drop (k+1))=ap.map Head.row:=by rw[Q2,vn]
 refine cI.of (Nat×List k8) (fun x=>[(0,.x (.one (.list 7 (l.map Rec.row)))),(1,.x (.one (.str id))),(4,.box [.int .i64 0,.str [],.str [],.int .i64 0,.str [],.nil,.nil]),(6,.box [.int .i64 r.kind,.str r.id,.str r.of,.int .i64 r.time,.str r.key,.any,.any]),
   (9,.x (.one (.int .i64 M))),(10,.mp x.2.length (List.range x.2.length) (qc x.2)),(35,.own 5 1 (bL r.block)),(58,.own 212 2 (ap.map Head.row)),(61,.x (.one (.list 7 (l.map Rec.row)))),(62,.x (.one (.int .i64 l.length))),(63,.x (.one (.int .i64 x.1))),
   (999999,.res [(6,5),(6,6)]),(1006005,.link 6 5 58),(1006006,.link 6 6 35)]++sF 2000000 108 7 (ob x.2) 0)
  (fun x=>x.1<=l.length/\qd r id (l.take x.1) x.2/\x.2.length<=x.1) (fun x=>l.length-x.1) (0,[]) ⟨cd _,qd.nil r id,eG _⟩ ?_ ?_
 ·simp[qc,ob,sF,Q2]
 rintro⟨i,D⟩ ⟨ai,hA,Ad⟩;dsimp only at ai hA Ad⊢;by_cases aq:i<l.length
 ·have aO:((i:Int)<(l.length:Int))=True:=aL (by omega);have bG:i64.wrap ((i:Int)+1)=(i:Int)+1:=bk _ (by omega);have Nb:=DV (an l[i] (jN aq));have ge:l.take (i+1)=l.take i++[l[i]]:=nF aq;have Fa:l[i]?=some l[i]:=cn aq;have A8:=bm l[i];have uP:=Yp l[i] Hs (by have:=Nb.QP;omega);rw[A8]at uP;unfold Hs at uP;simp-implicitDefEqProofs[aq,aO,A8];refine aA.of uP ?_;have cU:=Lh (fun h:Head=>cD h.name==[110,117,109,98,101,114]) l[i].bd;have Q3:Hq l[i].bd Hs=l[i].bd.findIdx? fun h=>cD h.name==[110,117,109,98,101,114]:=rfl;have zlj:Li l[i].bd [110,117,109,98,101,114]=nn (fun h=>cD h.name==[110,117,109,98,101,114]) l[i].bd:=rfl;rw[zlj];by_cases bA:l[i].kind=5;rotate_left
  ·have gJ:(l[i].kind=5)=False:=aV bA;have ak:k7 r id l[i]=false:=by unfold k7;rw[jz.2 bA,kq]
   simp-implicitDefEqProofs[gJ];refine bI.of (i+1,D) ⟨aq,by rw[ge];exact hA.skip ak,DX Ad⟩ (by simp only;omega) ?_;simp[bG];exact xU fun j y ac=>by have h:=uk (G:=2000000) (e:=108) (z:=7) (k:=0) ac;rw[f_]at h;simp[h,lP]
  have gJ:(l[i].kind=5)=True:=aL bA;by_cases c2:l[i].of=id;rotate_left
  ·have ii:(l[i].of=id)=False:=aV c2;have ak:k7 r id l[i]=false:=by unfold k7;rw[jz.2 c2,kq,vH]
   simp-implicitDefEqProofs[gJ,ii];refine bI.of (i+1,D) ⟨aq,by rw[ge];exact hA.skip ak,DX Ad⟩ (by simp only;omega) ?_;simp[bG];exact xU fun j y ac=>by have h:=uk (G:=2000000) (e:=108) (z:=7) (k:=0) ac;rw[f_]at h;simp[h,lP]
  have ii:(l[i].of=id)=True:=aL c2;rcases cU with⟨f1,f2⟩|⟨m,f1,f2,hm⟩
  ·rw[f1];have ak:k7 r id l[i]=false:=by unfold k7;rw[Q3,f2];simp
   simp-implicitDefEqProofs[gJ,ii];refine bI.of (i+1,D) ⟨aq,by rw[ge];exact hA.skip ak,DX Ad⟩ (by simp only;omega) ?_;simp[bG];exact xU fun j y ac=>by have h:=uk (G:=2000000) (e:=108) (z:=7) (k:=0) ac;rw[f_]at h;simp[h,lP]
  rw[f1];have Cq:(0<=(m:Int))=True:=aL (by omega);by_cases c3:l[i].time=r.time;rotate_left
  ·have uQ:(l[i].time=r.time)=False:=aV c3;have ak:k7 r id l[i]=false:=by unfold k7;rw[jz.2 c3];simp
   simp-implicitDefEqProofs[gJ,ii,Cq,uQ];refine bI.of (i+1,D) ⟨aq,by rw[ge];exact hA.skip ak,DX Ad⟩ (by simp only;omega) ?_;simp[bG];exact xU fun j y ac=>by have h:=uk (G:=2000000) (e:=108) (z:=7) (k:=0) ac;rw[f_]at h;simp[h,lP]
  have uQ:(l[i].time=r.time)=True:=aL c3;by_cases c4:l[i].key=r.key;rotate_left
  ·have Q4:(l[i].key=r.key)=False:=aV c4;have ak:k7 r id l[i]=false:=by unfold k7;rw[jz.2 c4];simp
   simp-implicitDefEqProofs[gJ,ii,Cq,uQ,Q4];refine bI.of (i+1,D) ⟨aq,by rw[ge];exact hA.skip ak,DX Ad⟩ (by simp only;omega) ?_;simp[bG];exact xU fun j y ac=>by have h:=uk (G:=2000000) (e:=108) (z:=7) (k:=0) ac;rw[f_]at h;simp[h,lP]
  have Q4:(l[i].key=r.key)=True:=aL c4;have ak:k7 r id l[i]=true:=by unfold k7;rw[Q3,f2];simp[bA,c2,c3,c4]
  have rY:((m:Int)<(l[i].bd.length:Int))=True:=aL (by omega);have Q5:l[i].bd[m]?=some l[i].bd[m]:=cn hm;have k6:jk l[i]=wB l[i].bd[m].value:=by unfold jk;rw[Q3,f2];simp[Q5]
  have A9:=Yq l[i].bd[m].value;rw[<-k6]at A9;simp-implicitDefEqProofs[gJ,ii,Cq,uQ,Q4,rY,hm,Q1];refine aA.of A9 ?_;simp-implicitDefEqProofs[rY,hm,Q1];refine aA.of A9 ?_;have cE:=Yy (jk l[i]) D (fun d=>.one (.atom d.v)) 0;have Q6:qc D=D.map fun d=>(.one (.int .i64 d.key),.one (.atom d.v)):=rfl;rw[<-Q6]at cE;cases lZ:D.findIdx? fun d=>d.key==jk l[i]with
  |none=>
   rw[lZ]at cE;have zlk:jk l[i]∉D.map k8.key:=by rw[AM]at lZ;intro h;obtain⟨d,ax,e⟩:=hh.1 h;have:=lZ d ax;rw[e]at this;simp at this
   have zll:(ob D).length=D.length:=by simp[ob]
   simp-implicitDefEqProofs[cE];refine Aa.of 115 (2000000+D.length) rfl (by have:f72.ntmps=145:=rfl;omega) (by simp[lP,zfd,zll]) (fun v=>?_);simp-implicitDefEqProofs[cE,td];refine bI.of (i+1,D++[⟨jk l[i],v,[l[i]]⟩]) ⟨aq,by rw[ge];exact hA.add ak zlk v,by simp;omega⟩ (by simp only;omega) ?_;simp[bG,td,qc,List.range_succ];refine xU fun j y ac=>?_;rw[f_];by_cases w4:j<D.length
   ·have eI:(ob D)[j]?=some y:=by
     unfold ob at ac⊢;rw[vn,jr (by simpa using w4)]at ac;exact ac
    have h:=uk (G:=2000000) (e:=108) (z:=7) (k:=0) eI;rw[f_]at h;have bC:(j=D.length)=False:=aV (by omega);simp[h,lP,bC]
   ·have rg:j=D.length:=by
     have:=(ep.1 ac).1;simp[ob]at this;omega
    subst rg;have aS:y=(v,[l[i].row]):=by unfold ob at ac;simp at ac;exact ac.symm
    subst aS;simp[lP,A8]
  |some j=>
   rw[lZ]at cE;obtain⟨ac,kM,_⟩:=s8.1 lZ;have Hu:D[j].key=jk l[i]:=by simpa using kM
   have oB:(qc D)[j]?=some (.one (.int .i64 D[j].key),.one (.atom D[j].v)):=by unfold qc;rw[dO,cn ac];rfl
   have k':(ob D)[j]?=some (D[j].v,D[j].fa.map Rec.row):=by unfold ob;rw[dO,cn ac];rfl
   have yy:=uk (G:=2000000) (e:=108) (z:=7) (k:=0) k';rw[f_]at yy;dsimp only at yy;have hlen:D[j].fa.length<=1000:=by
    rw[hA.fa D[j] (jN ac)];unfold uN;have:=KW (fun x=>k7 r id x&&jk x==D[j].key) (l.take i);have ab:(l.take i).length<=l.length:=by rw[d'];omega
    omega
   simp-implicitDefEqProofs[cE,oB];refine zeQ (2000000+j) 108 7 (D[j].fa.map Rec.row) (by have:f72.ntmps=145:=rfl;omega) (by simp[yy,lP]) ?_;simp-implicitDefEqProofs[yy,lP,td];refine⟨⟨by omega,by unfold maxLen;omega⟩,?_⟩;refine Aa.of 115 (2000000+j) rfl (by have:f72.ntmps=145:=rfl;omega) (by simp[lP]) (fun v=>?_);simp-implicitDefEqProofs[cE,td];refine bI.of (i+1,D.set j ⟨jk l[i],v,D[j].fa++[l[i]]⟩) ⟨aq,by rw[ge];exact hA.grow ak ac Hu v,by simp;omega⟩ (by simp only;omega) ?_;have NU:qc (D.set j ⟨jk l[i],v,D[j].fa++[l[i]]⟩)=(qc D).set j (.one (.int .i64 D[j].key),.one (.atom v)):=by unfold qc;rw[Gy,Hu]
   simp[bG,td,NU];refine⟨by rw[Hu],?_⟩;refine xU fun m y hm=>?_;rw[f_];by_cases gB:m=j
   ·subst gB;have aS:y=(v,(D[m].fa++[l[i]]).map Rec.row):=by
     unfold ob at hm;rw[dO,List.getElem?_set_self ac]at hm;exact(qX hm).symm
    subst aS;simp[lP,A8]
   ·have dK:(ob D)[m]?=some y:=by
     unfold ob at hm⊢;rw[dO,List.getElem?_set_ne (fun h=>gB h.symm),<-dO]at hm;exact hm
    have h:=uk (G:=2000000) (e:=108) (z:=7) (k:=0) dK;rw[f_]at h;have bC:(m=j)=False:=aV gB;simp[h,lP,bC]
 ·have aO:((i:Int)<(l.length:Int))=False:=aV (by omega);have H':i=l.length:=by omega
  subst H';rw[sQ]at hA;simp-implicitDefEqProofs[aO];obtain⟨wD,Hv⟩:∃wD,wD=uN l r id:=⟨_,rfl⟩
  rw[<-Hv]at aR;refine cI.zfe 10 (c:=D.length) (bs:=List.range D.length) (es:=qc D) (A7 D) (Nat×List UInt8) (yx l id r ap M D) (fun x=>(2<=x.1/\x.1<=M+1/\x.2.length<=200000*x.1)/\R=Ht r ap wD (M+1-x.1) x.1 x.2) (fun x=>M+1-x.1) (2,r.block) ⟨⟨by simp,by simp only;omega,by simp only;omega⟩,by rw[aR];rfl⟩ (by simp) ⟨by simp[qc,A7],?_⟩ ?_ ?_
  ·intro j x y aj aS;have ac:j<D.length:=by
    have:=(ep.1 aj).1;simpa[qc]using this
   unfold qc at aj;unfold A7 at aS;rw[dO,cn ac]at aj aS;have eP:=(qX aj).symm;have zlm:=(qX aS).symm;subst eP zlm;have k':(ob D)[j]?=some (D[j].v,D[j].fa.map Rec.row):=by unfold ob;rw[dO,cn ac];rfl
   have yy:=uk (G:=2000000) (e:=108) (z:=7) (k:=0) k';rw[f_]at yy;dsimp only at yy;exact⟨rfl,.inr ⟨D[j].v,2000000+j,108,7,_,rfl,by simp[yy,lP],rfl⟩⟩
  ·unfold yx;rw[aC rfl];simp
  rintro⟨n,b⟩ ⟨⟨Mg,zln,k4⟩,ah⟩;dsimp only at Mg zln k4 ah⊢;have cE:=Yy n D (fun d=>.one (.list 7 (d.fa.map Rec.row))) 0;have Q6:A7 D=D.map fun d=>(.one (.int .i64 d.key),.one (.list 7 (d.fa.map Rec.row))):=rfl;rw[<-Q6]at cE;have YD:i64.wrap ((n:Int)+1)=((n+1:Nat):Int):=by rw[bk _ (by omega)];omega
  by_cases zJx:n<=M
  ·have hle:((n:Int)<=(M:Int))=True:=aL (by omega);have Hw:M+1-n=(M-n)+1:=by omega
   rw[Hw]at ah;unfold Ht at ah;cases lZ:D.findIdx? fun d=>d.key==n with
   |none=>
    rw[lZ]at cE;have x2:wD n=[]:=by rw[Hv];unfold uN;rw[P9];intro x aj eP;simp only[b4,fB]at eP;have:=hA.all x aj eP.1;obtain⟨d,ax,e⟩:=hh.1 this;rw[AM]at lZ;have ab:=lZ d ax;rw[e,eP.2]at ab;simp at ab
    rw[x2,aC (by simp)]at ah;subst ah;unfold yx;by_cases ab:n=2
    ·rw[aC ab];simp-implicitDefEqProofs[hle,cE,aY]
    ·rw[au ab];simp-implicitDefEqProofs[hle,cE,aY]
   |some j=>
    rw[lZ]at cE;obtain⟨ac,kM,_⟩:=s8.1 lZ;have Hu:D[j].key=n:=by simpa using kM
    have oB:(A7 D)[j]?=some (.one (.int .i64 D[j].key),.one (.list 7 (D[j].fa.map Rec.row))):=by unfold A7;rw[dO,cn ac];rfl
    have Q7:D[j].fa=wD n:=by rw[hA.fa D[j] (jN ac),Hu,Hv]
    have hlen:(wD n).length<=l.length:=by rw[Hv];exact KW _ _
    by_cases aa:(wD n).length=1
    ·rw[au (by simp[aa])]at ah;obtain⟨x,aj⟩:=Ex.1 aa;have jL:x∈l:=by
      have:x∈wD n:=by rw[aj];simp
      rw[Hv]at this;exact(G6.1 this).1
     have so:=(DV (an x jL)).block;rw[aj]at Q7 ah;rw[Q7]at oB;unfold yx;by_cases ab:n=2
     ·rw[aC ab];simp-implicitDefEqProofs[bF,hle,cE,oB,bm];refine⟨by unfold maxLen;omega,?_⟩;refine bI.of (n+1,b++x.block) ⟨⟨by simp only;omega,by simp only;omega,by simp only[eE];omega⟩,by rw[ah];simp only[List.headD_cons];congr 1;omega⟩ (by simp only;omega) ?_;have w3:(n+1=2)=False:=aV (by omega);simp[w3,YD,J2]
     ·rw[au ab];simp-implicitDefEqProofs[bF,hle,cE,oB,bm];refine⟨by unfold maxLen;omega,?_⟩;refine bI.of (n+1,b++x.block) ⟨⟨by simp only;omega,by simp only;omega,by simp only[eE];omega⟩,by rw[ah];simp only[List.headD_cons];congr 1;omega⟩ (by simp only;omega) ?_;have w3:(n+1=2)=False:=aV (by omega);simp[w3,YD,J2]
    ·rw[aC aa]at ah;subst ah;rw[Q7]at oB;have dx:(((wD n).length:Int)=1)=False:=aV (by omega);unfold yx;by_cases ab:n=2
     ·rw[aC ab];simp-implicitDefEqProofs[hle,cE,oB,dx,aY]
     ·rw[au ab];simp-implicitDefEqProofs[hle,cE,oB,dx,aY]
  ·have hle:((n:Int)<=(M:Int))=False:=aV (by omega);have Hw:M+1-n=0:=by omega
   rw[Hw]at ah;unfold Ht at ah;unfold yx;by_cases ab:n=2
   ·rw[aC ab];simp-implicitDefEqProofs[hle];refine dT.fold 6 5 (dT.fold 6 6 (dT.done ?_));have Hx:=Le {r with bd:=ap,block:=b};rw[bm]at Hx;simp-implicitDefEqProofs;refine aA.of Hx ?_;generalize ji {r with bd:=ap,block:=b}=F at*;by_cases bc:F=0
    ·rw[au (by simp[bc])]at ah;subst ah bc;simp-implicitDefEqProofs[bm]
    ·rw[aC bc]at ah;subst ah;have iI:(F=0)=False:=aV bc;simp-implicitDefEqProofs[aY,iI]
   ·rw[au ab];simp-implicitDefEqProofs[hle];refine dT.fold 6 5 (dT.fold 6 6 (dT.done ?_));have Hx:=Le {r with bd:=ap,block:=b};rw[bm]at Hx;simp-implicitDefEqProofs;refine aA.of Hx ?_;generalize ji {r with bd:=ap,block:=b}=F at*;by_cases bc:F=0
    ·rw[au (by simp[bc])]at ah;subst ah bc;simp-implicitDefEqProofs[bm]
    ·rw[aC bc]at ah;subst ah;have iI:(F=0)=False:=aV bc;simp-implicitDefEqProofs[aY,iI]
def YE{α:Type}[DecidableEq α]:∀{l m:List α},l.Nodup->(∀x∈l,x∈m)->l.length<=m.length
 |[],_,_,_=>cd _
 |x::l,m,aT,ap=>by
  rw[vi]at aT;have aa:=YE (l:=l) (m:=m.erase x) aT.2 (fun y aS=>by have bC:y≠x:=fun e=>aT.1 (e▸aS);exact(List.mem_erase_of_ne bC).2 (ap y (l3 _ aS)))
  have aj:x∈m:=ap x (by simp);rw[List.length_erase_of_mem aj]at aa;have:0<m.length:=List.length_pos_of_mem aj;simp only[eg];omega
def YF:∀{l:List Rec} {seen:List (List UInt8)} {n:Nat},A3 seen n l=0->∀r∈l,ji r=0
 |[],_,_,_=>by simp
 |r::l,seen,n,h=>by
  unfold A3 at h;split at h
  ·rename_i aa;exact absurd h aa
  ·rename_i aa;split at h
   ·cases h
   ·intro x aj;rcases eT.1 aj with rfl|aj
    ·exact te aa
    ·exact YF h x aj
def Lm{l:List Rec}(h:nk l=0):l.length<=1000/\∀r∈l,ji r=0:=by
 unfold nk at h;split at h
 ·cases h
 ·exact⟨by omega,YF h⟩
def Ln(l:List Rec):Nat->List (List UInt8)->List UInt8->List UInt8×Int
 |0,_,_=>([],0)
 |k+1,seen,w=>
  if (rr l w).isSome=false then ([],9)
  else if w∈seen then ([],17)
  else if (findD l w).kind=4 then Ln l k (seen++[w]) (findD l w).of
  else ((uO l w).1.block,(uO l w).2)
def ru(l:List Rec)(w:List UInt8):List UInt8×Int:=if nk l≠0 then ([],nk l)else Ln l (l.length+1) [] w
def zlo{l:List Rec}{w:List UInt8}(h:(rr l w).isSome=true):w∈l.map Rec.id:=by
 unfold rr at h;cases ay:l.findIdx? fun r=>r.id==w with
 |none=>rw[ay]at h;cases h
 |some i=>obtain⟨ai,he,_⟩:=s8.1 ay;exact hh.2 ⟨l[i],jN ai,by simpa using he⟩
def Hy(l:List Rec)(x:List (List UInt8)×List UInt8):List (Nat×ad):=
 [(0,.x (.one (.list 7 (l.map Rec.row)))),(1,.x (.one (.str x.2)))]++(if x.1=[]then [(7,.own 9 1 (x.1.map fun s=>[af.str s]))]else [(7,.alias 34),(34,.own 9 1 (x.1.map fun s=>[af.str s]))])
def zlp(l:List Rec)(w:List UInt8)(al:l.length<=1000000000):aD prog 40 [jj l,.one (.str w)] (.b2 [.one (dj (ru l w).1),.one (.int .i64 (ru l w).2)]):=by
 obtain⟨R,aR⟩:∃R,R=ru l w:=⟨_,rfl⟩
 rw[<-aR];unfold ru at aR;have aF:=Yd l;have aY:j6.row=[.int .i64 0,.str [],.str [],.int .i64 0,.str [],.list 2 [],.list 1 []]:=rfl;have bm:∀x:Rec,x.row=[.int .i64 x.kind,.str x.id,.str x.of,.int .i64 x.time,.str x.key,.list 2 (x.bd.map Head.row),dj x.block]:=fun _=>rfl;unfold jj at*;refine @aD.of _ (xM [(11,[1,1,1,4,7,7,1,0])]) _ _ _ _ _ mixed (fn:=f40) (by kernel_rfl) (by kernel_rfl) rfl (by kernel_rfl) (by simp[f40]) (fun aE=>?_);simp-implicitDefEqProofs;refine aA.of aF ?_;by_cases aW:nk l=0;rotate_left
 ·rw[aC aW]at aR;subst aR;have lQ:(nk l=0)=False:=aV aW;simp-implicitDefEqProofs[lQ]
 rw[au (by simp[aW])]at aR;rw[aW];obtain⟨du,aE⟩:=Lm aW;simp-implicitDefEqProofs;refine cI.of (List (List UInt8)×List UInt8) (Hy l)
  (fun x=>(x.1.Nodup/\∀s∈x.1,s∈l.map Rec.id)/\R=Ln l (l.length+1-x.1.length) x.1 x.2) (fun x=>l.length+1-x.1.length) ([],w) ⟨⟨by simp,by simp⟩,aR⟩ ?_ ?_
 ·simp[Hy]
 rintro⟨seen,w⟩ ⟨⟨fP,da⟩,ah⟩;dsimp only at fP da ah⊢;have hlen:=YE fP da;rw[w1]at hlen;obtain⟨n,aT⟩:∃n,n=l.length-seen.length:=⟨_,rfl⟩
 have Hw:l.length+1-seen.length=n+1:=by omega
 rw[Hw]at ah;unfold Ln at ah;have aP:=Yo l w (by omega);rw[bm (findD l w)]at aP;have B5:=YA (l:=l) (id:=w);have Lo:=zlo (l:=l) (w:=w);unfold jj at aP;generalize findD l w=r at*;generalize (rr l w).isSome=B at*;unfold Hy;by_cases aW:seen=[]
 ·subst aW;rw[aC rfl];simp-implicitDefEqProofs;refine aA.of aP ?_;cases B
  ·rw[aC rfl]at ah;subst ah;simp-implicitDefEqProofs
  rw[au (by decide)]at ah;have a7:=AN [] w;simp-implicitDefEqProofs;refine aA.of a7 ?_;by_cases hm:w∈([]:List (List UInt8))
  ·rw[aC hm]at ah;subst ah;have ip:decide (w∈([]:List (List UInt8)))=true:=s6 hm;rw[ip];simp-implicitDefEqProofs
  rw[au hm]at ah;have ip:decide (w∈([]:List (List UInt8)))=false:=nb hm;rw[ip];by_cases aN:r.kind=4
  ·rw[aC aN]at ah;have u4:(r.kind=4)=True:=aL aN;simp-implicitDefEqProofs[u4];refine bI.of ([]++[w],r.of) ⟨⟨by rw[Gg];exact⟨fP,by simp,fun a bj b ae e=>by rw[qN]at ae;subst ae e;exact hm bj⟩,fun s ap=>(gv.1 ap).elim (da s) fun h=>by rw[qN]at h;subst h;exact Lo rfl⟩,by rw[ah];simp only[eE,rT];congr 1⟩ (by simp only[eE,rT];omega) ?_;simp
  rw[au aN]at ah;have u4:(r.kind=4)=False:=aV aN;have b1:=YB l w du aE;rw[bm (uO l w).1]at b1;generalize uO l w=J at*;subst ah;unfold jj at b1;simp-implicitDefEqProofs[u4];refine aA.of b1 ?_;simp-implicitDefEqProofs
 ·rw[au aW];simp-implicitDefEqProofs;refine aA.of aP ?_;cases B
  ·rw[aC rfl]at ah;subst ah;simp-implicitDefEqProofs
  rw[au (by decide)]at ah;have a7:=AN seen w;simp-implicitDefEqProofs;refine aA.of a7 ?_;by_cases hm:w∈seen
  ·rw[aC hm]at ah;subst ah;have ip:decide (w∈seen)=true:=s6 hm;rw[ip];simp-implicitDefEqProofs
  rw[au hm]at ah;have ip:decide (w∈seen)=false:=nb hm;rw[ip];by_cases aN:r.kind=4
  ·rw[aC aN]at ah;have u4:(r.kind=4)=True:=aL aN;simp-implicitDefEqProofs[u4];refine⟨⟨by omega,by unfold maxLen;omega⟩,?_⟩;refine bI.of (seen++[w],r.of) ⟨⟨by rw[Gg];exact⟨fP,by simp,fun a bj b ae e=>by rw[qN]at ae;subst ae e;exact hm bj⟩,fun s ap=>(gv.1 ap).elim (da s) fun h=>by rw[qN]at h;subst h;exact Lo rfl⟩,by rw[ah];simp only[eE,rT];congr 1;omega⟩ (by simp only[eE,rT];omega) ?_;simp
  rw[au aN]at ah;have u4:(r.kind=4)=False:=aV aN;have b1:=YB l w du aE;rw[bm (uO l w).1]at b1;generalize uO l w=J at*;subst ah;unfold jj at b1;simp-implicitDefEqProofs[u4];refine aA.of b1 ?_;simp-implicitDefEqProofs
set_option maxHeartbeats 4000000
def il(ap:List Head)(w:List UInt8):List (List UInt8):=(ap.filter fun h=>cD h.name==w).map Head.value
def zlq(ap:List Head)(w:List UInt8):(il ap w).length<=ap.length:=by unfold il;rw[w1];exact KW _ _
def YG(ap:List Head)(w:List UInt8)(h:Head):il (ap++[h]) w=il ap w++(if cD h.name=w then [h.value]else []):=by
 unfold il;rw[List.filter_append,vn];congr 1;by_cases a1:cD h.name=w
 ·rw[aC a1];simp[a1]
 ·rw[au a1];simp[a1]
def Lp(l:List Head)(w:List UInt8)(al:l.length<=1000000000):aD prog 131 [wi l,.one (.str w)] (.x (strs (il l w))):=by
 refine aD.a6 f131 mixed fun aE=>?_;simp-implicitDefEqProofs;refine cI.of Nat (fun i=>[(1,.x (.one (.str w))),(5,.own 9 1 ((il (l.take i) w).map fun s=>[af.str s])),(8,.x (.one (.list 2 (l.map Head.row)))),(9,.x (.one (.int .i64 l.length))),(10,.x (.one (.int .i64 i)))]) (fun i=>i<=l.length) (fun i=>l.length-i) 0 (cd _) ?_ ?_
 ·simp[il]
 rintro i ai;by_cases aq:i<l.length
 ·have aO:((i:Int)<(l.length:Int))=True:=aL (by omega);have bG:i64.wrap ((i:Int)+1)=(i:Int)+1:=bk _ (by omega);have bm:l[i].row=[.str l[i].name,.str l[i].value]:=rfl;have ge:l.take (i+1)=l.take i++[l[i]]:=nF aq;have aH:(il (l.take i) w).length<=i:=iJ (zlq _ _) (by rw[d'];omega);simp-implicitDefEqProofs[aq,aO,bm];refine aA.of (q6 l[i].name) ?_;by_cases a1:cD l[i].name=w
  ·have Q8:(cD l[i].name=w)=True:=aL a1;simp-implicitDefEqProofs[Q8];refine⟨⟨by omega,by unfold maxLen;omega⟩,?_⟩;refine bI.of (i+1) aq (by omega) ?_;have cY:il (l.take (i+1)) w=il (l.take i) w++[l[i].value]:=by rw[ge,YG,aC a1]
   simp[bG,cY]
  ·have Q8:(cD l[i].name=w)=False:=aV a1;simp-implicitDefEqProofs[Q8];refine bI.of (i+1) aq (by omega) ?_;have cY:il (l.take (i+1)) w=il (l.take i) w:=by rw[ge,YG,au a1,wO]
   simp[bG,cY]
 ·have aO:((i:Int)<(l.length:Int))=False:=aV (by omega);obtain rfl:i=l.length:=by omega
  simp-implicitDefEqProofs[aO]
def zlr(l:List Head)(w:List UInt8)(al:l.length<=1000000000):aD prog 159 [wi l,.one (.str w)] (.b2 [.one (.str ((il l w).headD [])),.one (.bool ((il l w).length != 0))]):=by
 have k:=Lp l w al;refine aD.a6 f159 mixed fun aE=>?_;simp-implicitDefEqProofs;refine aA.of k ?_;cases il l w with
 |nil=>simp-implicitDefEqProofs
 |cons a r=>have aW:((r.length:Int)+1=0)=False:=aV (by omega);simp-implicitDefEqProofs[aW]
def yz(c:UInt8):Nat:=if 48<=c.toNat/\c.toNat<=57 then c.toNat-48 else if 97<=c.toNat/\c.toNat<=102 then c.toNat-87 else if 65<=c.toNat/\c.toNat<=70 then c.toNat-55 else 16
def zls(c:UInt8):yz c<=16:=by unfold yz;split<;>(try split)<;>(try split)<;>omega
def zlt(c:UInt8):aD prog 195 [q5 c] (.x (.one (.int .i64 (yz c)))):=by
 have ao:=c.toNat_lt;obtain⟨n,aT⟩:∃n,n=c.toNat:=⟨_,rfl⟩
 unfold yz;unfold q5;rw[<-aT]at ao⊢;refine aD.a6 f195 mixed fun aE=>?_;by_cases aa:48<=n/\n<=57
 ·have de:(48<=(n:Int))=True:=aL (by omega);have a2:((n:Int)<=57)=True:=aL (by omega);have a3:u8.wrap ((n:Int)-48)=((n-48:Nat):Int):=by simp[IntKind.wrap,IntKind.signed,IntKind.bits];omega
  have a4:i64.wrap ((n-48:Nat):Int)=((n-48:Nat):Int):=bk _ (by omega);rw[aC aa];simp-implicitDefEqProofs[de,a2,a3,a4]
 rw[au aa];have ef:(if 48<=(n:Int)then decide ((n:Int)<=57)else false)=false:=by
  split
  ·rw[nb];omega
  ·rfl
 have dv:(decide (48<=(n:Int))&&decide ((n:Int)<=57))=false:=by rw[cJ,Dl,Dl];omega
 have zJy:¬48<=n\/¬n<=57:=by omega
 by_cases ab:97<=n/\n<=102
 ·rw[aC ab];have de:(48<=(n:Int))=True:=aL (by omega);have a2:((n:Int)<=57)=False:=aV (by omega);have a5:(97<=(n:Int))=True:=aL (by omega);have lJ:((n:Int)<=102)=True:=aL (by omega);have a3:u8.wrap ((n:Int)-97)=((n-97:Nat):Int):=by simp[IntKind.wrap,IntKind.signed,IntKind.bits];omega
  have a4:i64.wrap ((n-97:Nat):Int)=((n-97:Nat):Int):=bk _ (by omega);have Ao:i64.wrap (((n-97:Nat):Int)+10)=((n-87:Nat):Int):=by rw[bk _ (by omega)];omega
  simp-implicitDefEqProofs[de,a2,a3,a4,a5,lJ,Ao]
 rw[au ab];by_cases ar:65<=n/\n<=70
 ·rw[aC ar];have de:(48<=(n:Int))=True:=aL (by omega);have a2:((n:Int)<=57)=False:=aV (by omega);have a5:(97<=(n:Int))=False:=aV (by omega);have lJ:(65<=(n:Int))=True:=aL (by omega);have Pu:((n:Int)<=70)=True:=aL (by omega);have a3:u8.wrap ((n:Int)-65)=((n-65:Nat):Int):=by simp[IntKind.wrap,IntKind.signed,IntKind.bits];omega
  have a4:i64.wrap ((n-65:Nat):Int)=((n-65:Nat):Int):=bk _ (by omega);have Ao:i64.wrap (((n-65:Nat):Int)+10)=((n-55:Nat):Int):=by rw[bk _ (by omega)];omega
  simp-implicitDefEqProofs[de,a2,a3,a4,a5,lJ,Ao,Pu]
 rw[au ar];by_cases bA:48<=n<;>by_cases c2:n<=57<;>by_cases c3:97<=n<;>by_cases c4:n<=102<;>by_cases c5:65<=n<;>by_cases jg:n<=70<;>first
 |(exfalso;omega)
 |(have d1:(48<=(n:Int))=(48<=n):=by apply propext;omega
   have d2:((n:Int)<=57)=(n<=57):=by apply propext;omega
   have d3:(97<=(n:Int))=(97<=n):=by apply propext;omega
   have d4:((n:Int)<=102)=(n<=102):=by apply propext;omega
   have d5:(65<=(n:Int))=(65<=n):=by apply propext;omega
   have d6:((n:Int)<=70)=(n<=70):=by apply propext;omega
   simp-implicitDefEqProofs[d1,d2,d3,d4,d5,d6,bA,c2,c3,c4,c5,jg])
def jH:List UInt8->List UInt8->Nat
 |_,[]=>0
 |[],_::_=>1
 |c::b,d::w=>if c=d then jH b w else 2
def YH(b:List UInt8)(w:List UInt8)(ae:b.length<=1000000000)(hw:w.length<=1000):aD prog 196 [.one (dj b),.one (.str w)] (.x (.one (.int .i64 (jH b w)))):=by
 have dg:=j4 b;obtain⟨F,a8⟩:∃F,F=jH b w:=⟨_,rfl⟩
 rw[<-a8];refine aD.a6 f196 mixed fun aE=>?_;simp-implicitDefEqProofs;refine cI.of Nat (fun i=>[(0,.x (.one (dj b))),(1,.x (.one (.str w))),(6,.x (.one (.str w))),(7,.x (.one (.int .i64 w.length))),(8,.x (.one (.int .i64 i)))])
  (fun i=>i<=w.length/\i<=b.length/\F=jH (b.drop i) (w.drop i)) (fun i=>w.length-i) 0 ⟨cd _,cd _,a8⟩ ?_ ?_
 ·simp
 rintro i ⟨ai,zJz,bc⟩;by_cases aq:i<w.length
 ·have aO:((i:Int)<(w.length:Int))=True:=aL (by omega);have bG:i64.wrap ((i:Int)+1)=(i:Int)+1:=bk _ (by omega);rw[g' aq]at bc;by_cases k4:i<b.length
  ·have Lq:((b.length:Int)<=(i:Int))=False:=aV (by omega);rw[g' k4]at bc;unfold jH at bc;have bO:∀h,(bL b)[i]'h=[.int .u8 b[i].toNat]:=fun h=>by simp[bL,g_]
   have oc:w[i]?=some w[i]:=cn aq;by_cases ao:b[i]=w[i]
   ·rw[aC ao]at bc;have Q9:((b[i].toNat:Int)=(w[i].toNat:Int))=True:=aL (by rw[ao]);simp-implicitDefEqProofs[dg,aq,aO,k4,Lq,bO,Q9];refine bI.of (i+1) ⟨aq,k4,bc⟩ (by omega) ?_;simp[bG]
   ·rw[au ao]at bc;subst bc;have Q9:((b[i].toNat:Int)=(w[i].toNat:Int))=False:=aV fun h=>ao (uw.1 (by omega));simp-implicitDefEqProofs[dg,aq,aO,k4,Lq,bO,Q9]
  ·have Lq:((b.length:Int)<=(i:Int))=True:=aL (by omega);have:b.drop i=[]:=kf (by omega);rw[this]at bc;unfold jH at bc;subst bc;simp-implicitDefEqProofs[dg,aO,Lq]
 ·have aO:((i:Int)<(w.length:Int))=False:=aV (by omega);have:w.drop i=[]:=kf (by omega);rw[this]at bc;have zlu:jH (b.drop i) []=0:=by cases b.drop i<;>rfl
  rw[zlu]at bc;subst bc;simp-implicitDefEqProofs[aO]
def Hz:List UInt8:=[99,111,100,105,110,103]
def YI:List UInt8:=[99,104,117,110,107,101,100]
def YJ(v:List UInt8):Nat:=if 9<v.length then 200001 else min (dk v) 200001
def od(ap:List Head):Nat×Bool:=match il ap lN with
 |[v]=>if mu 1000 v=true then (YJ v,true)else (0,false)
 |_=>(0,false)
def YK(l:List Head)(al:l.length<=1000000000):aD prog 74 [wi l] (.b2 [.one (.int .i64 (od l).1),.one (.bool (od l).2)]):=by
 have k:=Lp l lN al;unfold od;generalize il l lN=V at*;unfold lN at k;refine aD.a6 f74 mixed fun aE=>?_;simp-implicitDefEqProofs;refine aA.of k ?_
 match V with
 |[]=>simp-implicitDefEqProofs;refine bp.of (fun h=>by cases h) (r:=.x (.one (.bool false))) rfl ?_;simp-implicitDefEqProofs
 |[v]=>
  have aP:=K4 1000 (by omega) v;dsimp only;simp-implicitDefEqProofs;refine bp.of (fun _=>aP) rfl ?_;cases h:mu 1000 v
  ·simp-implicitDefEqProofs
  ·obtain⟨aa,ab,ar⟩:=DJ h;unfold YJ;by_cases hN:9<v.length
   ·have Q_:(9<(v.length:Int))=True:=aL (by omega);rw[aC rfl,aC hN];simp-implicitDefEqProofs[Q_]
   ·have Q_:(9<(v.length:Int))=False:=aV (by omega);rw[aC rfl,au hN];have a7:=Hb v _ (by omega) aa;simp-implicitDefEqProofs[Q_];refine aA.of a7 ?_;simp-implicitDefEqProofs;omega
 |a::b::r=>dsimp only;have aa:((r.length:Int)+1+1=1)=False:=aV (by omega);simp-implicitDefEqProofs[aa];refine bp.of (fun h=>by cases h) (r:=.x (.one (.bool false))) rfl ?_;simp-implicitDefEqProofs
structure kC where
 st:Int
 iV:List UInt8
 ap:List Head
 my:List UInt8
def kC.row(a:kC):List af:=[.int .i64 a.st,.str a.iV,.list 2 (a.ap.map Head.row),dj a.my]
def oe:kC:=⟨0,[],[],[]⟩
def yA(a:kC):Int:=if a.st<100\/599<a.st then 1 else if n8 a.iV=false then 3 else s7 a.ap
def YL(a:kC):aD prog 75 [.agg a.row] (.x (.one (.int .i64 (yA a)))):=by
 have bm:a.row=[.int .i64 a.st,.str a.iV,.list 2 (a.ap.map Head.row),dj a.my]:=rfl;rw[bm];unfold yA;refine aD.a6 f75 mixed fun aE=>?_;have aF:=Xl a.iV;have aP:=Xm a.ap;by_cases bA:a.st<100
 ·have gJ:(a.st<100)=True:=aL bA;rw[aC (.inl bA)];simp-implicitDefEqProofs[gJ]
 have gJ:(a.st<100)=False:=aV bA;by_cases c2:599<a.st
 ·have ii:(599<a.st)=True:=aL c2;rw[aC (.inr c2)];simp-implicitDefEqProofs[gJ,ii]
 have ii:(599<a.st)=False:=aV c2;rw[au (by omega)];simp-implicitDefEqProofs[gJ,ii];refine aA.of aF ?_;cases n8 a.iV
 ·simp-implicitDefEqProofs
 ·simp-implicitDefEqProofs;refine aA.of aP ?_;simp-implicitDefEqProofs
def rv(a:kC):Int:=
 if a.st<200\/a.st=204\/a.st=304 then 1
 else if il a.ap Hz=[YI]then 3
 else if 0<(il a.ap Hz).length then 0
 else if (il a.ap lN).length=0 then 4
 else if (od a.ap).2=true then 2 else 0
def zlv(a:kC)(al:a.ap.length<=1000000000):aD prog 76 [.agg a.row] (.x (.one (.int .i64 (rv a)))):=by
 have bm:a.row=[.int .i64 a.st,.str a.iV,.list 2 (a.ap.map Head.row),dj a.my]:=rfl;obtain⟨F,a8⟩:∃F,F=rv a:=⟨_,rfl⟩
 rw[bm,<-a8];clear bm;obtain⟨st,iV,ap,my⟩:=a;dsimp only at al⊢;have aF:=Lp ap Hz al;have aP:=Lp ap lN al;have a7:=YK ap al;unfold rv at a8;dsimp only at a8;generalize il ap Hz=C at*;generalize il ap lN=L at*;generalize od ap=N at*;obtain⟨X0,QL⟩:=N;unfold Hz at aF;unfold lN at aP;dsimp only at a7 a8;refine aD.a6 f76 mixed fun aE=>?_;simp-implicitDefEqProofs;refine aA.of aF ?_;simp-implicitDefEqProofs;refine aA.of aP ?_;by_cases bA:st<200
 ·have gJ:(st<200)=True:=aL bA;rw[aC (.inl bA)]at a8;subst a8;simp-implicitDefEqProofs[gJ]
 have gJ:(st<200)=False:=aV bA;by_cases c2:st=204
 ·rw[aC (.inr (.inl c2))]at a8;subst a8 c2;simp-implicitDefEqProofs
 have ii:(st=204)=False:=aV c2;by_cases c3:st=304
 ·rw[aC (.inr (.inr c3))]at a8;subst a8 c3;simp-implicitDefEqProofs
 have uQ:(st=304)=False:=aV c3;rw[au (by omega)]at a8
 match C with
 |[]=>
  rw[au (by simp),au (by simp)]at a8;cases L with
  |nil=>rw[aC (by simp)]at a8;subst a8;simp-implicitDefEqProofs[gJ,ii,uQ]
  |cons p q=>
   rw[au (by simp)]at a8;have bE:((q.length:Int)+1=0)=False:=aV (by omega);simp-implicitDefEqProofs[gJ,ii,uQ,bE];refine aA.of a7 ?_;cases QL
   ·rw[au (by decide)]at a8;subst a8;simp-implicitDefEqProofs
   ·rw[aC rfl]at a8;subst a8;simp-implicitDefEqProofs
 |[p]=>
  by_cases h:p=YI
  ·rw[aC (by rw[h])]at a8;subst a8;have bE:(p=[99,104,117,110,107,101,100])=True:=aL h;simp-implicitDefEqProofs[gJ,ii,uQ,bE]
  ·rw[au (by simpa using h),aC (by simp)]at a8;subst a8;have bE:(p=[99,104,117,110,107,101,100])=False:=aV h;simp-implicitDefEqProofs[gJ,ii,uQ,bE]
 |p::q::r=>rw[au (by simp),aC (by simp)]at a8;subst a8;have aa:((r.length:Int)+1+1=1)=False:=aV (by omega);have ab:(0<(r.length:Int)+1+1)=True:=aL (by omega);simp-implicitDefEqProofs[gJ,ii,uQ,aa,ab]
def qe(b:List UInt8):Nat->List Head->Nat->List Head×Nat×Bool
 |0,_,_=>([],b.length,false)
 |k+1,acc,a=>
  if a<b.length then
   if kB b a=false then ([],a,false)
   else if fx b a=[]then (acc,gX b a,true)
   else if (yq (fx b a)).isSome=false then ([],a,false)
   else qe b k (acc++[headD (fx b a)]) (gX b a)
  else ([],b.length,false)
def wE(b:List UInt8)(a:Nat):List Head×Nat×Bool:=qe b (b.length-a+1) [] a
def YM{b:List UInt8}:∀(n m:Nat) (acc:List Head) (a:Nat),a<=b.length->b.length-a<n->b.length-a<m->qe b n acc a=qe b m acc a
 |0,_,_,_,_,h,_=>by omega
 |_,0,_,_,_,_,h=>by omega
 |n+1,m+1,acc,a,h,aa,ab=>by
  unfold qe;by_cases aq:a<b.length
  ·rw[aC aq,aC aq];cases ao:kB b a
   ·rfl
   ·have aB:=DQ ao;rw[YM n m _ _ (o6 h) (by omega) (by omega)]
  ·rw[au aq,au aq]
def zlw(b:List UInt8)(a:Nat)(ae:b.length<=16777216)(bj:a<=b.length):aD prog 130 [.one (dj b),.one (.int .i64 a)] (.b2 [wi (wE b a).1,.one (.int .i64 (wE b a).2.1),.one (.bool (wE b a).2.2)]):=by
 obtain⟨R,aR⟩:∃R,R=wE b a:=⟨_,rfl⟩
 rw[<-aR];unfold wE at aR;have dg:=j4 b;refine aD.a6 f130 mixed fun aE=>?_;simp-implicitDefEqProofs;refine cI.of (List Head×Nat) (fun x=>[(0,.x (.one (dj b))),(1,.x (.one (.int .i64 x.2))),(7,.own 212 2 (x.1.map Head.row))])
  (fun x=>(x.2<=b.length/\x.1.length<=x.2)/\R=qe b (b.length-x.2+1) x.1 x.2) (fun x=>b.length-x.2) ([],a) ⟨⟨bj,cd _⟩,aR⟩ ?_ ?_
 ·simp
 rintro⟨acc,a⟩ ⟨⟨bj,pC⟩,ah⟩;dsimp only at bj pC ah⊢;unfold qe at ah;by_cases aq:a<b.length
 ·rw[aC aq]at ah;have aO:((a:Int)<(b.length:Int))=True:=aL (by omega);have aF:=G_ b a ae bj;have aB:=DQ (b:=b) (a:=a);have hle:=o6 bj;have fg:=Ql b a;have aP:=XJ (fx b a) (by omega);have b3:kB b a=true->qe b (b.length-a) (acc++[headD (fx b a)]) (gX b a)=qe b (b.length-gX b a+1) (acc++[headD (fx b a)]) (gX b a):=fun h=>YM _ _ _ _ hle (by have:=aB h;omega) (by omega);have bm:∀h:Head,h.row=[.str h.name,.str h.value]:=fun _=>rfl;rw[bm]at aP;generalize kB b a=B at*;generalize gX b a=n at*;generalize headD (fx b a)=H at*;generalize (yq (fx b a)).isSome=O at*;generalize fx b a=S at*;simp-implicitDefEqProofs[dg,aO];refine aA.of aF ?_;cases B
  ·rw[aC rfl]at ah;subst ah;simp-implicitDefEqProofs
  rw[au (by decide)]at ah;by_cases bW:S=[]
  ·rw[aC bW]at ah;subst ah bW;simp-implicitDefEqProofs
  rw[au bW]at ah;have Xu:(S=[])=False:=aV bW;simp-implicitDefEqProofs[Xu];refine aA.of aP ?_;cases O
  ·rw[aC rfl]at ah;subst ah;simp-implicitDefEqProofs
  rw[au (by decide),b3 rfl]at ah;have aB:=aB rfl;simp-implicitDefEqProofs;refine⟨⟨by omega,by unfold maxLen;omega⟩,?_⟩;refine bI.of (acc++[H],n) ⟨⟨hle,by simp only[eE,rT];omega⟩,ah⟩ (by simp only;omega) ?_;simp[bm]
 ·rw[au aq]at ah;subst ah;have aO:((a:Int)<(b.length:Int))=False:=aV (by omega);simp-implicitDefEqProofs[dg,aO]
def HA:List UInt8:=[87,69,66,47,49,32]
def qf(b:List UInt8):kC×Nat×Bool:=
 if kB b 0=false\/hH (fx b 0) HA=false\/(32:UInt8)∉(fx b 0).drop 6\/mu 9 (cu 32 ((fx b 0).drop 6))=false then (oe,0,false)
 else (⟨dk (cu 32 ((fx b 0).drop 6)),n1 32 ((fx b 0).drop 6),(wE b (gX b 0)).1,[]⟩,(wE b (gX b 0)).2.1,(wE b (gX b 0)).2.2)
def zlx(b:List UInt8)(ae:b.length<=16777216):aD prog 73 [.one (dj b)] (.b2 [.agg (qf b).1.row,.one (.int .i64 (qf b).2.1),.one (.bool (qf b).2.2)]):=by
 have aY:oe.row=[.int .i64 0,.str [],.list 2 [],.list 1 []]:=rfl;have bm:∀a:kC,a.row=[.int .i64 a.st,.str a.iV,.list 2 (a.ap.map Head.row),dj a.my]:=fun _=>rfl;obtain⟨R,aR⟩:∃R,R=qf b:=⟨_,rfl⟩
 rw[<-aR];unfold qf at aR;have aF:=G_ b 0 ae (cd _);have aP:=Xw (fx b 0) HA;have dZ:=zlw b (gX b 0) ae (o6 (cd _));generalize kB b 0=B at*;generalize gX b 0=n at*;generalize fx b 0=S at*;generalize wE b n=H at*;have b9:HA.length=6:=rfl;rw[b9]at aP;generalize hH S HA=P at*;have av:P=true->(if P=true then S.drop 6 else S)=S.drop 6:=fun h=>by rw[aC h]
 have a7:=KN (if P=true then S.drop 6 else S) 32;have b1:=K4 9 (by omega) (cu 32 (if P=true then S.drop 6 else S));unfold HA at aP;refine aD.a6 f73 mixed fun aE=>?_;simp-implicitDefEqProofs;refine aA.of aF ?_;simp-implicitDefEqProofs;refine aA.of aP ?_;simp-implicitDefEqProofs;refine aA.of a7 ?_;cases B
 ·rw[aC (.inl rfl)]at aR;subst aR;simp-implicitDefEqProofs;refine bp.of (fun h=>by cases h) (r:=.x (.one (.bool false))) rfl ?_;simp-implicitDefEqProofs[aY]
 cases P
 ·rw[aC (.inr (.inl rfl))]at aR;subst aR;simp-implicitDefEqProofs;refine bp.of (fun h=>by cases h) (r:=.x (.one (.bool false))) rfl ?_;simp-implicitDefEqProofs[aY]
 rw[av rfl]at a7 b1⊢;generalize S.drop 6=T at*;by_cases hm:(32:UInt8)∈T;rotate_left
 ·rw[aC (.inr (.inr (.inl hm)))]at aR;subst aR;have dK:((32:UInt8)∈T)=False:=aV hm;simp-implicitDefEqProofs[dK];refine bp.of (fun h=>by cases h) (r:=.x (.one (.bool false))) rfl ?_;simp-implicitDefEqProofs[aY]
 have dK:((32:UInt8)∈T)=True:=aL hm;simp-implicitDefEqProofs[dK];refine bp.of (fun _=>b1) rfl ?_;cases am:mu 9 (cu 32 T)
 ·rw[aC (.inr (.inr (.inr am)))]at aR;subst aR;simp-implicitDefEqProofs[aY]
 obtain⟨aa,ab,ar⟩:=DJ am;have jV:=Hb (cu 32 T) _ (by omega) aa;rw[au (by simp[am,hm])]at aR;subst aR;simp-implicitDefEqProofs;refine aA.of jV ?_;simp-implicitDefEqProofs;refine aA.of dZ ?_;simp-implicitDefEqProofs[bm]
def Lr:∀{w b:List UInt8},jH b w=0->w.length<=b.length
 |[],b,_=>cd _
 |d::w,[],h=>by unfold jH at h;cases h
 |d::w,c::b,h=>by
  unfold jH at h;by_cases ao:c=d
  ·rw[aC ao]at h;have:=Lr h;simp only[eg];omega
  ·rw[au ao]at h;cases h
def HB:∀(b w:List UInt8),jH b w<=2
 |_,[]=>by unfold jH;omega
 |[],_::_=>by unfold jH;omega
 |c::b,d::w=>by
  unfold jH;split
  ·exact HB b w
  ·omega
def zly{a b:Nat}(h:a<b):(a<=b)=True:=aL (by omega)
def uR:Nat->Nat->List UInt8->Option (Nat×Nat)
 |i,n,[]=>some (i,n)
 |i,n,c::r=>if yz c<16 then (if 0<i/\n=0 then none else if 65536<16*n+yz c then none else uR (i+1) (16*n+yz c) r)else some (i,n)
def mz:List UInt8:=[13,10]
def hg(b:List UInt8):List UInt8×Nat×Nat:=match uR 0 0 b with
 |none=>([],0,2)
 |some (i,n)=>
  if i=b.length then ([],0,1)
  else if i=0 then ([],0,2)
  else if jH (b.drop i) mz≠0 then ([],0,jH (b.drop i) mz)
  else if b.length-(i+2)<n then ([],0,1)
  else if jH (b.drop (i+2+n)) mz≠0 then ([],0,jH (b.drop (i+2+n)) mz)
  else ((b.drop (i+2)).take n,i+2+n+2,0)
def zlz(b:List UInt8)(ae:b.length<=16777216):aD prog 134 [.one (dj b)] (.b2 [.one (dj (hg b).1),.one (.int .i64 (hg b).2.1),.one (.int .i64 (hg b).2.2)]):=by
 obtain⟨R,aR⟩:∃R,R=hg b:=⟨_,rfl⟩
 rw[<-aR];unfold hg at aR;have dg:=j4 b;refine aD.a6 f134 mixed fun aE=>?_;simp-implicitDefEqProofs;refine cI.of (Nat×Nat) (fun x=>[(0,.x (.one (dj b))),(5,.x (.one (.int .i64 x.2))),(6,.x (.one (.int .i64 x.1)))])
  (fun x=>(x.1<=b.length/\x.2<=65536)/\uR 0 0 b=uR x.1 x.2 (b.drop x.1)) (fun x=>b.length-x.1) (0,0) ⟨⟨cd _,cd _⟩,rfl⟩ ?_ ?_
 ·simp
 rintro⟨i,n⟩ ⟨⟨ai,aT⟩,bW⟩;dsimp only at ai aT bW⊢;rw[bW]at aR;by_cases aq:i<b.length
 ·have aO:((i:Int)<(b.length:Int))=True:=aL (by omega);have bO:∀h,(bL b)[i]'h=[.int .u8 b[i].toNat]:=fun h=>by simp[bL,g_]
  have fQ:=g' aq;have aF:=zlt b[i];have aH:=zls b[i];rw[fQ]at aR;unfold uR at aR;simp-implicitDefEqProofs[dg,aq,aO,bO];refine bp.of (fun _=>aF) rfl ?_;obtain⟨v,Gf⟩:∃v,v=yz b[i]:=⟨_,rfl⟩
  rw[<-Gf]at aF aH aR⊢;by_cases Ax:v<16
  ·rw[aC Ax]at aR;have yB:((v:Int)<16)=True:=aL (by omega);have At:((n:Int)=0)=(n=0):=by apply propext;omega
   have pH:(0<(i:Int))=(0<i):=by apply propext;omega
   have cH:i64.wrap (16*(n:Int))=16*(n:Int):=bk _ (by omega);have dW:i64.wrap (16*(n:Int)+(v:Int))=16*(n:Int)+(v:Int):=bk _ (by omega);have hs:i64.wrap ((i:Int)+1)=(i:Int)+1:=bk _ (by omega);by_cases aW:0<i/\n=0
   ·rw[aC aW]at aR;subst aR;have wF:=aL aW.1;have HC:=aL aW.2;simp-implicitDefEqProofs[yB,wF,HC]
   rw[au aW]at aR;have tM:65536<16*n+v->R=([],0,2):=fun h=>by rw[aC h]at aR;exact aR
   by_cases DY:65536<16*n+v
   ·have oH:(65536<16*(n:Int)+(v:Int))=True:=aL (by omega);have aR:=tM DY;subst aR;by_cases sW:0<i
    ·have wF:=aL sW;have HC:(n=0)=False:=aV fun h=>aW ⟨sW,h⟩;simp-implicitDefEqProofs[yB,wF,HC,dg,aq,aO,bO];refine aA.of aF ?_;simp-implicitDefEqProofs[cH,dW,oH]
    ·have wF:=aV sW;simp-implicitDefEqProofs[yB,wF,dg,aq,aO,bO];refine aA.of aF ?_;simp-implicitDefEqProofs[cH,dW,oH]
   ·rw[au DY]at aR;have oH:(65536<16*(n:Int)+(v:Int))=False:=aV (by omega);have YN:uR 0 0 b=uR (i+1) (16*n+v) (b.drop (i+1)):=by
     rw[bW,fQ]
     conv=>lhs;unfold uR
     rw[<-Gf,aC Ax,au aW,au DY]
    by_cases sW:0<i
    ·have wF:=aL sW;have HC:(n=0)=False:=aV fun h=>aW ⟨sW,h⟩;simp-implicitDefEqProofs[yB,wF,HC,dg,aq,aO,bO];refine aA.of aF ?_;simp-implicitDefEqProofs[cH,dW,oH];refine bI.of (i+1,16*n+v) ⟨⟨aq,by simp only;omega⟩,YN⟩ (by simp only;omega) ?_;simp[hs]
    ·have wF:=aV sW;simp-implicitDefEqProofs[yB,wF,dg,aq,aO,bO];refine aA.of aF ?_;simp-implicitDefEqProofs[cH,dW,oH];refine bI.of (i+1,16*n+v) ⟨⟨aq,by simp only;omega⟩,YN⟩ (by simp only;omega) ?_;simp[hs]
  ·rw[au Ax]at aR;have yB:((v:Int)<16)=False:=aV (by omega);dsimp only at aR;rw[au (by omega)]at aR;have i8:((i:Int)=(b.length:Int))=False:=aV (by omega);by_cases aW:i=0
   ·rw[aC aW]at aR;subst aR;subst aW;simp-implicitDefEqProofs[yB,dg];omega
   rw[au aW]at aR;have lQ:((i:Int)=0)=False:=aV (by omega);have HD:(i=0)=False:=aV aW;have bA:cutAt (bL b) (i:Int) (b.length:Int)=bL (b.drop i):=by unfold cutAt bL;rw[re,re,iv (by simp),AO]
   have aP:=YH (b.drop i) mz (by rw[eo];omega) (by decide);have Q':=Lr (w:=mz) (b:=b.drop i);generalize jH (b.drop i) mz=F at*;have gk:mz.length=2:=rfl;rw[gk,eo]at Q';unfold mz at aP;unfold dj at aP;have hle:=zly aq;simp-implicitDefEqProofs[yB,dg,i8,HD,bA,hle];refine aA.of aP ?_;by_cases bc:F=0;rotate_left
   ·rw[aC bc]at aR;subst aR;have iI:(F=0)=False:=aV bc;simp-implicitDefEqProofs[iI]
   rw[au (by simp[bc])]at aR;have Q':=Q' bc;subst bc;have q8:i64.wrap ((i:Int)+2)=(i:Int)+2:=bk _ (by omega);have yj:i64.wrap ((b.length:Int)-((i:Int)+2))=(b.length:Int)-((i:Int)+2):=bk _ (by omega);by_cases ap:b.length-(i+2)<n
   ·rw[aC ap]at aR;subst aR;have cO:((b.length:Int)-((i:Int)+2)<(n:Int))=True:=aL (by omega);simp-implicitDefEqProofs[dg,q8,yj,cO]
   rw[au ap]at aR;have cO:((b.length:Int)-((i:Int)+2)<(n:Int))=False:=aV (by omega);have yk:i64.wrap ((i:Int)+2+(n:Int))=(i:Int)+2+(n:Int):=bk _ (by omega);have AC:i64.wrap ((i:Int)+2+(n:Int)+2)=(i:Int)+2+(n:Int)+2:=bk _ (by omega);have c2:cutAt (bL b) ((i:Int)+2+(n:Int)) (b.length:Int)=bL (b.drop (i+2+n)):=by
    have:((i:Int)+2+(n:Int))=((i+2+n:Nat):Int):=by omega
    rw[this];unfold cutAt bL;rw[re,re,iv (by simp),AO]
   have c3:cutAt (bL b) ((i:Int)+2) ((i:Int)+2+(n:Int))=bL ((b.drop (i+2)).take n):=by
    have av:((i:Int)+2+(n:Int))=((i+2+n:Nat):Int):=by omega
    have aI:((i:Int)+2)=((i+2:Nat):Int):=by omega
    rw[av,aI];unfold cutAt bL;rw[re,re,yc,AO,EF];congr 1;omega
   have a7:=YH (b.drop (i+2+n)) mz (by rw[eo];omega) (by decide);generalize jH (b.drop (i+2+n)) mz=F at*;unfold mz at a7;unfold dj at a7;have fH:(0<=(i:Int)+2+(n:Int))=True:=aL (by omega);have YO:((i:Int)+2+(n:Int)<=(b.length:Int))=True:=aL (by omega);have zlA:(0<=(i:Int)+2)=True:=aL (by omega);have zlB:((i:Int)+2<=(i:Int)+2+(n:Int))=True:=aL (by omega);simp-implicitDefEqProofs[dg,q8,yj,yk,cO,c2,fH,YO];refine aA.of a7 ?_;by_cases bc:F=0;rotate_left
   ·rw[aC bc]at aR;subst aR;have iI:(F=0)=False:=aV bc;simp-implicitDefEqProofs[iI]
   rw[au (by simp[bc])]at aR;subst bc aR;simp-implicitDefEqProofs[dg,yk,AC,c3,YO,zlA,zlB]
 ·have aO:((i:Int)<(b.length:Int))=False:=aV (by omega);obtain rfl:i=b.length:=by omega
  have:b.drop b.length=[]:=Dj;rw[this]at aR;unfold uR at aR;dsimp only at aR;rw[aC rfl]at aR;subst aR;simp-implicitDefEqProofs[dg,aO];refine bp.of (fun h=>by cases h) (r:=.x (.one (.int .i64 0))) rfl ?_;simp-implicitDefEqProofs[dg]
def Ra{b:List UInt8}(aa:(hg b).2.2≠1)(ab:(hg b).2.2≠2):4<=(hg b).2.1/\(hg b).2.1<=b.length/\(hg b).1.length<=(hg b).2.1:=by
 obtain⟨R,aR⟩:∃R,R=hg b:=⟨_,rfl⟩
 rw[<-aR]at aa ab⊢;unfold hg at aR;cases ap:uR 0 0 b with
 |none=>rw[ap]at aR;subst aR;exact absurd rfl ab
 |some p=>
  obtain⟨i,n⟩:=p;rw[ap]at aR;dsimp only at aR;by_cases bA:i=b.length
  ·rw[aC bA]at aR;subst aR;exact absurd rfl aa
  rw[au bA]at aR;by_cases c2:i=0
  ·rw[aC c2]at aR;subst aR;exact absurd rfl ab
  rw[au c2]at aR;have g1:=HB (b.drop i) mz;by_cases c3:jH (b.drop i) mz=0;rotate_left
  ·rw[aC c3]at aR;subst aR;simp only at aa ab;omega
  rw[au (by simp[c3])]at aR;by_cases c4:b.length-(i+2)<n
  ·rw[aC c4]at aR;subst aR;exact absurd rfl aa
  rw[au c4]at aR;have g2:=HB (b.drop (i+2+n)) mz;by_cases c5:jH (b.drop (i+2+n)) mz=0;rotate_left
  ·rw[aC c5]at aR;subst aR;simp only at aa ab;omega
  rw[au (by simp[c5])]at aR;have dv:=Lr c5;have ef:=Lr c3;have gk:mz.length=2:=rfl;rw[gk,eo]at ef dv;subst aR;simp only[d',eo];omega
def zlC(b:List UInt8):(hg b).2.2<=2:=by
 unfold hg;split
 ·simp
 ·split
  ·simp
  ·split
   ·simp
   ·split
    ·exact HB _ _
    ·split
     ·simp
     ·split
      ·exact HB _ _
      ·simp
def tf(b:List UInt8):Nat->List UInt8->Nat->List UInt8×Nat×Nat×Int
 |0,_,_=>([],0,0,0)
 |k+1,acc,a=>
  if (hg (b.drop a)).2.2=2 then ([],0,a,10)
  else if (hg (b.drop a)).2.2=1/\acc.length<=200000 then (acc,a,b.length,15)
  else if (hg (b.drop a)).2.2=1 then ([],0,0,2)
  else if 0<(hg (b.drop a)).1.length then tf b k (acc++(hg (b.drop a)).1) (a+(hg (b.drop a)).2.1)
  else if 200000<(acc++(hg (b.drop a)).1).length then ([],0,0,2)
  else if a+(hg (b.drop a)).2.1<b.length then (acc++(hg (b.drop a)).1,a+(hg (b.drop a)).2.1,a+(hg (b.drop a)).2.1,3)
  else (acc++(hg (b.drop a)).1,a+(hg (b.drop a)).2.1,0,0)
def np(b:List UInt8):List UInt8×Nat×Nat×Int:=tf b (b.length+1) [] 0
def YP{b:List UInt8}:∀(n m:Nat) (acc:List UInt8) (a:Nat),a<=b.length->b.length-a<n->b.length-a<m->tf b n acc a=tf b m acc a
 |0,_,_,_,_,h,_=>by omega
 |_,0,_,_,_,_,h=>by omega
 |n+1,m+1,acc,a,h,aa,ab=>by
  unfold tf;have aT:=Ra (b:=b.drop a);rw[eo]at aT;generalize hg (b.drop a)=C at*;by_cases c2:C.2.2=2
  ·rw[aC c2,aC c2]
  by_cases bA:C.2.2=1
  ·simp only[bA,hB]
  obtain⟨jw,mV,QC⟩:=aT bA c2;rw[YP n m (acc++C.1) (a+C.2.1) (by omega) (by omega) (by omega)]
def zlD(b:List UInt8)(ae:b.length<=16777216):aD prog 77 [.one (dj b)] (.b2 [.one (dj (np b).1),.one (.int .i64 (np b).2.1),.one (.int .i64 (np b).2.2.1),.one (.int .i64 (np b).2.2.2)]):=by
 obtain⟨R,aR⟩:∃R,R=np b:=⟨_,rfl⟩
 rw[<-aR];unfold np at aR;have dg:=j4 b;refine aD.a6 f77 mixed fun aE=>?_;simp-implicitDefEqProofs;refine cI.of (List UInt8×Nat) (fun x=>[(0,.x (.one (dj b))),(6,.own 5 1 (bL x.1)),(7,.x (.one (.int .i64 x.2)))])
  (fun x=>(x.2<=b.length/\x.1.length<=x.2)/\R=tf b (b.length-x.2+1) x.1 x.2) (fun x=>b.length-x.2) ([],0) ⟨⟨cd _,cd _⟩,aR⟩ ?_ ?_
 ·simp
 rintro⟨acc,a⟩ ⟨⟨bj,pC⟩,ah⟩;dsimp only at bj pC ah⊢;unfold tf at ah;have DZ:=j4 acc;have aF:=zlz (b.drop a) (by rw[eo];omega);have aT:=Ra (b:=b.drop a);have ar:=zlC (b.drop a);rw[eo]at aT;have bA:cutAt (bL b) (a:Int) (b.length:Int)=bL (b.drop a):=by unfold cutAt bL;rw[re,re,iv (by simp),AO]
 have b3:∀rR aZ,aZ<=b.length->a<aZ->tf b (b.length-a) rR aZ=tf b (b.length-aZ+1) rR aZ:=fun rR aZ h bE=>YP _ _ _ _ h (by omega) (by omega);generalize hg (b.drop a)=C at*;obtain⟨wG,A_,Rb⟩:=C;dsimp only at*;unfold dj at aF;simp-implicitDefEqProofs[dg,bj,bA];refine aA.of aF ?_;by_cases aI:Rb=2
 ·rw[aC aI]at ah;subst ah aI;simp-implicitDefEqProofs
 rw[au aI]at ah;by_cases av:Rb=1
 ·subst av;by_cases ap:acc.length<=200000
  ·rw[aC ⟨rfl,ap⟩]at ah;subst ah;have cO:((acc.length:Int)<=200000)=True:=aL (by omega);simp-implicitDefEqProofs[dg,DZ,cO]
  ·rw[au (by omega),aC rfl]at ah;subst ah;have cO:((acc.length:Int)<=200000)=False:=aV (by omega);simp-implicitDefEqProofs[DZ,cO]
 rw[au (by omega),au av]at ah;obtain⟨jw,mV,QC⟩:=aT av aI;have Ey:Rb=0:=by omega
 subst Ey;have cH:i64.wrap ((a:Int)+(A_:Int))=(a:Int)+(A_:Int):=bk _ (by omega);have zlE:=j4 wG;have jb:=J2 acc wG;by_cases ao:0<wG.length
 ·rw[aC ao]at ah;have kn:(0<(wG.length:Int))=True:=aL (by omega);have zA:(0<wG.length)=True:=aL ao;simp-implicitDefEqProofs[DZ,zlE,cH,zA];refine⟨⟨by omega,by unfold maxLen;omega⟩,?_⟩;rw[b3 _ _ (by omega) (by omega)]at ah;refine bI.of (acc++wG,a+A_) ⟨⟨by simp only;omega,by simp only[eE];omega⟩,ah⟩ (by simp only;omega) ?_;simp[J2]
 rw[au ao]at ah;have kn:(0<(wG.length:Int))=False:=aV (by omega);have pK:wG=[]:=Ls.1 (by omega);subst pK;rw[wO]at ah;by_cases DY:200000<acc.length
 ·rw[aC DY]at ah;subst ah;have Lt:(200000<(acc.length:Int))=True:=aL (by omega);simp-implicitDefEqProofs[DZ,cH,Lt];exact⟨by omega,by unfold maxLen;omega⟩
 rw[au DY]at ah;have Lt:(200000<(acc.length:Int))=False:=aV (by omega);by_cases hm:a+A_<b.length
 ·rw[aC hm]at ah;subst ah;have dK:((a:Int)+(A_:Int)<(b.length:Int))=True:=aL (by omega);simp-implicitDefEqProofs[dg,DZ,cH,Lt,dK];exact⟨by omega,by unfold maxLen;omega⟩
 rw[au hm]at ah;subst ah;have dK:((a:Int)+(A_:Int)<(b.length:Int))=False:=aV (by omega);simp-implicitDefEqProofs[dg,DZ,cH,Lt,dK];exact⟨by omega,by unfold maxLen;omega⟩
structure YQ where
 mt:List UInt8
 set:List UInt8
def YQ.row(m:YQ):List af:=[.str m.mt,.str m.set]
set_option maxHeartbeats 8000000
def YR{b:List UInt8}:∀(k:Nat) (acc:List Head) (a:Nat),a<=b.length->acc.length<=a->(qe b k acc a).2.1<=b.length/\(qe b k acc a).1.length<=b.length
 |0,_,_,_,_=>by unfold qe;exact⟨eG _,cd _⟩
 |k+1,acc,a,h,bj=>by
  unfold qe;split
  ·split
   ·exact⟨h,cd _⟩
   ·rename_i ao;split
    ·exact⟨o6 h,by simp only;omega⟩
    ·split
     ·exact⟨h,cd _⟩
     ·have aB:=DQ (b:=b) (a:=a) (by simpa using ao);exact YR k _ _ (o6 h) (by rw[eE,rT];omega)
  ·exact⟨eG _,cd _⟩
def zlF(b:List UInt8):(qf b).2.1<=b.length/\(qf b).1.ap.length<=b.length:=by
 unfold qf;split
 ·exact⟨cd _,cd _⟩
 ·have h:=YR (b:=b) (b.length-gX b 0+1) [] (gX b 0) (o6 (cd _)) (cd _);exact h
def YS(b:List UInt8)(t:kC)(at':Nat):kC×Int×Nat×Int:=
 if yA t≠0 then (oe,0,0,if rv t=2/\(od t.ap).2=true/\200000<(od t.ap).1 then 2 else yA t)
 else if rv t=0 then (oe,0,0,12)
 else if rv t=1 then (if 0<b.length-at' then (t,1,at',3)else (t,1,0,0))
 else if rv t=3 then
  (if (np (b.drop at')).2.2.2=2 then (oe,0,0,2)
   else if (np (b.drop at')).2.2.2=10 then (oe,0,at'+(np (b.drop at')).2.2.1,10)
   else if (np (b.drop at')).2.2.2≠0 then ({t with my:=(np (b.drop at')).1},3,at'+(np (b.drop at')).2.2.1,(np (b.drop at')).2.2.2)
   else ({t with my:=(np (b.drop at')).1},3,0,0))
 else if rv t=4 then (if 200000<b.length-at' then (oe,0,0,2)else ({t with my:=b.drop at' },4,0,0))
 else if 200000<(od t.ap).1 then (oe,0,0,2)
 else if b.length-at'<(od t.ap).1 then ({t with my:=(b.drop at').take (min (od t.ap).1 (b.length-at'))},rv t,b.length,15)
 else if (od t.ap).1<b.length-at' then ({t with my:=(b.drop at').take (min (od t.ap).1 (b.length-at'))},rv t,at'+(od t.ap).1,3)
 else ({t with my:=(b.drop at').take (min (od t.ap).1 (b.length-at'))},rv t,0,0)
def ry(b:List UInt8):kC×Int×Nat×Int:=
 if 400000<b.length then (oe,0,0,2)
 else if (qf b).2.2=false then (oe,0,(qf b).2.1,10)
 else YS b (qf b).1 (qf b).2.1
def YT{b:List UInt8}:∀(k:Nat) (acc:List UInt8) (a:Nat),a<=b.length->(tf b k acc a).2.2.1<=b.length
 |0,_,_,_=>cd _
 |k+1,acc,a,h=>by
  unfold tf;have aT:=Ra (b:=b.drop a);rw[eo]at aT;split
  ·exact h
  ·rename_i c2;split
   ·exact eG _
   ·split
    ·exact cd _
    ·rename_i bA;obtain⟨jw,mV,_⟩:=aT bA c2;split
     ·exact YT k _ _ (by omega)
     ·split
      ·exact cd _
      ·split
       ·simp only;omega
       ·exact cd _
def zlG(b:List UInt8):aD prog 41 [.one (dj b)] (.b2 [.agg (ry b).1.row,.one (.int .i64 (ry b).2.1),.one (.int .i64 (ry b).2.2.1),.one (.int .i64 (ry b).2.2.2)]):=by
 have aY:oe.row=[.int .i64 0,.str [],.list 2 [],.list 1 []]:=rfl;have bm:∀a:kC,a.row=[.int .i64 a.st,.str a.iV,.list 2 (a.ap.map Head.row),dj a.my]:=fun _=>rfl;obtain⟨R,aR⟩:∃R,R=ry b:=⟨_,rfl⟩
 rw[<-aR];unfold ry at aR;have dg:=j4 b;refine aD.a6 f41 mixed fun aE=>?_;by_cases aa:400000<b.length
 ·rw[aC aa]at aR;subst aR;have dx:(400000<(b.length:Int))=True:=aL (by omega);simp-implicitDefEqProofs[dg,dx,aY]
 rw[au aa]at aR;have dx:(400000<(b.length:Int))=False:=aV (by omega);have aF:=zlx b (by omega);obtain⟨bO,zJA⟩:=zlF b;generalize qf b=T at*;obtain⟨t,at',ok⟩:=T;dsimp only at*;rw[bm t]at aF;simp-implicitDefEqProofs[dg,dx];refine aA.of aF ?_;cases ok
 ·rw[aC rfl]at aR;subst aR;simp-implicitDefEqProofs[aY]
 rw[au (by decide)]at aR;have aP:=YK t.ap (by omega);have a7:=YL t;have b1:=zlv t (by omega);rw[bm t]at a7 b1;unfold YS at aR;generalize od t.ap=L at*;obtain⟨uS,zlH⟩:=L;generalize yA t=F at*;generalize rv t=bo at*;dsimp only at*;simp-implicitDefEqProofs;refine aA.of aP ?_;simp-implicitDefEqProofs;refine aA.of a7 ?_;by_cases bc:F=0;rotate_left
 ·rw[aC bc]at aR;have iI:(F=0)=False:=aV bc;simp-implicitDefEqProofs[iI];refine aA.of b1 ?_;by_cases q1:bo=2
  ·have vZ:(bo=2)=True:=aL q1;cases zlH
   ·rw[au (by simp)]at aR;subst aR;simp-implicitDefEqProofs[vZ,aY]
   ·by_cases j3:200000<uS
    ·rw[aC ⟨q1,rfl,j3⟩]at aR;subst aR;have Rc:(200000<(uS:Int))=True:=aL (by omega);simp-implicitDefEqProofs[vZ,Rc,aY]
    ·rw[au (by simp[j3])]at aR;subst aR;have Rc:(200000<(uS:Int))=False:=aV (by omega);simp-implicitDefEqProofs[vZ,Rc,aY]
  ·rw[au (by simp[q1])]at aR;subst aR;have vZ:(bo=2)=False:=aV q1;simp-implicitDefEqProofs[vZ,aY]
 rw[au (by simp[bc])]at aR;subst bc;simp-implicitDefEqProofs;refine aA.of b1 ?_;have D0:=j4 (b.drop at');rw[eo]at D0;have yC:(at'<=b.length)=True:=aL bO;have da:((b.length-at':Nat):Int)=(b.length:Int)-(at':Int):=by omega
 have bA:cutAt (bL b) (at':Int) (b.length:Int)=bL (b.drop at'):=by unfold cutAt bL;rw[re,re,iv (by simp),AO]
 by_cases f0:bo=0
 ·rw[aC f0]at aR;subst f0 aR;simp-implicitDefEqProofs[dg,yC,bA,aY]
 rw[au f0]at aR;have YU:(bo=0)=False:=aV f0;by_cases f1:bo=1
 ·rw[aC f1]at aR;subst f1;by_cases g:0<b.length-at'
  ·rw[aC g]at aR;subst aR;simp-implicitDefEqProofs[dg,D0,yC,bA,bm];omega
  ·rw[au g]at aR;subst aR;simp-implicitDefEqProofs[dg,D0,yC,bA,bm];omega
 rw[au f1]at aR;have YV:(bo=1)=False:=aV f1;by_cases f3:bo=3
 ·rw[aC f3]at aR;subst f3;have dZ:=zlD (b.drop at') (by rw[eo];omega);have Gh:=YT (b:=b.drop at') ((b.drop at').length+1) [] 0 (cd _);change (np (b.drop at')).2.2.1<=_ at Gh;rw[eo]at Gh;generalize np (b.drop at')=zlI at*;obtain⟨wG,A_,ce,D1⟩:=zlI;dsimp only at*;unfold dj at dZ;have cH:i64.wrap ((at':Int)+(ce:Int))=(at':Int)+(ce:Int):=bk _ (by omega);simp-implicitDefEqProofs[dg,yC,bA];refine aA.of dZ ?_;by_cases aI:D1=2
  ·rw[aC aI]at aR;subst aR aI;simp-implicitDefEqProofs[aY]
  rw[au aI]at aR;have vo:(D1=2)=False:=aV aI;by_cases Lu:D1=10
  ·rw[aC Lu]at aR;subst aR Lu;simp-implicitDefEqProofs[aY,cH]
  rw[au Lu]at aR;have zlJ:(D1=10)=False:=aV Lu;by_cases ch:D1=0
  ·rw[au (by simp[ch])]at aR;subst aR ch;simp-implicitDefEqProofs[bm]
  ·rw[aC ch]at aR;subst aR;have Gz:(D1=0)=False:=aV ch;simp-implicitDefEqProofs[vo,zlJ,Gz,cH,bm]
 rw[au f3]at aR;have YW:(bo=3)=False:=aV f3;by_cases f4:bo=4
 ·rw[aC f4]at aR;subst f4;by_cases g:200000<b.length-at'
  ·rw[aC g]at aR;subst aR;have bQ:(200000<((b.length-at':Nat):Int))=True:=aL (by omega);simp-implicitDefEqProofs[dg,D0,yC,bA,bQ,aY]
  ·rw[au g]at aR;subst aR;have bQ:(200000<((b.length-at':Nat):Int))=False:=aV (by omega);simp-implicitDefEqProofs[dg,D0,yC,bA,bQ,bm];exact⟨by omega,by unfold maxLen;omega⟩
 rw[au f4]at aR;have YX:(bo=4)=False:=aV f4;by_cases g:200000<uS
 ·rw[aC g]at aR;subst aR;have bQ:(200000<(uS:Int))=True:=aL (by omega);simp-implicitDefEqProofs[dg,yC,bA,YU,YV,YW,YX,bQ,aY]
 rw[au g]at aR;have bQ:(200000<(uS:Int))=False:=aV (by omega);have cH:i64.wrap ((at':Int)+(uS:Int))=(at':Int)+(uS:Int):=bk _ (by omega);have em:(min (uS:Int) ((b.length-at':Nat):Int)).toNat=min uS (b.length-at'):=by omega
 simp-implicitDefEqProofs[dg,D0,yC,bA,YU,YV,YW,YX,bQ,cH,em];refine⟨⟨by omega,by omega⟩,⟨by omega,by unfold maxLen;omega⟩,fun q=>?_,fun q=>⟨fun hO=>?_,fun hO=>?_⟩⟩
 ·rw[aC q]at aR;subst aR;simp[bm]
 ·rw[au (by omega),aC hO]at aR;subst aR;simp[bm]
 ·rw[au (by omega),au (by omega)]at aR;subst aR;simp[bm]
end Go.Proofs.YtaalfcghmjkaeaaGreatDoor
namespace Go.Proofs.YtaalfcghmjkaeaaGreatDoor
open Go Go.Ab Go.RowKit Go.Lib Go.Proofs.Tryz
variable [bf][ee 0][cK prog]
end Go.Proofs.YtaalfcghmjkaeaaGreatDoor
namespace Go.Proofs.YtaalfcghmjkaeaaGreatDoor
end Go.Proofs.YtaalfcghmjkaeaaGreatDoor
namespace Go.Proofs.YtaalfcghmjkaeaaGreatDoor
open Go Go.Ab Go.Proofs.Tryz Go.IntKind
variable [bf][ee 0][cK prog]
set_option maxRecDepth 100000
set_option maxHeartbeats 8000000
def YY(b:List UInt8):∀(n a:Nat) (L:List Rec) (M:List Mark),L.length=M.length->(nm n b a L M).2.2.2=0->nk (nm n b a L M).1=0/\(nm n b a L M).2.1.length=(nm n b a L M).1.length
 |0,_,_,_,_,_=>⟨rfl,rfl⟩
 |n+1,a,L,M,h,aW=>by
  unfold nm at aW⊢;split at aW
  ·rename_i aq;rw[aC aq];split at aW
   ·rename_i ay;exact absurd aW ay
   ·rename_i ay;rw[au ay];exact YY b n _ _ _ (by simp[h]) aW
  ·rename_i aq;rw[au aq];split at aW
   ·rename_i ay;exact absurd aW ay
   ·rename_i ay;rw[au ay];exact⟨te ay,h.symm⟩
def Lv{b:List UInt8}(h:(e' b).2.2.2=0):nk (e' b).1=0/\(e' b).2.1.length=(e' b).1.length:=by
 unfold e' at*;split at h
 ·cases h
 ·rename_i ae;rw[au ae];exact YY b _ _ _ _ rfl h
set_option maxHeartbeats 4000000
end Go.Proofs.YtaalfcghmjkaeaaGreatDoor
namespace Go.Proofs.YtaalfcghmjkaeaaGreatDoor
open Go Go.Proofs.Tryz
set_option maxRecDepth 100000
def Xb:Go.Shelf.Ren:=⟨iF [(119,223),(137,172),(150,60),(152,174),(153,107),(217,222),(224,224),(225,225),(226,175),(227,112),(228,176),(266,273)],iF [(0,0),(3,3),(4,4),(5,5),(9,9),(21,21),(46,180),(116,199),(117,200),(124,203)],fun x=>x⟩
def Xc:Go.Proofs.Lays.n150 prog Xb where
 mixed:=by kernel_rfl
 f119:=bJ func223
 f137:=bJ func172
 f150:=bJ func60
 f152:=bJ func174
 f153:=bJ func107
 f217:=bJ func222
 f224:=bJ func224
 f225:=bJ func225
 f226:=bJ func175
 f227:=bJ func112
 f228:=bJ func176
 f266:=bJ func273
 t0:=underlying0
 a0:=isAgg0
 z0:=sizeOf0
 v0:=zeroValue0
 t3:=underlying3
 a3:=isAgg3
 z3:=sizeOf3
 v3:=zeroValue3
 t4:=underlying4
 a4:=isAgg4
 z4:=sizeOf4
 v4:=zeroValue4
 t5:=underlying5
 a5:=isAgg5
 z5:=sizeOf5
 v5:=zeroValue5
 t9:=underlying9
 a9:=isAgg9
 z9:=sizeOf9
 v9:=zeroValue9
 t21:=underlying21
 a21:=isAgg21
 z21:=sizeOf21
 v21:=zeroValue21
 t46:=underlying180
 a46:=isAgg180
 z46:=sizeOf180
 v46:=zeroValue180
 t116:=underlying199
 a116:=isAgg199
 z116:=sizeOf199
 t117:=underlying200
 a117:=isAgg200
 z117:=sizeOf200
 v117:=zeroValue200
 t124:=underlying203
 a124:=isAgg203
 z124:=sizeOf203
 v124:=zeroValue203
end Go.Proofs.YtaalfcghmjkaeaaGreatDoor
namespace Go.Proofs.YtaalfcghmjkaeaaGreatDoor
open Go Go.Ab Go.Proofs.Tryz Go.IntKind
variable [bf][ee 0][cK prog]
set_option maxRecDepth 100000
set_option maxHeartbeats 8000000
def uT(s:List UInt8):Prop:=∀c∈s,c.toNat<128
def uT.at{s:List UInt8}(h:uT s):∀(j:Nat) b,s[j]?=some b->b.toNat<128:=fun _ b ae=>h b (iq ae)
def nq(w:List UInt8):List af:=(List.range 256).map fun k=>.bool (w.contains (UInt8.ofNat k))
def Lz(w:List UInt8):(nq w).length=256:=by simp[nq]
def Y4(w:List UInt8)(c:UInt8):(nq w)[c.toNat]?=some (.bool (w.contains c)):=by have h:c.toNat<256:=UInt8.toNat_lt c;unfold nq;rw[dO,BF h];simp
def zmk(w:List UInt8){W:World}{S:Nat->Prop}:cj W S (nq w) (Lib.setCells w).toList:=by
 refine⟨by rw[Lz,iZ,Lib.setCells_size],fun j c ac=>?_⟩;have aq:j<256:=by have:=(ep.1 ac).1;rwa[Lz]at this
 have zml:(UInt8.ofNat j).toNat=j:=by rw[UInt8.toNat_ofNat'];omega
 have aa:=Y4 w (UInt8.ofNat j);have ab:=Lib.setCells_at w (UInt8.ofNat j);rw[zml]at aa ab;rw[aa]at ac;injection ac with ac
 subst ac;exact⟨_,by simpa using ab,bn.bool _⟩
def Rg:(prog.info? (Xb.t 116)).map (fun i=>(i.zero,i.size))=some (some (.agg (Array.replicate 256 (.bool false))),256):=by kernel_rfl
def strings_makeASCIISet(w:List UInt8)(hw:uT w)(al:w.length<4294967281):aD prog 112 [.one (.str w)] (.b2 [.agg (nq w),.one (.bool true)]):=by
 refine C1 [.string ⟨w.toArray⟩] (nc f112 (by kernel_rfl) (by kernel_rfl) rfl) rfl (fun _=>rfl) (fun _ W _=>?_);have ao:=(Go.Proofs.Any.strings_makeASCIISet {Xc with} (zero_of_info Rg).1 (zero_of_info Rg).2 ⟨w.toArray⟩ W (by simp only[ByteArray.size,lS];omega) (fun j b ae=>hw.at j b (by simpa using ae)))
 refine ao.mono ?_;rintro e w' ⟨rfl,rfl⟩;refine⟨_,rfl,(RowKit.Below.refl _ _).alloc (eG _) _,fun S=>⟨_,rfl,rfl,fun j x ac=>?_⟩⟩
 match j,ac with
 |0,ac=>cases ac;exact⟨_,rfl,_,rfl,zmk w⟩
 |1,ac=>cases ac;exact⟨_,rfl,bn.bool _⟩
 |j+2,ac=>simp at ac
def zmm(w:List UInt8)(c:UInt8):(nq w).drop c.toNat=.bool (w.contains c)::(nq w).drop (c.toNat+1):=by have h:=Y4 w c;obtain⟨aq,he⟩:=ep.1 h;rw[g' aq,he]
def asciiSet_contains(w:List UInt8)(c:UInt8):cB prog 176 [.box (nq w),.x (.one (.int .u8 c.toNat))] (.x (.one (.bool (w.contains c)))) [.box (nq w),.dead]:=by have h:=zmm w c;have hlen:=Lz w;generalize w.contains c=v at*;generalize nq w=B at*;have aq:((c.toNat:Int)<256)=True:=aL (by have:=UInt8.toNat_lt c;omega);refine cB.a6 f176 mixed fun aE=>?_;simp-implicitDefEqProofs[h,aq]
def zmn(n:Int):aD prog 175 [.one (.int .i64 n)] (.x (.one (.bool (decide (8<n))))):=by refine aD.a6 f175 mixed fun aE=>?_;simp-implicitDefEqProofs
def zmo(s w:List UInt8)(hw:uT w)(al:2<=w.length)(gk:w.length<4294967281)(d8:8<s.length):aD prog 107 [.one (.str s),.one (.str w)] (.x (.one (.int .i64 (Lib.indexAny s w)))):=by
 obtain⟨R,aR⟩:∃R,R=Lib.indexAny s w:=⟨_,rfl⟩
 rw[<-aR];have aF:=strings_makeASCIISet w hw gk;have gy:=asciiSet_contains w;have hlen:=Lz w;have aW:(w=[])=False:=aV (by rintro rfl;simp at al);have aa:((w.length:Int)=1)=False:=aV (by omega);have qg:((8:Int)<(s.length:Int))=True:=aL (by omega);have l8:cl (List.replicate 256 (af.bool false)) 0 (nq w)=nq w:=by unfold cl;rw[hlen,kf (by simp)];simp
 have eh:(nq w).all af.flat=true:=by refine fm.2 (fun c ao=>?_);obtain⟨k,_,rfl⟩:=hh.1 ao;rfl
 have l7:oY (nq w)=false:=by rw[<-FV,Bm];intro c ao;obtain⟨k,_,rfl⟩:=hh.1 ao;simp[af.isAny]
 generalize nq w=B at*;refine aD.a6 f107 mixed fun aE=>?_;have pZ:s.length<=maxLen:=by have:=aE _ kl;simp[az.ok,af.ok]at this;exact this
 unfold maxLen at pZ;simp-implicitDefEqProofs[aW,aa];refine aA.of (zmn s.length) ?_;simp-implicitDefEqProofs[qg];refine aA.of aF ?_;simp-implicitDefEqProofs[hlen,eh];refine cI.of Nat (fun i=>[(0,.x (.one (.str s))),(6,.box B),(8,.x (.one (.int .i64 i)))]) (fun i=>i<=s.length/\Lib.NoAny s w i) (fun i=>s.length-i) 0 ⟨cd _,Lib.NoAny.zero _ _⟩ ?_ ?_
 ·simp
 rintro i ⟨ai,cp⟩;by_cases aq:i<s.length
 ·have aO:((i:Int)<(s.length:Int))=True:=aL (by omega);have bG:i64.wrap ((i:Int)+1)=(i:Int)+1:=bk _ (by omega);have aj:s[i]?=some s[i]:=cn aq;simp-implicitDefEqProofs[aq,aO,l7];refine gg.of (gy s[i]) ?_;cases ao:w.contains s[i]
  ·simp-implicitDefEqProofs;refine bI.of (i+1) ⟨aq,cp.succ aj ao⟩ (by omega) ?_;simp[bG]
  ·rw[Lib.indexAny_hit cp aj ao]at aR;subst aR;simp-implicitDefEqProofs
 ·have aO:((i:Int)<(s.length:Int))=False:=aV (by omega);obtain rfl:i=s.length:=by omega
  rw[Lib.indexAny_none cp]at aR;subst aR;simp-implicitDefEqProofs[aO]
def Rh(s w:List UInt8)(ap:uT s)(hw:uT w)(al:2<=w.length)(gk:w.length<4294967281):aD prog 60 [.one (.str s),.one (.str w)] (.x (.one (.bool (Lib.containsAny s w)))):=by
 by_cases d8:s.length<=8
 ·refine C1 [.string ⟨s.toArray⟩,.string ⟨w.toArray⟩] (nc f60 (by kernel_rfl) (by kernel_rfl) rfl) rfl (fun _=>rfl) (fun _ W _=>?_);have ao:=Go.Proofs.Any.strings_ContainsAny_laid Xc Rg ⟨s.toArray⟩ ⟨w.toArray⟩ W (by simp only[ByteArray.size,lS];omega) (by simp only[ByteArray.size,lS];omega) (fun j b ae=>ap.at j b (by simpa using ae)) (fun j b ae=>hw.at j b (by simpa using ae));refine ao.mono ?_;rintro e w' ⟨rfl,ae⟩;exact⟨_,rfl,ae,fun S=>bn.bool _⟩
 ·have k:=zmo s w hw al gk (by omega);unfold Lib.containsAny;refine aD.a6 f60 mixed fun aE=>?_;simp-implicitDefEqProofs;refine aA.of k ?_;simp-implicitDefEqProofs
set_option maxHeartbeats 4000000
def Y1(l:List UInt8):Prop:=∀c∈l,c≠13/\c≠10
structure zJD(h:Head):Prop where
 ne:h.name≠[]
 colon:(58:UInt8)∉h.name
 name:Y1 h.name
 value:Y1 h.value
 other:h.name≠lN
set_option maxHeartbeats 8000000
structure eS where
 kind:Int
 name:List UInt8
def eS.row(r:eS):List af:=[.int .i64 r.kind,.str r.name]
def eS.fit(r:eS):Prop:=r.name.length<=300000000000000
def yD:List UInt8:=[47,63,38,61,37,65,66,67,68,69,70,71,72,73,74,75,76,77,78,79,80,81,82,83,84,85,86,87,88,89,90]
def uU(a b:eS):Int:=ky [iR a.kind b.kind,Lib.compareBytes a.name b.name]
def D2(p:Option eS)(x:eS):Int:=
 if x.kind<1\/7<x.kind then 4
 else if decide (x.kind=5\/x.kind=7)≠decide (x.name≠[])then 3
 else if eM [] x.name=false then 3
 else if Lib.containsAny x.name yD=true then 3
 else match p with
  |some q=>if 0<=uU q x then 8 else 0
  |none=>0
def rz:Option eS->List eS->Int
 |_,[]=>0
 |p,x::r=>if D2 p x≠0 then D2 p x else rz (some x) r
def rA(l:List eS):Int:=if 50<l.length then 2 else rz none l
def mA(l:List eS):Nat->Option eS
 |0=>none
 |i+1=>l[i]?
def Ri:uT yD:=by unfold uT;decide
def Y5:∀{s:List UInt8},(cy [] s).2=true->uT s
 |[],_=>fun _ h=>by cases h
 |c::r,h=>by
  unfold cy at h;rw[au (by simp)]at h;split at h
  ·cases h
  ·rename_i ao;intro x aj;rcases eT.1 aj with rfl|aj
   ·have an:lG x=true:=by cases e:lG x with|true=>rfl|false=>exact absurd (.inl e) ao
    unfold lG at an;rw[b4,b4,D3,D3]at an;omega
   ·exact Y5 h x aj
def Rj{s:List UInt8}(h:eM [] s=true):uT s:=by unfold eM at h;rw[b4]at h;exact Y5 h.1
def zmp{l:List eS}{i:Nat}(h:i<l.length):rz (mA l i) (l.drop i)=if D2 (mA l i) l[i]≠0 then D2 (mA l i) l[i]else rz (mA l (i+1)) (l.drop (i+1)):=by rw[g' h];have:mA l (i+1)=some l[i]:=cn h;rw[this];rfl
def Y6(l:List eS)(ay:∀r∈l,r.fit):aD prog 34 [.one (.list 2 (l.map eS.row))] (.x (.one (.int .i64 (rA l)))):=by
 obtain⟨R,aR⟩:∃R,R=rA l:=⟨_,rfl⟩
 rw[<-aR];unfold rA at aR;refine aD.a6 f34 mixed fun aE=>?_;by_cases Y7:50<l.length
 ·rw[aC Y7]at aR;subst aR;have Rd:((50:Int)<(l.length:Int))=True:=aL (by omega);simp-implicitDefEqProofs[Rd]
 rw[au Y7]at aR;have Rd:((50:Int)<(l.length:Int))=False:=aV (by omega);simp-implicitDefEqProofs[Rd];refine cI.of Nat (fun i=>[(0,.x (.one (.list 2 (l.map eS.row)))),(9,.x (.one (.list 2 (l.map eS.row)))),(10,.x (.one (.int .i64 l.length))),(11,.x (.one (.int .i64 i)))]) (fun i=>i<=l.length/\R=rz (mA l i) (l.drop i)) (fun i=>l.length-i) 0 ⟨cd _,by simpa[mA]using aR⟩ ?_ ?_
 ·simp
 rintro i ⟨ai,ah⟩;by_cases aq:i<l.length;rotate_left
 ·have aO:((i:Int)<(l.length:Int))=False:=aV (by omega);obtain rfl:i=l.length:=by omega
  rw[Dj]at ah;have ah:R=0:=by rw[ah];unfold rz;rfl
  subst ah;simp-implicitDefEqProofs[aO]
 have aO:((i:Int)<(l.length:Int))=True:=aL (by omega);have bG:i64.wrap ((i:Int)+1)=(i:Int)+1:=bk _ (by omega);have D4:i64.wrap ((i:Int)-1)=(i:Int)-1:=bk _ (by omega);have bm:l[i].row=[.int .i64 l[i].kind,.str l[i].name]:=rfl;rw[zmp aq]at ah;have eF:=ay l[i] (jN aq);unfold eS.fit at eF;have aF:=An l[i].name [] (by omega) (by simp);obtain⟨v,ev⟩:∃v,v=D2 (mA l i) l[i]:=⟨_,rfl⟩
 rw[<-ev]at ah;unfold D2 at ev;rcases (by omega:l[i].kind<1\/7<l[i].kind\/l[i].kind=5\/l[i].kind=7\/(1<=l[i].kind/\l[i].kind<=7/\l[i].kind≠5/\l[i].kind≠7))with am|am|am|am|am
 ·rw[aC (.inl am)]at ev;subst ev;have ah:R=4:=ah;subst ah;have av:(l[i].kind<1)=True:=aL am;simp-implicitDefEqProofs[aq,aO,bm,av]
 ·rw[aC (.inr am)]at ev;subst ev;have ah:R=4:=ah;subst ah;have av:(l[i].kind<1)=False:=aV (by omega);have dL:(7<l[i].kind)=True:=aL am;simp-implicitDefEqProofs[aq,aO,bm,av,dL]
 ·rw[au (by omega)]at ev;have av:(l[i].kind<1)=False:=aV (by omega);have dL:(7<l[i].kind)=False:=aV (by omega);have dd:(l[i].kind==5)=true:=by simp[am]
  by_cases aT:l[i].name=[]
  ·have dJ:(l[i].name=[])=True:=aL aT;rw[aC (by rw[aT];simp[am])]at ev;subst ev;have ah:R=3:=ah;subst ah;simp-implicitDefEqProofs[aq,aO,bm,av,dL,dd,dJ]
  rw[au (by simp[aT,am])]at ev;have dJ:l[i].name.isEmpty=false:=by simp[aT]
  simp-implicitDefEqProofs[aq,aO,bm,av,dL,dd,dJ];refine aA.of aF ?_;cases ae:eM [] l[i].name
  ·rw[aC ae]at ev;subst ev;have ah:R=3:=ah;subst ah;simp-implicitDefEqProofs;refine bp.of (fun h=>by cases h) (r:=.x (.one (.bool true))) rfl ?_;simp-implicitDefEqProofs
  rw[au (by rw[ae];decide)]at ev;have aP:=Rh l[i].name yD (Rj ae) Ri (by decide) (by decide);unfold yD at aP ev;simp-implicitDefEqProofs;refine bp.of (fun _=>aP) rfl ?_;cases ao:Lib.containsAny l[i].name [47,63,38,61,37,65,66,67,68,69,70,71,72,73,74,75,76,77,78,79,80,81,82,83,84,85,86,87,88,89,90];rotate_left
  ·rw[aC ao]at ev;subst ev;have ah:R=3:=ah;subst ah;simp-implicitDefEqProofs
  rw[au (by rw[ao];decide)]at ev;cases i with
  |zero=>
   have ev:v=0:=ev;subst ev;have ah:R=rz (mA l 1) (l.drop 1):=ah;have ic:i64.wrap (-1)=-1:=by decide
   have kr:l[0]?=some l[0]:=cn aq;simp-implicitDefEqProofs[aq,bm,ic];refine bp.of (fun h=>by cases h) (r:=.x (.one (.int .i64 0))) rfl ?_;simp-implicitDefEqProofs[aq,bm,ic];refine bp.of (fun h=>by cases h) (r:=.x (.one (.int .i64 0))) rfl ?_;simp-implicitDefEqProofs;refine bp.of (fun h=>by cases h) (r:=.x (.one (.int .i64 0))) rfl ?_;simp-implicitDefEqProofs;refine bI.of 1 ⟨aq,ah⟩ (by omega) ?_;simp[show i64.wrap 1=1 by decide]
  |succ i=>
   have iY:i<l.length:=by omega
   have kD:i64.wrap (i:Int)=(i:Int):=bk _ (by omega);have im:i64.wrap ((i:Int)+1+1)=(i:Int)+1+1:=bk _ (by omega);have kE:l[i].row=[.int .i64 l[i].kind,.str l[i].name]:=rfl;have ak:mA l (i+1)=some l[i]:=cn iY;rw[ak]at ev;dsimp only at ev;simp-implicitDefEqProofs[iY,kD,kE];refine bp.of (fun _=>Gn _ _) rfl ?_;simp-implicitDefEqProofs[iY,kD,kE];refine bp.of (fun _=>strings_Compare _ _) rfl ?_;simp-implicitDefEqProofs;have a7:aD prog 61 [.one (.list 1 [[.int .i64 (iR l[i].kind l[i+1].kind)],[.int .i64 (Lib.compareBytes l[i].name l[i+1].name)]])] (.x (.one (.int .i64 (ky [iR l[i].kind l[i+1].kind,Lib.compareBytes l[i].name l[i+1].name])))):=KA [iR l[i].kind l[i+1].kind,Lib.compareBytes l[i].name l[i+1].name];refine bp.of (fun _=>a7) rfl ?_;by_cases d8:0<=uU l[i] l[i+1]
   ·rw[aC d8]at ev;subst ev;have ah:R=8:=ah;subst ah;unfold uU at d8;have qg:(0<=ky [iR l[i].kind l[i+1].kind,Lib.compareBytes l[i].name l[i+1].name])=True:=aL d8;simp-implicitDefEqProofs[qg]
   ·rw[au d8]at ev;subst ev;have ah:R=rz (mA l (i+1+1)) (l.drop (i+1+1)):=ah;unfold uU at d8;have qg:(0<=ky [iR l[i].kind l[i+1].kind,Lib.compareBytes l[i].name l[i+1].name])=False:=aV d8;simp-implicitDefEqProofs[im,qg];refine bI.of (i+1+1) ⟨aq,ah⟩ (by omega) ?_;simp
 ·rw[au (by omega)]at ev;have av:(l[i].kind<1)=False:=aV (by omega);have dL:(7<l[i].kind)=False:=aV (by omega);have dd:(l[i].kind==5)=false:=by simp;omega
  have gY:(l[i].kind==7)=true:=by simp[am]
  by_cases aT:l[i].name=[]
  ·have dJ:(l[i].name=[])=True:=aL aT;rw[aC (by rw[aT];simp[am])]at ev;subst ev;have ah:R=3:=ah;subst ah;simp-implicitDefEqProofs[aq,aO,bm,av,dL,dd,gY,dJ]
  rw[au (by simp[aT,am])]at ev;have dJ:l[i].name.isEmpty=false:=by simp[aT]
  simp-implicitDefEqProofs[aq,aO,bm,av,dL,dd,gY,dJ];refine aA.of aF ?_;cases ae:eM [] l[i].name
  ·rw[aC ae]at ev;subst ev;have ah:R=3:=ah;subst ah;simp-implicitDefEqProofs;refine bp.of (fun h=>by cases h) (r:=.x (.one (.bool true))) rfl ?_;simp-implicitDefEqProofs
  rw[au (by rw[ae];decide)]at ev;have aP:=Rh l[i].name yD (Rj ae) Ri (by decide) (by decide);unfold yD at aP ev;simp-implicitDefEqProofs;refine bp.of (fun _=>aP) rfl ?_;cases ao:Lib.containsAny l[i].name [47,63,38,61,37,65,66,67,68,69,70,71,72,73,74,75,76,77,78,79,80,81,82,83,84,85,86,87,88,89,90];rotate_left
  ·rw[aC ao]at ev;subst ev;have ah:R=3:=ah;subst ah;simp-implicitDefEqProofs
  rw[au (by rw[ao];decide)]at ev;cases i with
  |zero=>
   have ev:v=0:=ev;subst ev;have ah:R=rz (mA l 1) (l.drop 1):=ah;have ic:i64.wrap (-1)=-1:=by decide
   have kr:l[0]?=some l[0]:=cn aq;simp-implicitDefEqProofs[aq,bm,ic];refine bp.of (fun h=>by cases h) (r:=.x (.one (.int .i64 0))) rfl ?_;simp-implicitDefEqProofs[aq,bm,ic];refine bp.of (fun h=>by cases h) (r:=.x (.one (.int .i64 0))) rfl ?_;simp-implicitDefEqProofs;refine bp.of (fun h=>by cases h) (r:=.x (.one (.int .i64 0))) rfl ?_;simp-implicitDefEqProofs;refine bI.of 1 ⟨aq,ah⟩ (by omega) ?_;simp[show i64.wrap 1=1 by decide]
  |succ i=>
   have iY:i<l.length:=by omega
   have kD:i64.wrap (i:Int)=(i:Int):=bk _ (by omega);have im:i64.wrap ((i:Int)+1+1)=(i:Int)+1+1:=bk _ (by omega);have kE:l[i].row=[.int .i64 l[i].kind,.str l[i].name]:=rfl;have ak:mA l (i+1)=some l[i]:=cn iY;rw[ak]at ev;dsimp only at ev;simp-implicitDefEqProofs[iY,kD,kE];refine bp.of (fun _=>Gn _ _) rfl ?_;simp-implicitDefEqProofs[iY,kD,kE];refine bp.of (fun _=>strings_Compare _ _) rfl ?_;simp-implicitDefEqProofs;have a7:aD prog 61 [.one (.list 1 [[.int .i64 (iR l[i].kind l[i+1].kind)],[.int .i64 (Lib.compareBytes l[i].name l[i+1].name)]])] (.x (.one (.int .i64 (ky [iR l[i].kind l[i+1].kind,Lib.compareBytes l[i].name l[i+1].name])))):=KA [iR l[i].kind l[i+1].kind,Lib.compareBytes l[i].name l[i+1].name];refine bp.of (fun _=>a7) rfl ?_;by_cases d8:0<=uU l[i] l[i+1]
   ·rw[aC d8]at ev;subst ev;have ah:R=8:=ah;subst ah;unfold uU at d8;have qg:(0<=ky [iR l[i].kind l[i+1].kind,Lib.compareBytes l[i].name l[i+1].name])=True:=aL d8;simp-implicitDefEqProofs[qg]
   ·rw[au d8]at ev;subst ev;have ah:R=rz (mA l (i+1+1)) (l.drop (i+1+1)):=ah;unfold uU at d8;have qg:(0<=ky [iR l[i].kind l[i+1].kind,Lib.compareBytes l[i].name l[i+1].name])=False:=aV d8;simp-implicitDefEqProofs[im,qg];refine bI.of (i+1+1) ⟨aq,ah⟩ (by omega) ?_;simp
 ·rw[au (by omega)]at ev;have av:(l[i].kind<1)=False:=aV (by omega);have dL:(7<l[i].kind)=False:=aV (by omega);have dd:(l[i].kind==5)=false:=by simp;omega
  have gY:(l[i].kind==7)=false:=by simp;omega
  by_cases aT:l[i].name≠[]
  ·have dJ:l[i].name.isEmpty=false:=by simp;exact aT
   rw[aC (by rw[nb (by omega),s6 aT];decide)]at ev;subst ev;have ah:R=3:=ah;subst ah;simp-implicitDefEqProofs[aq,aO,bm,av,dL,dd,gY,dJ]
  have aT:l[i].name=[]:=te aT;rw[au (by rw[nb (by omega),nb (p:=l[i].name≠[]) (by simp[aT])];decide)]at ev;have dJ:l[i].name.isEmpty=true:=by simp[aT]
  simp-implicitDefEqProofs[aq,aO,bm,av,dL,dd,gY,dJ];refine aA.of aF ?_;cases ae:eM [] l[i].name
  ·rw[aC ae]at ev;subst ev;have ah:R=3:=ah;subst ah;simp-implicitDefEqProofs;refine bp.of (fun h=>by cases h) (r:=.x (.one (.bool true))) rfl ?_;simp-implicitDefEqProofs
  rw[au (by rw[ae];decide)]at ev;have aP:=Rh l[i].name yD (Rj ae) Ri (by decide) (by decide);unfold yD at aP ev;simp-implicitDefEqProofs;refine bp.of (fun _=>aP) rfl ?_;cases ao:Lib.containsAny l[i].name [47,63,38,61,37,65,66,67,68,69,70,71,72,73,74,75,76,77,78,79,80,81,82,83,84,85,86,87,88,89,90];rotate_left
  ·rw[aC ao]at ev;subst ev;have ah:R=3:=ah;subst ah;simp-implicitDefEqProofs
  rw[au (by rw[ao];decide)]at ev;cases i with
  |zero=>
   have ev:v=0:=ev;subst ev;have ah:R=rz (mA l 1) (l.drop 1):=ah;have ic:i64.wrap (-1)=-1:=by decide
   have kr:l[0]?=some l[0]:=cn aq;simp-implicitDefEqProofs[aq,bm,ic];refine bp.of (fun h=>by cases h) (r:=.x (.one (.int .i64 0))) rfl ?_;simp-implicitDefEqProofs[aq,bm,ic];refine bp.of (fun h=>by cases h) (r:=.x (.one (.int .i64 0))) rfl ?_;simp-implicitDefEqProofs;refine bp.of (fun h=>by cases h) (r:=.x (.one (.int .i64 0))) rfl ?_;simp-implicitDefEqProofs;refine bI.of 1 ⟨aq,ah⟩ (by omega) ?_;simp[show i64.wrap 1=1 by decide]
  |succ i=>
   have iY:i<l.length:=by omega
   have kD:i64.wrap (i:Int)=(i:Int):=bk _ (by omega);have im:i64.wrap ((i:Int)+1+1)=(i:Int)+1+1:=bk _ (by omega);have kE:l[i].row=[.int .i64 l[i].kind,.str l[i].name]:=rfl;have ak:mA l (i+1)=some l[i]:=cn iY;rw[ak]at ev;dsimp only at ev;simp-implicitDefEqProofs[iY,kD,kE];refine bp.of (fun _=>Gn _ _) rfl ?_;simp-implicitDefEqProofs[iY,kD,kE];refine bp.of (fun _=>strings_Compare _ _) rfl ?_;simp-implicitDefEqProofs;have a7:aD prog 61 [.one (.list 1 [[.int .i64 (iR l[i].kind l[i+1].kind)],[.int .i64 (Lib.compareBytes l[i].name l[i+1].name)]])] (.x (.one (.int .i64 (ky [iR l[i].kind l[i+1].kind,Lib.compareBytes l[i].name l[i+1].name])))):=KA [iR l[i].kind l[i+1].kind,Lib.compareBytes l[i].name l[i+1].name];refine bp.of (fun _=>a7) rfl ?_;by_cases d8:0<=uU l[i] l[i+1]
   ·rw[aC d8]at ev;subst ev;have ah:R=8:=ah;subst ah;unfold uU at d8;have qg:(0<=ky [iR l[i].kind l[i+1].kind,Lib.compareBytes l[i].name l[i+1].name])=True:=aL d8;simp-implicitDefEqProofs[qg]
   ·rw[au d8]at ev;subst ev;have ah:R=rz (mA l (i+1+1)) (l.drop (i+1+1)):=ah;unfold uU at d8;have qg:(0<=ky [iR l[i].kind l[i+1].kind,Lib.compareBytes l[i].name l[i+1].name])=False:=aV d8;simp-implicitDefEqProofs[im,qg];refine bI.of (i+1+1) ⟨aq,ah⟩ (by omega) ?_;simp
end Go.Proofs.YtaalfcghmjkaeaaGreatDoor
namespace Go.Proofs.YtaalfcghmjkaeaaGreatDoor
open Go Go.Ab Go.Proofs.Tryz Go.IntKind
def kx(c:UInt8):Nat:=if df c=true then c.toNat-48 else if 97<=c.toNat then c.toNat-87 else c.toNat-55
def nZ(c:UInt8):Bool:=qY c ||(df c ||([45,46,95,126]:List UInt8).contains c)
def uu(n:Nat):UInt8:=if n<10 then UInt8.ofNat (48+n)else UInt8.ofNat (55+n)
def Aj(a b:UInt8):List UInt8:=if nZ (UInt8.ofNat (16*kx a+kx b))=true then [UInt8.ofNat (16*kx a+kx b)]else [37,uu (kx a),uu (kx b)]
def gI:List UInt8->List UInt8
 |c::a::b::r=>if c=37 then Aj a b++gI r else c::gI (a::b::r)
 |l=>l
def Dc:List UInt8:=[46]
def Dd:List UInt8:=[46,46]
def q3(out:List (List UInt8))(p:List UInt8):List (List UInt8):=if p=Dd then out.dropLast else if p=Dc then out else out++[p]
def mj(parts:List (List UInt8)):List (List UInt8):=parts.foldl q3 []++(if parts.getLast?=some Dd\/parts.getLast?=some Dc then [[]]else [])
def n0(path:List UInt8):List UInt8:=if path=[]then []else 47::hG 47 (mj (ey 47 (path.drop 1)))
def uv(p:List UInt8):List UInt8:=p.dropWhile (·==48)
def Gs(scheme p:List UInt8):List UInt8:=if (scheme=j2/\uv p=[56,48])\/(scheme=iS/\uv p=[52,52,51])then []else uv p
def Gt(p:List UInt8):List UInt8:=if n0 (gI p)=[]then [47]else n0 (gI p)
def gW(a:Addr):Addr:=⟨cD a.scheme,cD a.host,Gs (cD a.scheme) a.port,Gt a.path,gI a.query,a.jD,[],false⟩
def vX(a:Addr):Int:=if e3 a≠0 then e3 a else e3 (gW a)
def nf(c d:UInt8)(s:List UInt8):List UInt8:=hG d (ey c s).reverse
def zga(n:Addr):List UInt8:=nf 46 44 n.host++qZ n++[41]++(if n.scheme=iS then [115]else [])++n.path++pX n
def Gu(a:Addr):List UInt8:=zga (gW a)
def fK(c:UInt8)(s:List UInt8):List UInt8:=if c∈s then n1 c s else []
def o0(r:List UInt8):List UInt8:=if r.head?=some 115 then r.drop 1 else r
def sJ(s:List UInt8):Addr:=
 ⟨if (fK 41 s).head?=some 115 then iS else j2,nf 44 46 (cu 58 (cu 41 s)),fK 58 (cu 41 s),cu 63 (o0 (fK 41 s)),fK 63 (o0 (fK 41 s)),decide (63∈o0 (fK 41 s)),[],false⟩
def fU(s:List UInt8):Bool:=decide (e3 (sJ s)=0)&&(decide (Gu (sJ s)=s)&&!(decide (58∈cu 41 s)&&decide (fK 58 (cu 41 s)=[])))
def x3(s:List UInt8):Int:=if 2000<s.length then 2 else if fU s=true then 0 else 10
def sK(s:List UInt8):Addr:=if x3 s=0 then sJ s else dG
def zgb(parts:List (List UInt8))(h:parts≠[]):mj parts≠[]:=by
 obtain⟨t,b,rfl⟩:=VV parts h;unfold mj;rw[Ak,List.getLast?_concat];show q3 (t.foldl q3 []) b++_≠[]
 unfold q3;by_cases aa:b=Dd
 ·simp[aa]
 ·by_cases ab:b=Dc
  ·simp[ab]
  ·simp[aa,ab]
end Go.Proofs.YtaalfcghmjkaeaaGreatDoor
namespace Go.Proofs.YtaalfcghmjkaeaaGreatDoor
open Go Go.Ab Go.Proofs.Tryz Go.IntKind
variable [bf]
set_option maxRecDepth 100000
set_option maxHeartbeats 4000000
def zgM{c:UInt8}(h:c≠37)(r:List UInt8):gI (c::r)=c::gI r:=by
 match r with
 |[]=>rfl
 |[a]=>rfl
 |a::b::r=>rw[gI,au h]
def zgN(a b:UInt8)(r:List UInt8):gI (37::a::b::r)=Aj a b++gI r:=by rw[gI,aC rfl]
def Wr{w:List UInt8}:∀{s:List UInt8},eM w s=true->∀(i:Nat) (h:i<s.length),s[i]=37->sI (s.drop (i+1))=true
 |[],_,i,h,_=>by simp at h
 |c::r,an,0,_,e=>(Pd an).2.2.1 e
 |c::r,an,i+1,h,e=>by rw[BB];exact Wr (Pd an).2.2.2 i (by simpa using h) e
def Ws{w:List UInt8}:∀{s:List UInt8},eM w s=true->eM [] s=true
 |[],_=>rfl
 |c::r,h=>by obtain⟨_,ab,ar,aN⟩:=Pd h;have aX:=Ws aN;unfold eM at aX⊢;rw[Gq (by simp) ab ar];simpa using aX
structure q'(s:List UInt8)(i:Nat)(out:List UInt8):Prop where
 le:i<=s.length
 len:out.length<=i
 eq:gI s=out++gI (s.drop i)
def q'.zero(s:List UInt8):q' s 0 []:=⟨cd _,cd _,by simp⟩
def q'.one{s out:List UInt8}{i:Nat}(h:q' s i out)(aq:i<s.length)(aT:s[i]≠37):q' s (i+1) (out++[s[i]]):=
 ⟨aq,by have:=h.len;simp;omega,by rw[h.eq,g' aq,zgM aT];simp⟩
def PF(a b:UInt8):(Aj a b).length<=3:=by unfold Aj;split<;>simp
def q'.three{s out:List UInt8}{i:Nat}(h:q' s i out)(aq:i+2<s.length)(aT:s[i]'(by omega)=37):q' s (i+3) (out++Aj (s[i+1]'(by omega)) s[i+2]):=
 ⟨aq,by have:=h.len;have:=PF (s[i+1]'(by omega)) s[i+2];simp;omega,by rw[h.eq,g' (by omega),g' (by omega),g' aq,aT,zgN];simp⟩
def q'.done{s out:List UInt8}{i:Nat}(h:q' s i out)(k':¬i<s.length):gI s=out:=by rw[h.eq,kf (by omega)];simp[gI]
def zgO:∀c:UInt8,gG c=true->kx c<16:=ur (by decide +kernel)
def Wt{c:UInt8}(h:gG c=true):kx c<16:=zgO c h
def zgP(s:List UInt8)(i:Nat)(h:sI (s.drop (i+1))=true):∃ab:i+2<s.length,gG s[i+1]=true/\gG s[i+2]=true:=by
 rw[GB]at h;by_cases ab:i+2<s.length
 ·rw[dif_pos ab,b4]at h;exact⟨ab,h.1,h.2⟩
 ·rw[dif_neg ab]at h;cases h
def Wu(c:UInt8)(h:gG c=true):aD prog 218 [q5 c] (.x (.one (.int .u8 (kx c)))):=by
 have ay:∀c:UInt8,gG c=true->df c=false->(97<=c.toNat->u8.wrap (u8.wrap ((c.toNat:Int)-97)+10)=(kx c:Int))/\(¬97<=c.toNat->u8.wrap (u8.wrap ((c.toNat:Int)-65)+10)=(kx c:Int)):=ur (by decide +kernel);have aB:∀c:UInt8,df c=true->u8.wrap ((c.toNat:Int)-48)=(kx c:Int):=ur (by decide +kernel);refine aD.a6 f218 mixed fun aE=>?_;simp-implicitDefEqProofs;refine aA.of (x5 c) ?_;cases b:df c
 ·obtain⟨f1,f2⟩:=ay c h b;by_cases Wv:97<=c.toNat
  ·have g:(97<=(c.toNat:Int))=True:=aL (by omega);have f:=f1 Wv;simp-implicitDefEqProofs[g,f]
  ·have g:(97<=(c.toNat:Int))=False:=aV (by omega);have f:=f2 Wv;simp-implicitDefEqProofs[g,f]
 ·have f:=aB c b;simp-implicitDefEqProofs[f]
def PG:List UInt8:=[48,49,50,51,52,53,54,55,56,57,65,66,67,68,69,70]
def Ww{n:Nat}(h:n<16):∀aT,PG[n]'aT=uu n:=by
 have:∀k:Fin 16,∀aT,PG[k.val]'aT=uu k.val:=by decide
 exact this ⟨n,h⟩
structure zgQ(A B:Nat)(v:UInt8):Prop where
 eq:v.toNat=16*A+B
 or:bitsOf .or .u8 (u8.wrap ((A:Int)*16)) B=(v.toNat:Int)
 and:bitsOf .and .u8 (v.toNat:Int) 15=(B:Int)
 shr:(v.toNat:Int).fdiv 16=(A:Int)
 Md:u8.wrap (16*(A:Int)+B)=(v.toNat:Int)
 quo:u8.wrap ((v.toNat:Int)/16)=(A:Int)
 rem:(v.toNat:Int).tmod 16=(B:Int)
def zgR{A B:Nat}(cY:A<16)(bl:B<16):zgQ A B (UInt8.ofNat (16*A+B)):=by
 have key:∀A B:Fin 16,bitsOf .or .u8 (u8.wrap ((A.val:Int)*16)) B.val=((UInt8.ofNat (16*A.val+B.val)).toNat:Int)/\bitsOf .and .u8 ((UInt8.ofNat (16*A.val+B.val)).toNat:Int) 15=(B.val:Int):=by decide +kernel
 have e:(UInt8.ofNat (16*A+B)).toNat=16*A+B:=UInt8.toNat_ofNat_of_lt' (by simp[UInt8.size];omega);have k:=key ⟨A,cY⟩ ⟨B,bl⟩;have wr:∀z:Int,0<=z->z<256->u8.wrap z=z:=fun z aa ab=>by simp[IntKind.wrap,IntKind.signed,IntKind.bits];omega
 refine⟨e,k.1,k.2,?_,?_,?_,?_⟩
 ·rw[e,PH _ (by omega)];omega
 ·rw[wr _ (by omega) (by omega),e];omega
 ·rw[e,wr _ (by omega) (by omega)];omega
 ·rw[e,Int.tmod_eq_emod_of_nonneg (by omega)];omega
def zgS(v:UInt8):nZ v=(qY v ||(df v ||(decide (v=45) ||(decide (v=46) ||(decide (v=95) ||decide (v=126)))))):=by
 unfold nZ;have:([45,46,95,126]:List UInt8).contains v=(decide (v=45) ||(decide (v=46) ||(decide (v=95) ||decide (v=126)))):=by rw[q4];simp
 rw[this]
def Wx(s:List UInt8)(w:List UInt8)(an:eM w s=true)(ap:s.length<=4000000000000):aD prog 164 [.one (.str s)] (.x (.one (.str (gI s)))):=by
 have ak:=Wr an;refine aD.a6 f164 mixed fun aE=>?_;simp-implicitDefEqProofs;refine cI.of (Nat×List UInt8) (fun x=>[(0,.x (.one (.str s))),(3,.own 5 1 (bL x.2)),(4,.x (.one (.int .i64 x.1)))]) (fun x=>q' s x.1 x.2) (fun x=>s.length-x.1) (0,[]) (q'.zero s) ?_ ?_
 ·simp[bL]
 rintro⟨i,out⟩ ai;have hle:=ai.le;have PI:=ai.len;simp only at hle PI;have k4:(bL out).length=out.length:=j4 out;by_cases aq:i<s.length;rotate_left
 ·have aO:((i:Int)<(s.length:Int))=False:=aV (by omega);have ax:=ai.done aq;have aw:=Dg out;have ae:=Df out;have hm:out.length<=maxLen:=by unfold maxLen;omega
  simp-implicitDefEqProofs[aO,aw,ae];exact ax
 have aO:((i:Int)<(s.length:Int))=True:=aL (by omega);by_cases mm:s[i]=37;rotate_left
 ·have f1:((s[i].toNat:Int)=37)=False:=Dk 37 (by omega) mm;have f2:((s[i].toNat:Int) != 37)=true:=by rw[xE];exact fun e=>mm ((jE 37 (by omega)).1 e)
  have hm:out.length+1<=maxLen:=by unfold maxLen;omega
  have fL:i64.wrap ((i:Int)+1)=(i:Int)+1:=bk _ (by omega);have b3:bL (out++[s[i]])=bL out++[g_ s[i]]:=by simp[bL]
  simp-implicitDefEqProofs[aO,aq,f2,k4,hm,fL];refine⟨by omega,bI.of (i+1,out++[s[i]]) (ai.one aq mm) (by simp only;omega) ?_⟩;simp[b3]
 have f1:((s[i].toNat:Int)=37)=True:=aL ((jE 37 (by omega)).2 mm);have f2:((s[i].toNat:Int) != 37)=false:=by rw[Pr];exact(jE 37 (by omega)).2 mm
 obtain⟨ab,cA,db⟩:=zgP s i (ak i aq mm);have jw:i+1<s.length:=by omega
 have Wy:((i:Int)+1<(s.length:Int))=True:=aL (by omega);have Wz:((i:Int)+2<(s.length:Int))=True:=aL (by omega);have dm:(0<=(i:Int)+1)=True:=aL (by omega);have dF:(0<=(i:Int)+2)=True:=aL (by omega);have m1:((i:Int)+1).toNat=i+1:=by omega
 have m2:((i:Int)+2).toNat=i+2:=by omega
 have cH:i64.wrap ((i:Int)+1)=(i:Int)+1:=bk _ (by omega);have dW:i64.wrap ((i:Int)+2)=(i:Int)+2:=bk _ (by omega);have hs:i64.wrap ((i:Int)+2+1)=(i:Int)+3:=by rw[bk _ (by omega)];omega
 have v1:=Wu s[i+1] cA;have v2:=Wu s[i+2] db;have KB:=Wt cA;have KC:=Wt db;have mb:Aj s[i+1] s[i+2]=if nZ (UInt8.ofNat (16*kx s[i+1]+kx s[i+2]))=true then [UInt8.ofNat (16*kx s[i+1]+kx s[i+2])]else [37,uu (kx s[i+1]),uu (kx s[i+2])]:=rfl
 have ya:=ai.three ab mm;obtain⟨A,iT⟩:∃A,A=kx s[i+1]:=⟨_,rfl⟩
 obtain⟨B,di⟩:∃B,B=kx s[i+2]:=⟨_,rfl⟩
 rw[<-iT]at v1 KB mb;rw[<-di]at v2 KC mb;have aH:=zgR KB KC;obtain⟨v,ev⟩:∃v,v=UInt8.ofNat (16*A+B):=⟨_,rfl⟩
 rw[<-ev]at aH mb;have nY:=zgS v;have hC:=PF s[i+1] s[i+2];obtain⟨p0,WA⟩:∃p0,p0=Aj s[i+1] s[i+2]:=⟨_,rfl⟩
 rw[<-WA]at mb ya hC;obtain⟨Ci,z2,z3,z4,z5,KD,KE⟩:=aH;clear iT di ev WA;have WB:=Ww KB;have WC:=Ww KC;unfold PG at WB WC;have WD:u8.bits=8:=rfl;have zIh:i64.wrap (16*(A:Int))=16*(A:Int):=bk _ (by omega);have zIi:i64.wrap (16*(A:Int)+(B:Int))=16*(A:Int)+(B:Int):=bk _ (by omega);have zgT:((A:Int)<16)=True:=aL (by omega);have zgU:((B:Int)<16)=True:=aL (by omega);simp-implicitDefEqProofs[aO,aq,f2,jw,Wy,dm,m1,cH];refine aA.of v1 ?_;simp-implicitDefEqProofs[Wz,ab,dF,m2,dW];refine aA.of v2 ?_;simp-implicitDefEqProofs[z2,WD];refine aA.of (Kk v) ?_;have zgV:nZ v=true->p0=[v]:=fun h=>by rw[mb,aC h]
 have fR:nZ v=false->p0=[37,uu A,uu B]:=fun h=>by rw[mb,au (by rw[h];decide)]
 have Dt:nZ v=true->bL (out++p0)=bL out++[g_ v]:=fun h=>by rw[zgV h];simp[bL]
 have S0:nZ v=false->bL (out++p0)=bL out++[g_ 37,g_ (uu A),g_ (uu B)]:=fun h=>by rw[fR h];simp[bL]
 have jF:out.length+1<=maxLen:=by unfold maxLen;omega
 have zgW:out.length+3<=maxLen:=by unfold maxLen;omega
 cases ef:qY v
 ·simp-implicitDefEqProofs;refine bp.of (fun _=>x5 v) rfl ?_;cases dv:df v
  ·by_cases jy:v=45
   ·have b5:((v.toNat:Int)=45)=True:=aL ((jE 45 (by omega)).2 jy);have g3:((v.toNat:Int)==45)=true:=by simpa using b5
    simp-implicitDefEqProofs[g3,k4,jF,dW];have fI:nZ v=true:=by rw[nY];simp[*]
    refine⟨by omega,bI.of (i+3,out++p0) ya (by simp only;omega) ?_⟩;simp[Dt fI,hs]
   have b5:((v.toNat:Int)=45)=False:=Dk 45 (by omega) jy;have g3:((v.toNat:Int)==45)=false:=by simpa using b5
   by_cases GL:v=46
   ·have eH:((v.toNat:Int)=46)=True:=aL ((jE 46 (by omega)).2 GL);have g4:((v.toNat:Int)==46)=true:=by simpa using eH
    simp-implicitDefEqProofs[g3,g4,k4,jF,dW];have fI:nZ v=true:=by rw[nY];simp[*]
    refine⟨by omega,bI.of (i+3,out++p0) ya (by simp only;omega) ?_⟩;simp[Dt fI,hs]
   have eH:((v.toNat:Int)=46)=False:=Dk 46 (by omega) GL;have g4:((v.toNat:Int)==46)=false:=by simpa using eH
   by_cases GM:v=95
   ·have dd:((v.toNat:Int)=95)=True:=aL ((jE 95 (by omega)).2 GM);have g5:((v.toNat:Int)==95)=true:=by simpa using dd
    simp-implicitDefEqProofs[g3,g4,g5,k4,jF,dW];have fI:nZ v=true:=by rw[nY];simp[*]
    refine⟨by omega,bI.of (i+3,out++p0) ya (by simp only;omega) ?_⟩;simp[Dt fI,hs]
   have dd:((v.toNat:Int)=95)=False:=Dk 95 (by omega) GM;have g5:((v.toNat:Int)==95)=false:=by simpa using dd
   by_cases mq:v=126
   ·have iN:((v.toNat:Int)=126)=True:=aL ((jE 126 (by omega)).2 mq);have g6:((v.toNat:Int)==126)=true:=by simpa using iN
    simp-implicitDefEqProofs[g3,g4,g5,g6,k4,jF,dW];have fI:nZ v=true:=by rw[nY];simp[*]
    refine⟨by omega,bI.of (i+3,out++p0) ya (by simp only;omega) ?_⟩;simp[Dt fI,hs]
   have iN:((v.toNat:Int)=126)=False:=Dk 126 (by omega) mq;have g6:((v.toNat:Int)==126)=false:=by simpa using iN
   simp-implicitDefEqProofs[g3,g4,g5,g6,k4,zgW,dW,z3,z4,WD,KB,KC,zgT,zgU,WB,WC];have BS:nZ v=false:=by rw[nY];simp[*]
   refine⟨by omega,bI.of (i+3,out++p0) ya (by simp only;omega) ?_⟩;simp[S0 BS,hs]
  ·simp-implicitDefEqProofs[k4,jF,dW];have fI:nZ v=true:=by rw[nY];simp[*]
   refine⟨by omega,bI.of (i+3,out++p0) ya (by simp only;omega) ?_⟩;simp[Dt fI,hs]
 ·simp-implicitDefEqProofs;refine bp.of (fun h=>by cases h) (r:=.x (.one (.bool false))) rfl ?_;simp-implicitDefEqProofs[k4,jF,dW];have fI:nZ v=true:=by rw[nY];simp[*]
  refine⟨by omega,bI.of (i+3,out++p0) ya (by simp only;omega) ?_⟩;simp[Dt fI,hs]
end Go.Proofs.YtaalfcghmjkaeaaGreatDoor
namespace Go.Proofs.YtaalfcghmjkaeaaGreatDoor
open Go Go.Ab Go.Proofs.Tryz Go.IntKind
variable [bf][cK prog]
set_option maxRecDepth 100000
set_option maxHeartbeats 4000000
def dr(l:List (List UInt8)):List (List af):=l.map fun x=>[af.str x]
def v8(l:List (List UInt8)):(dr l).length=l.length:=by simp[dr]
def Au(l:List (List UInt8))(x:List UInt8):dr (l++[x])=dr l++[[af.str x]]:=by simp[dr]
def zhb(l:List (List UInt8)):(dr l).take (l.length-1)=dr l.dropLast:=by unfold dr;rw[<-yc,List.dropLast_eq_take]
def ik(parts:List (List UInt8))(i:Nat):List (List UInt8):=(parts.take i).foldl q3 []
def PN{parts:List (List UInt8)}{i:Nat}(h:i<parts.length):ik parts (i+1)=q3 (ik parts i) parts[i]:=by unfold ik;rw[nF h,Ak];rfl
def zhc(out:List (List UInt8))(p:List UInt8):(q3 out p).length<=out.length+1:=by
 unfold q3;split
 ·simp;omega
 ·split<;>simp
def KG(parts:List (List UInt8)):∀i,(ik parts i).length<=i
 |0=>by simp[ik]
 |i+1=>by
  by_cases h:i<parts.length
  ·rw[PN h];have:=zhc (ik parts i) parts[i];have:=KG parts i;omega
  ·have:ik parts (i+1)=ik parts i:=by unfold ik;rw[iv (by omega),iv (by omega)]
   rw[this];have:=KG parts i;omega
def zhd{parts:List (List UInt8)}{i:Nat}(h:i<parts.length)(al:i=parts.length-1):mj parts=ik parts (i+1)++(if parts[i]=Dd\/parts[i]=Dc then [[]]else []):=by
 have ab:parts.getLast?=some parts[i]:=by subst al;rw[Pl,cn h]
 have ar:ik parts (i+1)=parts.foldl q3 []:=by unfold ik;rw[iv (by omega)]
 unfold mj;rw[ab,ar];simp only[bS]
def sP(c:UInt8):∀w:List (List UInt8),Lib.join w [c]=hG c w
 |[]=>rfl
 |[a]=>Lib.join_one a [c]
 |a::b::r=>by have aX:=sP c (b::r);rw[Lib.join_cons]at aX;rw[Lib.join_cons,hG,<-aX];simp[Lib.joinTail]
def eY(w:List (List UInt8)):Nat:=(w.map fun x=>x.length+1).sum
def Dw(a b:List (List UInt8)):eY (a++b)=eY a+eY b:=by simp[eY]
def rb(c:UInt8):∀w:List (List UInt8),w≠[]->(hG c w).length+1=eY w
 |[],h=>absurd rfl h
 |[a],_=>by simp[hG,eY]
 |a::b::r,_=>by
  have aX:=rb c (b::r) (by simp);have e:eY (a::b::r)=(a.length+1)+eY (b::r):=by simp[eY]
  rw[e,<-aX,hG];simp only[eE,eg];omega
def zhe(w:List (List UInt8)):eY w.dropLast<=eY w:=by
 by_cases h:w=[]
 ·subst h;simp
 ·have e:=List.dropLast_concat_getLast h;have:eY w=eY w.dropLast+eY [w.getLast h]:=by rw[<-Dw,e]
  omega
def WG(parts:List (List UInt8)):∀i,eY (ik parts i)<=eY (parts.take i)
 |0=>by simp[ik,eY]
 |i+1=>by
  have aX:=WG parts i;by_cases h:i<parts.length
  ·rw[PN h,nF h,Dw];unfold q3;split
   ·have:=zhe (ik parts i);omega
   ·split
    ·omega
    ·rw[Dw];omega
  ·have av:ik parts (i+1)=ik parts i:=by unfold ik;rw[iv (by omega),iv (by omega)]
   have aI:parts.take (i+1)=parts.take i:=by rw[iv (by omega),iv (by omega)]
   rw[av,aI];exact aX
def KH(parts:List (List UInt8))(h:parts≠[])(c:UInt8):(hG c (mj parts)).length<=eY parts:=by
 have aa:=rb c _ (zgb parts h);have ab:=WG parts parts.length;rw[sQ]at ab;have ar:eY (mj parts)<=eY (ik parts parts.length)+1:=by unfold mj;rw[show parts.foldl q3 []=ik parts parts.length by unfold ik;rw[sQ],Dw];split<;>simp[eY]
 omega
structure zhf(parts:List (List UInt8))(i:Nat)(out:List (List UInt8)):Prop where
 le:i<=parts.length
 len:out.length<=i+1
 before:i<parts.length->out=ik parts i
 fin:i=parts.length->out=mj parts
def WH(p:List UInt8)(ak:p.length<=600000):aD prog 165 [.one (.str p)] (.x (.one (.str (n0 p)))):=by
 refine aD.a6 f165 mixed fun aE=>?_;by_cases aW:p=[]
 ·subst aW;simp-implicitDefEqProofs;rfl
 have fI:0<p.length:=by cases p with|nil=>exact absurd rfl aW|cons a r=>simp
 have d7:n0 p=47::hG 47 (mj (ey 47 (p.drop 1))):=by unfold n0;rw[au aW]
 have cU:=Km (p.drop 1) 47 (by simp;omega);have v_:=GA 47 (p.drop 1);rw[eo]at v_;have bC:=sR 47 (p.drop 1);obtain⟨parts,v'⟩:∃parts,parts=ey 47 (p.drop 1):=⟨_,rfl⟩
 rw[<-v']at d7 cU v_ bC;rw[List.drop_one]at cU;have At:0<parts.length:=by cases parts with|nil=>exact absurd rfl bC|cons a r=>simp
 have GT:=rb 47 parts bC;rw[v',yd,<-v',eo]at GT;have zIj:=KH parts bC 47;have g1:(1<=(p.length:Int))=True:=aL (by omega);have Dq:(1<=p.length)=True:=aL (by omega);simp-implicitDefEqProofs[aW,g1];refine aA.of cU ?_;simp-implicitDefEqProofs;refine cI.of (Nat×List (List UInt8)) (fun x=>[(3,.x (strs parts)),(4,.own 9 1 (dr x.2)),(12,.x (strs parts)),(13,.x (.one (.int .i64 parts.length))),(14,.x (.one (.int .i64 x.1)))]) (fun x=>zhf parts x.1 x.2) (fun x=>parts.length-x.1) (0,[]) ⟨cd _,by simp,fun _=>by simp[ik],fun h=>by omega⟩ ?_ ?_
 ·simp[dr]
 rintro⟨i,out⟩ ⟨hle,PI,WI,kR⟩;simp only at hle PI WI kR;by_cases aq:i<parts.length;rotate_left
 ·have aO:((i:Int)<(parts.length:Int))=False:=aV (by omega);have aw:=kR (by omega);subst aw;have ac:=strings_Join (mj parts) [47] (by rw[sP];omega) (by omega);rw[sP]at ac;have w4:1+(hG 47 (mj parts)).length<=maxLen:=by unfold maxLen;omega
  have PO:(hG 47 (mj parts)).length+1<=maxLen:=by unfold maxLen;omega
  generalize hG 47 (mj parts)=J at ac d7 w4 PO;rw[d7];simp-implicitDefEqProofs[aO];refine aA.of ac ?_;simp-implicitDefEqProofs[w4]
 have aO:((i:Int)<(parts.length:Int))=True:=aL (by omega);have ae:=WI aq;have eh:=KG parts i;rw[<-ae]at eh;have fL:i64.wrap ((i:Int)+1)=(i:Int)+1:=bk _ (by omega);have wn:i64.wrap ((parts.length:Int)-1)=((parts.length-1:Nat):Int):=by rw[bk _ (by omega)];omega
 have wa:=PN aq;rw[<-ae]at wa;unfold q3 at wa;have dA:=v8 out;have w9:max 0 (i64.wrap ((out.length:Int)-1))=((out.length-1:Nat):Int):=by rw[bk _ (by omega)];omega
 have jF:out.length+1<=maxLen:=by unfold maxLen;omega
 have pI:(out.length-1<=out.length)=True:=aL (by omega);have Dx:(((out.length-1:Nat):Int)<=(out.length:Int))=True:=aL (by omega);have Dy:=zhb out;have gl:(dr out.dropLast).length=out.length-1:=by simp[dr]
 have rc:=zhd aq;rw[wa]at rc;by_cases m8:i=parts.length-1
 ·have ec:((i:Int)=((parts.length-1:Nat):Int))=True:=aL (by omega);have l2:((i:Int)==((parts.length-1:Nat):Int))=true:=by rw[fB];omega
  have rc:=rc m8;by_cases e1:parts[i]=Dd
  ·have d1:parts[i]=[46,46]:=e1;rw[aC e1,aC (.inl e1)]at rc;simp-implicitDefEqProofs[aO,aq,d1,dA,w9,Dx,Dy,fL,wn,l2];refine⟨⟨by rw[gl];omega,by rw[gl];unfold maxLen;omega⟩,bI.of (i+1,mj parts) ⟨by simp only;omega,by rw[rc];simp;omega,fun h=>by simp only at h;omega,fun _=>rfl⟩ (by simp only;omega) ?_⟩;simp[rc,Au]
  ·have d1:¬parts[i]=[46,46]:=e1;by_cases ax:parts[i]=Dc
   ·have d2:parts[i]=[46]:=ax;rw[au e1,aC ax,aC (.inr ax)]at rc;simp-implicitDefEqProofs[aO,aq,d2,dA,fL,wn,l2,jF];refine⟨by omega,bI.of (i+1,mj parts) ⟨by simp only;omega,by rw[rc];simp;omega,fun h=>by simp only at h;omega,fun _=>rfl⟩ (by simp only;omega) ?_⟩;simp[rc,Au]
   ·have d2:¬parts[i]=[46]:=ax;rw[au e1,au ax,au (by rintro (h|h);exact e1 h;exact ax h),wO]at rc;simp-implicitDefEqProofs[aO,aq,d1,d2,dA,w9,Dx,Dy,fL,wn,l2,jF];refine⟨by omega,bI.of (i+1,mj parts) ⟨by simp only;omega,by rw[rc];simp;omega,fun h=>by simp only at h;omega,fun _=>rfl⟩ (by simp only;omega) ?_⟩;simp[rc,Au]
 ·have ec:((i:Int)=((parts.length-1:Nat):Int))=False:=aV (by omega);have l2:((i:Int)==((parts.length-1:Nat):Int))=false:=by rw[jz];omega
  have zIk:=KG parts (i+1);by_cases e1:parts[i]=Dd
  ·have d1:parts[i]=[46,46]:=e1;rw[aC e1]at wa;simp-implicitDefEqProofs[aO,aq,d1,dA,w9,Dx,Dy,fL,wn,l2];refine bI.of (i+1,ik parts (i+1)) ⟨by simp only;omega,by simp only;omega,fun _=>rfl,fun h=>by simp only at h;omega⟩ (by simp only;omega) ?_;simp[wa]
  ·have d1:¬parts[i]=[46,46]:=e1;by_cases ax:parts[i]=Dc
   ·have d2:parts[i]=[46]:=ax;rw[au e1,aC ax]at wa;simp-implicitDefEqProofs[aO,aq,d2,fL,wn,l2];refine bI.of (i+1,ik parts (i+1)) ⟨by simp only;omega,by simp only;omega,fun _=>rfl,fun h=>by simp only at h;omega⟩ (by simp only;omega) ?_;simp[wa]
   ·have d2:¬parts[i]=[46]:=ax;rw[au e1,au ax]at wa;simp-implicitDefEqProofs[aO,aq,d1,d2,dA,w9,Dx,Dy,fL,wn,l2,jF];refine⟨by omega,bI.of (i+1,ik parts (i+1)) ⟨by simp only;omega,by simp only;omega,fun _=>rfl,fun h=>by simp only at h;omega⟩ (by simp only;omega) ?_⟩;simp[wa,Au]
end Go.Proofs.YtaalfcghmjkaeaaGreatDoor
namespace Go.Proofs.YtaalfcghmjkaeaaGreatDoor
open Go
set_option maxRecDepth 100000
end Go.Proofs.YtaalfcghmjkaeaaGreatDoor
namespace Go.Proofs.YtaalfcghmjkaeaaGreatDoor
open Go Go.Ab Go.Proofs.Tryz Go.IntKind
variable [bf][jC prog]
set_option maxRecDepth 100000
set_option maxHeartbeats 4000000
end Go.Proofs.YtaalfcghmjkaeaaGreatDoor
namespace Go.Proofs.YtaalfcghmjkaeaaGreatDoor
open Go Go.Ab Go.Proofs.Tryz Go.IntKind
variable [bf][cK prog]
set_option maxRecDepth 100000
set_option maxHeartbeats 4000000
def strings_trimLeftByte(s:List UInt8)(c:UInt8):aD prog 110 [.one (.str s),q5 c] (.x (.one (.str (s.dropWhile (·==c))))):=by
 obtain⟨R,aR⟩:∃R,R=s.dropWhile (·==c):=⟨_,rfl⟩
 rw[<-aR];refine aD.a6 f110 mixed fun aE=>?_;simp-implicitDefEqProofs;refine cI.of (List UInt8) (fun u=>[(0,.x (.one (.str u))),(1,.x (q5 c))]) (fun u=>R=u.dropWhile (·==c)) (fun u=>u.length) s aR ?_ ?_
 ·simp
 intro u hu;cases u with
 |nil=>simp at hu;subst hu;simp-implicitDefEqProofs
 |cons a r=>
  have aa:(0<((a::r).length:Int))=True:=aL (by simp only[eg];omega);have ab:(0<(a::r).length)=True:=aL (by simp);have g1:(1<=((a::r).length:Int))=True:=aL (by simp only[eg];omega);have ak:(0<(r.length:Int)+1)=True:=aL (by omega);have fN:(1<=(r.length:Int)+1)=True:=aL (by omega);by_cases ao:a=c
  ·subst ao;rw[Pg (by simp)]at hu;simp-implicitDefEqProofs[ak,fN];refine bI.of r hu (by simp) ?_;simp;rw[show ((r.length:Int)+1)=((r.length+1:Nat):Int)from by omega];unfold cutAt;rw[re];simp
  ·have f1:((a.toNat:Int)=(c.toNat:Int))=False:=aV (fun e=>ao (uw.1 (by omega)));have f2:((a.toNat:Int)==(c.toNat:Int))=false:=by simpa using f1
   rw[Ph (by simpa using ao)]at hu;subst hu;simp-implicitDefEqProofs[ak,f2]
def zhg(s:List UInt8):aD prog 163 [.one (.str s),.one (.str [48])] (.x (.one (.str (uv s)))):=by
 have ba:=strings_trimLeftByte s 48;refine aD.a6 f163 mixed fun aE=>?_;by_cases aW:s=[]
 ·subst aW;simp-implicitDefEqProofs;rfl
 ·simp-implicitDefEqProofs[aW];exact aA.of ba (by simp-implicitDefEqProofs;rfl)
end Go.Proofs.YtaalfcghmjkaeaaGreatDoor
namespace Go.Proofs.YtaalfcghmjkaeaaGreatDoor
open Go Go.Ab Go.Proofs.Tryz Go.IntKind
variable [bf][cK prog][jC prog]
set_option maxRecDepth 100000
set_option maxHeartbeats 4000000
def Dz(a:Addr):a.scheme.length+a.host.length+a.port.length+a.path.length+(pX a).length+(Ah a).length<=(oZ a).length:=by
 unfold oZ uo qZ;simp only[eE];split
 ·rename_i h;rw[h];simp;omega
 ·simp;omega
def Av:∀s:List UInt8,(gI s).length<=s.length
 |[]=>by simp[gI]
 |[c]=>by simp[gI]
 |[c,a]=>by simp[gI]
 |c::a::b::r=>by
  rw[gI];split
  ·have:=Av r;have:=PF a b;simp only[eE,eg];omega
  ·have:=Av (a::b::r);simp only[eg]at this⊢;omega
structure uA(a:Addr):Prop where
 port:a.port≠[]->gh a.port≠0
 path:eM [] a.path=true
 head:a.path≠[]->a.path.head?=some 47
 query:eM [] a.query=true
 KI:a.path.length<=2000
 WJ:a.query.length<=2000
def uA.of{a:Addr}(h:e3 a=0):uA a:=by
 obtain⟨_,_,ar,aN,bD,_,dw,_,al⟩:=Ai h;have hw:=Dz a;have br:a.query.length<=(pX a).length:=by
  unfold pX;by_cases e:a.query=[]
  ·rw[e];simp
  ·rw[dw e];simp
 unfold uq at aN;simp only[eO,hF,b4]at aN;refine⟨ar,?_,fun aT=>?_,bD,by omega,by omega⟩
 ·rcases aN with e|⟨_,e⟩
  ·rw[e];rfl
  ·exact Ws e
 ·rcases aN with e|⟨e,_⟩
  ·exact absurd e aT
  ·exact e
def PQ(a:Addr)(h:e3 a=0):aD prog 98 [.agg a.row] (.x (.agg (gW a).row)):=by
 obtain⟨_,KJ,ye,KK,yf,yg⟩:=uA.of h;obtain⟨cX,aw,cM,pa,ej,br,bo,ay⟩:=a;simp only at KJ ye KK yf yg;have bA:=q6 cX;have c2:=q6 aw;have c3:=zhg cM;have c4:=Wx pa [] KJ (by omega);have c5:=Wx ej [] KK (by omega);have hC:=Av pa;have jg:=WH (gI pa) (by omega);have hR:gW ⟨cX,aw,cM,pa,ej,br,bo,ay⟩=⟨cD cX,cD aw,if (cD cX=j2/\uv cM=[56,48])\/(cD cX=iS/\uv cM=[52,52,51])then []else uv cM,if n0 (gI pa)=[]then [47]else n0 (gI pa),gI ej,br,[],false⟩:=rfl;rw[hR];generalize cD cX=PP at bA;generalize cD aw=zIl at c2;generalize uv cM=WK at c3;generalize n0 (gI pa)=n4 at jg;generalize gI pa=zIm at c4 jg hC;generalize gI ej=zIn at c5;unfold j2 iS;simp only[Addr.row];refine aD.a6 f98 mixed fun aE=>?_;simp-implicitDefEqProofs;refine hc.l ⟨by kernel_rfl,?_⟩;simp-implicitDefEqProofs;refine aA.of bA ?_;simp-implicitDefEqProofs;refine aA.of c2 ?_;simp-implicitDefEqProofs;refine aA.of c3 ?_;simp-implicitDefEqProofs;refine aA.of c4 ?_;simp-implicitDefEqProofs;refine aA.of c5 ?_;by_cases s1:PP=[104,116,116,112]
 ·have s2:¬PP=[104,116,116,112,115]:=by rw[s1];decide
  by_cases dm:WK=[56,48]
  ·simp-implicitDefEqProofs[s1,dm];refine aA.of jg ?_;by_cases d7:n4=[]
   ·simp-implicitDefEqProofs[d7,s1,dm]
   ·have wb:(n4=[])=False:=aV d7;have wc:n4.isEmpty=false:=by simpa using d7
    simp-implicitDefEqProofs[d7,wc,s1,dm]
  ·simp-implicitDefEqProofs[s1,dm];refine aA.of jg ?_;by_cases d7:n4=[]
   ·simp-implicitDefEqProofs[d7,s1,dm]
   ·have wb:(n4=[])=False:=aV d7;have wc:n4.isEmpty=false:=by simpa using d7
    simp-implicitDefEqProofs[d7,wc,s1,dm]
 ·by_cases s2:PP=[104,116,116,112,115]
  ·by_cases dF:WK=[52,52,51]
   ·simp-implicitDefEqProofs[s2,dF];refine aA.of jg ?_;by_cases d7:n4=[]
    ·simp-implicitDefEqProofs[d7,s2,dF]
    ·have wb:(n4=[])=False:=aV d7;have wc:n4.isEmpty=false:=by simpa using d7
     simp-implicitDefEqProofs[d7,wc,s2,dF]
   ·simp-implicitDefEqProofs[s2,dF];refine aA.of jg ?_;by_cases d7:n4=[]
    ·simp-implicitDefEqProofs[d7,s2,dF]
    ·have wb:(n4=[])=False:=aV d7;have wc:n4.isEmpty=false:=by simpa using d7
     simp-implicitDefEqProofs[d7,wc,s2,dF]
  ·simp-implicitDefEqProofs[s1,s2];refine aA.of jg ?_;by_cases d7:n4=[]
   ·simp-implicitDefEqProofs[d7,s1,s2]
   ·have wb:(n4=[])=False:=aV d7;have wc:n4.isEmpty=false:=by simpa using d7
    simp-implicitDefEqProofs[d7,wc,s1,s2]
def zhh{a:Addr}(h:e3 a=0):(gW a).Fit:=by
 obtain⟨zhi,KJ,ye,KK,yf,yg⟩:=uA.of h;have al:=(Ai h).2.2.2.2.2.2.2.2;have hw:=Dz a;have aa:(gW a).scheme.length=a.scheme.length:=by show (cD a.scheme).length=_;simp[cD]
 have ab:(gW a).host.length=a.host.length:=by show (cD a.host).length=_;simp[cD]
 have ar:(gW a).port.length<=a.port.length:=by
  show (Gs (cD a.scheme) a.port).length<=_;unfold Gs;split
  ·simp
  ·unfold uv;exact(List.dropWhile_suffix _).length_le
 have aN:(gW a).path.length<=2100:=by
  show (Gt a.path).length<=_;unfold Gt;have ao:=Av a.path;split
  ·simp
  ·unfold n0;split
   ·simp
   ·have bC:=sR 47 ((gI a.path).drop 1);have e:=KH _ bC 47;have aI:=rb 47 _ bC;rw[yd,eo]at aI;simp only[eg];omega
 have bD:(gW a).query.length<=a.query.length:=by show (gI a.query).length<=_;exact Av _
 exact⟨by omega,by omega,by omega,by omega,by omega,by show (0:Nat)<=_;omega⟩
def GV(a:Addr):Addr:=if vX a=0 then gW a else dG
def zhj(a:Addr)(bc:a.Fit):aD prog 56 [.agg a.row] (.b2 [.agg (GV a).row,.one (.int .i64 (vX a))]):=by
 have aF:=x6 a bc;obtain⟨F,a8⟩:∃F,F=vX a:=⟨_,rfl⟩
 obtain⟨X,cS⟩:∃X,X=GV a:=⟨_,rfl⟩
 have fw:=cS;unfold GV at fw;rw[<-a8]at fw⊢;rw[<-cS];unfold vX at a8;by_cases aW:e3 a=0;rotate_left
 ·rw[aC aW]at a8;rw[<-a8]at aF;have f1:(F==0)=false:=by rw[jz,a8];exact aW
  have f2:¬F=0:=by rw[a8];exact aW
  rw[au f2]at fw;subst fw;clear cS bc aW a8;obtain⟨cX,aw,cM,pa,ej,br,bo,ay⟩:=a;simp only[Addr.row]at aF⊢;refine aD.a6 f56 mixed fun aE=>?_;simp-implicitDefEqProofs;refine aA.of aF ?_;simp-implicitDefEqProofs[f2,dG]
 rw[au (fun e=>e aW)]at a8;rw[aW]at aF;have aP:=PQ a aW;have a7:=x6 (gW a) (zhh aW);rw[<-a8]at a7;generalize gW a=N at aP a7 fw;clear cS bc aW a8;obtain⟨cX,aw,cM,pa,ej,br,bo,ay⟩:=a;obtain⟨k5,no,n5,rf,sS,kz,qP,wd⟩:=N;simp only[Addr.row]at aF aP a7⊢;refine aD.a6 f56 mixed fun aE=>?_;simp-implicitDefEqProofs;refine aA.of aF ?_;simp-implicitDefEqProofs;refine aA.of aP ?_;simp-implicitDefEqProofs;refine aA.of a7 ?_;by_cases f2:F=0
 ·have f1:(F==0)=true:=by simpa using f2
  rw[aC f2]at fw;subst fw;simp-implicitDefEqProofs[f2]
 ·have f1:(F==0)=false:=by simpa using f2
  rw[au f2]at fw;subst fw;simp-implicitDefEqProofs[f2,dG]
def zhk(k:Int)(s:List UInt8):aD prog 219 [.one .nil,.agg [.int .i64 k,.str s]] (.x (.one (.int .i64 (-1)))):=by
 refine aD.a6 f219 mixed fun aE=>?_;simp-implicitDefEqProofs;refine cI.of Unit (fun _=>[(0,.x (.one .nil)),(3,.box [.int .i64 k,.str s]),(7,.x (.one (.int .i64 0))),(8,.x (.one (.int .i64 0)))]) (fun _=>True) (fun _=>0) () trivial ?_ ?_
 ·simp
 intro _ _;simp-implicitDefEqProofs
def zhl(k:Int)(s:List UInt8):aD prog 166 [.one .nil,.agg [.int .i64 k,.str s]] (.x (.one (.bool false))):=by refine aD.a6 f166 mixed fun aE=>?_;simp-implicitDefEqProofs;refine aA.of (zhk k s) ?_;simp-implicitDefEqProofs
def sT(k:Int)(s:List UInt8):aD prog 99 [.one .nil,.one (.int .i64 k),.one (.str s)] (.x (.one (.bool false))):=by refine aD.a6 f99 mixed fun aE=>?_;simp-implicitDefEqProofs;refine aA.of (zhl k s) ?_;simp-implicitDefEqProofs
def p2(s:List UInt8)(c:UInt8):Nat->Int
 |0=>-1
 |n+1=>if s[n]?=some c then n else p2 s c n
def KL(s:List UInt8)(c:UInt8):∀n,-1<=p2 s c n/\p2 s c n<n
 |0=>by simp[p2]
 |n+1=>by have:=KL s c n;unfold p2;split<;>omega
def zhm(s:List UInt8)(c:UInt8)(ap:s.length<=4000000000000):aD prog 220 [.one (.str s),q5 c] (.x (.one (.int .i64 (p2 s c s.length)))):=by
 obtain⟨R,aR⟩:∃R,R=p2 s c s.length:=⟨_,rfl⟩
 rw[<-aR];refine aD.a6 f220 mixed fun aE=>?_;have w0:i64.wrap ((s.length:Int)-1)=(s.length:Int)-1:=bk _ (by omega);simp-implicitDefEqProofs[w0];refine cI.of Nat (fun n=>[(0,.x (.one (.str s))),(1,.x (q5 c)),(5,.x (.one (.int .i64 ((n:Int)-1))))]) (fun n=>n<=s.length/\R=p2 s c n) (fun n=>n) s.length ⟨eG _,aR⟩ ?_ ?_
 ·simp
 rintro n ⟨aT,ah⟩;cases n with
 |zero=>have h:R=-1:=ah;subst h;simp-implicitDefEqProofs
 |succ m=>
  have hm:m<s.length:=by omega
  have av:((m+1:Nat):Int)-1=(m:Int):=by omega
  rw[av];have dK:((m:Int)<(s.length:Int))=True:=aL (by omega);have aW:(0<=(m:Int))=True:=aL (by omega);have cH:i64.wrap ((m:Int)-1)=(m:Int)-1:=bk _ (by omega);have bM:R=if s[m]?=some c then (m:Int)else p2 s c m:=ah
  rw[cn hm]at bM;by_cases ao:s[m]=c
  ·rw[aC (by rw[ao])]at bM;subst bM;have f1:((s[m].toNat:Int)=(c.toNat:Int))=True:=aL (by rw[ao]);have f2:((s[m].toNat:Int)==(c.toNat:Int))=true:=by simpa using f1
   simp-implicitDefEqProofs[hm,dK,aW,f2]
  ·rw[au (by simpa using ao)]at bM;have f1:((s[m].toNat:Int)=(c.toNat:Int))=False:=aV (fun e=>ao (uw.1 (by omega)));have f2:((s[m].toNat:Int)==(c.toNat:Int))=false:=by simpa using f1
   simp-implicitDefEqProofs[hm,dK,aW,f2,cH];refine bI.of m ⟨by omega,bM⟩ (by omega) (by simp)
def PR(s:List UInt8)(c:UInt8)(ap:s.length<=4000000000000):aD prog 168 [.one (.str s),q5 c] (.x (.one (.int .i64 (p2 s c s.length)))):=by refine aD.a6 f168 mixed fun aE=>?_;simp-implicitDefEqProofs;refine aA.of (zhm s c ap) ?_;simp-implicitDefEqProofs
def zhn(s:List UInt8)(ap:s.length<=4000000000000):aD prog 100 [.one (.str s),.one .nil] (.x (.one (.str s))):=by
 have al:=PR s 47 ap;have ae:=KL s 47 s.length;generalize p2 s 47 s.length=k at al ae;obtain⟨j,m7⟩:∃j:Nat,k+1=j:=⟨(k+1).toNat,by omega⟩
 have mo:i64.wrap (k+1)=(j:Int):=by rw[bk _ (by omega)];exact m7
 have g1:((j:Int)<=(s.length:Int))=True:=aL (by omega);have g2:(j<=s.length)=True:=aL (by omega);refine aD.a6 f100 mixed fun aE=>?_;simp-implicitDefEqProofs;refine aA.of (sT 3 []) ?_;simp-implicitDefEqProofs;refine aA.of al ?_;by_cases he:s.drop j=[]
 ·have sO:s.length<=j:=by simpa using he
  have sU:((s.length:Int)<=(j:Int))=True:=aL (by omega);have sV:(s.length<=j)=True:=aL sO;simp-implicitDefEqProofs[mo,g1,he];refine bp.of (fun h=>by simp at h) (r:=.x (.one (.bool false))) rfl ?_;simp-implicitDefEqProofs;refine aA.of (sT 4 []) ?_;simp-implicitDefEqProofs
 ·have sO:¬s.length<=j:=by simpa using he
  have sU:((s.length:Int)<=(j:Int))=False:=aV (by omega);have sV:(s.length<=j)=False:=aV sO;simp-implicitDefEqProofs[mo,g1,he];refine bp.of (fun _=>sT 5 _) rfl ?_;simp-implicitDefEqProofs[he];refine aA.of (sT 4 []) ?_;simp-implicitDefEqProofs
def PS(c:UInt8)(s:List UInt8):eY (ey c s)=s.length+1:=by have:=rb c _ (sR c s);rw[yd]at this;omega
def zho(q:List UInt8)(br:q.length<=600000):aD prog 101 [.one (.str q),.one .nil] (.x (.one (.str (63::q)))):=by
 have cU:=Km q 38 br;have v_:=GA 38 q;have bC:=sR 38 q;have PT:=yd 38 q;have hlen:=KM 38 q;obtain⟨parts,v'⟩:∃parts,parts=ey 38 q:=⟨_,rfl⟩
 rw[<-v']at cU v_ bC PT hlen;clear v';have At:0<parts.length:=by cases parts with|nil=>exact absurd rfl bC|cons a r=>simp
 have ac:=strings_Join parts [38] (by rw[sP,PT];omega) (by omega);rw[sP,PT]at ac;refine aD.a6 f101 mixed fun aE=>?_;simp-implicitDefEqProofs;refine aA.of cU ?_;simp-implicitDefEqProofs;refine cI.of Nat (fun i=>[(1,.x (.one .nil)),(6,.own 9 1 (dr (parts.take i))),(14,.x (strs parts)),(15,.x (.one (.int .i64 parts.length))),(16,.x (.one (.int .i64 i)))]) (fun i=>i<=parts.length) (fun i=>parts.length-i) 0 (cd _) ?_ ?_
 ·simp[dr]
 intro i ai;have dA:(dr (parts.take i)).length=i:=by rw[v8,d'];omega
 by_cases aq:i<parts.length
 ·have aO:((i:Int)<(parts.length:Int))=True:=aL (by omega);have fL:i64.wrap ((i:Int)+1)=(i:Int)+1:=bk _ (by omega);have jF:i+1<=maxLen:=by unfold maxLen;omega
  have b3:dr (parts.take (i+1))=dr (parts.take i)++[[af.str parts[i]]]:=by rw[nF aq,Au]
  generalize dr (parts.take i)=rows at dA b3⊢;simp-implicitDefEqProofs[aO,aq];refine aA.of (KN parts[i] 61) ?_;by_cases ae:cu 61 parts[i]=[]
  ·simp-implicitDefEqProofs[ae];refine bp.of (fun h=>by simp at h) (r:=.x (.one (.bool false))) rfl ?_;simp-implicitDefEqProofs[dA,jF,fL];refine⟨by omega,bI.of (i+1) aq (by omega) ?_⟩;simp[b3]
  ·simp-implicitDefEqProofs[ae];refine bp.of (fun _=>sT 7 _) rfl ?_;simp-implicitDefEqProofs[dA,jF,fL];refine⟨by omega,bI.of (i+1) aq (by omega) ?_⟩;simp[b3]
 ·have aO:((i:Int)<(parts.length:Int))=False:=aV (by omega);have fM:dr (parts.take i)=dr parts:=by rw[iv (by omega)]
  rw[fM]at dA⊢;have pH:¬i=0:=by omega
  have sW:((i:Int)=0)=False:=aV (by omega);have KO:((i:Int)==0)=false:=by rw[jz];omega
  have PU:1+q.length<=maxLen:=by unfold maxLen;omega
  have PV:q.length+1<=maxLen:=by unfold maxLen;omega
  simp-implicitDefEqProofs[aO,dA,KO];refine aA.of (sT 6 []) ?_;simp-implicitDefEqProofs;refine aA.of ac ?_;simp-implicitDefEqProofs[PU]
end Go.Proofs.YtaalfcghmjkaeaaGreatDoor
