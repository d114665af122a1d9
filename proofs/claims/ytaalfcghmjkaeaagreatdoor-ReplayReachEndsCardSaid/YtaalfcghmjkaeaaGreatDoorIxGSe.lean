/- A part of the proof: lemmas and contracts of functions. -/
import Derived.Test.YtaalfcghmjkaeaaGreatDoorIxGSd
import Derived.Test.YtaalfcghmjkaeaaGreatDoorIxGSb
import Derived.Test.YtaalfcghmjkaeaaGreatDoorAbJ5
import Derived.MakeChecks
import Derived.KernelRfl
import Derived.Test.YtaalfcghmjkaeaaGreatDoorRows
import Derived.Test.YtaalfcghmjkaeaaGreatDoorIxGSc
import Derived.HandedShaped
import Derived.Shelf.Vars
import Derived.Test.YtaalfcghmjkaeaaGreatDoorIxGSa
set_option linter.all false
namespace Go.Proofs.YtaalfcghmjkaeaaGreatDoor
open Go Go.Ab Go.Proofs.Tryz Go.IntKind
variable [bf][ee 0][cK prog][jC prog]
set_option maxRecDepth 100000
set_option maxHeartbeats 8000000
def Ry{α:Type}[DecidableEq α]:∀{l:List α},l.Nodup->∀(i:Nat) (h:i<l.length),l[i]∉l.take i:=by intro l aT i h hm;obtain⟨j,ac,Zw⟩:=Qi.1 hm;rw[d']at ac;rw[List.getElem_take]at Zw;exact(P7.1 aT) j i (by omega) h (by omega) Zw
def znS{α:Type}[DecidableEq α]{l:List α}(aT:l.dropLast.Nodup)(i:Nat)(h:i+1<l.length):l[i]∉l.take i:=by
 have aa:i<l.dropLast.length:=by simp;omega
 have:=Ry aT i aa;rw[List.getElem_dropLast]at this;have e:l.dropLast.take i=l.take i:=by rw[List.dropLast_eq_take,List.take_take,K2 (by omega)]
 rwa[e]at this
def znT{l:List Entry}{k:List UInt8}{t way:Int}{e:Entry}(h:qj l k t way=some e):k2 k=true:=by
 unfold qj at h;split at h;rotate_left
 ·cases h
 rename_i aW;unfold Bb at aW;split at aW
 ·rename_i aa;exact absurd aW aa
 rename_i aa;exact(P_ (te aa)).2
def znU{l:List Entry}{k:List UInt8}{t d:Int}{e:Entry}(h:uV l k t d=some e):k2 k=true:=znT (Zh h).1
def znV{s:ez}{k bu:List UInt8}{t d:Int}(h:oj s k t d=0)(am:k2 bu=true):oj s bu t d=0:=by
 unfold oj at h⊢;split at h
 ·rename_i aa;exact absurd h aa
 rename_i aa;rw[au aa];split at h
 ·cases h
 rw[au (by simp[am])];exact h
def zmc(s:ez)(ap:s.fit)(k:List UInt8)(t d e_:Int):aD prog 4 [.agg s.cs,.one (.str k),.one (.int .i64 t),.one (.int .i64 d),.one (.int .i64 e_)] (.x (.one (.bool true))):=by
 have m9:∀e:Entry,e.row=[.str e.key,.int .i64 e.time,.int .i64 e.status,.str e.type,.str e.hX,.str e.file,.int .i64 e.aK,.int .i64 e.ai,.bool e.same]:=fun _=>rfl;have om:gK.row=[af.str [],af.int i64 0,af.int i64 0,af.str [],af.str [],af.str [],af.int i64 0,af.int i64 0,af.bool false]:=rfl;obtain⟨⟨aU,e,is,F⟩,jG,aE,aF⟩:=znR s ap k t d e_;dsimp only at*;by_cases bc:F=0;rotate_left
 ·obtain⟨rfl,rfl,rfl⟩:=jG bc;have iI:(F==0)=false:=by simpa using bc
  rw[om]at aF;unfold ez.cs at*;refine aD.a6 f4 mixed fun aE=>?_;simp-implicitDefEqProofs;refine aA.of aF ?_;simp-implicitDefEqProofs[bc];refine bp.of (fun _=>Rz) rfl ?_;simp-implicitDefEqProofs
 obtain⟨LU,g1,g2,aj⟩:=aE bc;subst bc;clear jG aE;obtain⟨n,dJ⟩:∃n:Nat,e_=n:=⟨e_.toNat,by omega⟩
 subst dJ;obtain⟨aa,ab,ar,aN⟩:=aj;dsimp only at aa ab ar aN;have ab:aU.length<=n+1:=by simpa using ab
 cases aU with
 |nil=>cases aa
 |cons ps Iv=>
 have aa:ps=k:=by simpa using aa
 subst aa;obtain⟨aU,RA⟩:∃aU,aU=ps::Iv:=⟨_,rfl⟩
 rw[<-RA]at ab ar aN aF;have Ho:0<aU.length:=by rw[RA];simp
 have Ll:aU[0]=ps:=by simp[RA]
 have RB:((aU.length:Int)=0)=False:=aV (by omega);have Zx:((aU.length:Int)==0)=false:=by simpa using RB
 have wn:i64.wrap ((n:Int)+1)=(n:Int)+1:=bk _ (by omega);have hle:((n:Int)+1<(aU.length:Int))=False:=aV (by omega);have wl:i64.wrap ((aU.length:Int)-1)=(aU.length:Int)-1:=bk _ (by omega);have Zy:∀i (h:i<aU.length),(is=true\/i+1<aU.length)->aU[i]∉aU.take i:=by
  intro i h ao;rcases ao with ao|ao
  ·exact Ry (aN ao).1 i h
  ·cases is with
   |true=>exact Ry (aN rfl).1 i h
   |false=>exact znS (ar rfl).2 i ao
 have aP:=fun x=>zmM s ap x t d;unfold ez.cs at*;rw[m9]at aF;cases is
 ·obtain⟨rfl,fP⟩:=ar rfl;refine aD.a6 f4 mixed fun aE=>?_;simp-implicitDefEqProofs;refine aA.of aF ?_;simp-implicitDefEqProofs[Ho,Ll,Zx,wn,hle,gK];refine cI.of Nat (fun i=>[(5,.box [.list 9 (s.entries.map Entry.row),.list 2 (s.files.map gL.row),.list 2 (s.rules.map eS.row)]),(11,.x (strs aU)),(13,.x (.one (.bool false))),(15,.x (.one (.int .i64 i)))]) (fun i=>i<=aU.length) (fun i=>aU.length-i) 0 (cd _) ?_ ?_
  ·simp
  intro i ai;by_cases aq:i<aU.length
  ·have aO:((i:Int)<(aU.length:Int))=True:=aL (by omega);have fL:i64.wrap ((i:Int)+1)=(i:Int)+1:=bk _ (by omega);have oC:((i:Int)<=(aU.length:Int))=True:=aL (by omega);have Bg:(i<=aU.length)=True:=aL ai;have a7:aD prog 8 [.one (.list 1 (List.take i (aU.map fun x=>[af.str x]))),.one (.str aU[i])] (.x (.one (.bool (decide (aU[i]∈aU.take i))))):=by rw[<-yc];exact AN (aU.take i) aU[i]
   by_cases m8:i+1<aU.length
   ·have aT:=Zy i aq (.inr m8);rw[nb aT]at a7;simp-implicitDefEqProofs[aq,aO,oC];refine aA.of a7 ?_;simp-implicitDefEqProofs[wl];refine bI.of (i+1) aq (by omega) (by simp[fL])
   ·have gk:((i:Int)=(aU.length:Int)-1)=True:=aL (by omega);have znW:((i:Int)==(aU.length:Int)-1)=true:=by simpa using gk
    simp-implicitDefEqProofs[aq,aO,oC];refine aA.of a7 ?_;simp-implicitDefEqProofs[wl,gk];refine bI.of (i+1) aq (by omega) (by simp[fL])
  ·have aO:((i:Int)<(aU.length:Int))=False:=aV (by omega);simp-implicitDefEqProofs[aO];refine aA.of Rz ?_;simp-implicitDefEqProofs
 ·obtain⟨fP,w_,hQ,Zz⟩:=aN rfl;have m8:aU[aU.length-1]'(by omega)=w_:=by
   rw[Pl]at hQ;rw[cn (by omega)]at hQ;exact qX hQ
  obtain⟨p,kv⟩:∃p,p+1=aU.length:=⟨aU.length-1,by omega⟩
  have ak:p<aU.length:=by omega
  have m8:aU[p]=w_:=by rw[<-m8];congr 1;omega
  have ZA:i64.wrap ((aU.length:Int)-1)=(p:Int):=by rw[wl];omega
  have b1:=aP w_;have ZB:=znV LU (znU Zz);unfold LL at b1;rw[aC ZB,ZB,Zz,rW,m9]at b1;refine aD.a6 f4 mixed fun aE=>?_;simp-implicitDefEqProofs;refine aA.of aF ?_;simp-implicitDefEqProofs[Ho,Ll,Zx,wn,hle];refine cI.of Nat (fun i=>[(2,.x (.one (.int .i64 t))),(3,.x (.one (.int .i64 d))),(5,.box [.list 9 (s.entries.map Entry.row),.list 2 (s.files.map gL.row),.list 2 (s.rules.map eS.row)]),(11,.x (strs aU)),(12,.box e.row),(13,.x (.one (.bool true))),(15,.x (.one (.int .i64 i)))]) (fun i=>i<=aU.length) (fun i=>aU.length-i) 0 (cd _) ?_ ?_
  ·simp[m9]
  intro i ai;rw[m9];by_cases aq:i<aU.length
  ·have aO:((i:Int)<(aU.length:Int))=True:=aL (by omega);have fL:i64.wrap ((i:Int)+1)=(i:Int)+1:=bk _ (by omega);have oC:((i:Int)<=(aU.length:Int))=True:=aL (by omega);have Bg:(i<=aU.length)=True:=aL ai;have a7:aD prog 8 [.one (.list 1 (List.take i (aU.map fun x=>[af.str x]))),.one (.str aU[i])] (.x (.one (.bool (decide (aU[i]∈aU.take i))))):=by rw[<-yc];exact AN (aU.take i) aU[i]
   have aT:=Zy i aq (.inl rfl);rw[nb aT]at a7;simp-implicitDefEqProofs[aq,aO,oC];refine aA.of a7 ?_;simp-implicitDefEqProofs;refine bI.of (i+1) aq (by omega) (by simp[fL])
  ·have aO:((i:Int)<(aU.length:Int))=False:=aV (by omega);have qF:((p:Int)<(aU.length:Int))=True:=aL (by omega);simp-implicitDefEqProofs[aO];refine hc.l ⟨by kernel_rfl,?_⟩;simp-implicitDefEqProofs[ZA,ak,qF,m8];refine aA.of b1 ?_;simp-implicitDefEqProofs;refine bp.of (fun _=>Rz) rfl ?_;simp-implicitDefEqProofs
end Go.Proofs.YtaalfcghmjkaeaaGreatDoor
namespace Go.Proofs.YtaalfcghmjkaeaaGreatDoor
open Go Go.Ab Go.Proofs.Tryz Go.IntKind
variable [bf]
set_option maxRecDepth 100000
def own:ownKnob prog.godebug=none:=by kernel_rfl
def laidOut:laidOutB prog=true:=by kernel_rfl
def HE:cR:=.st [.s,.i .i64,.i .i64,.s,.s,.s,.st [.i .i64,.i .i64],.b]
def Lw:cR:=.vQ 9 HE
def zlK:cR.has prog (.st [.i .i64,.i .i64]) 36:=
 ⟨_,underlying36,by kernel_rfl,rfl,by kernel_rfl,underlying3,rfl,by kernel_rfl,underlying3,trivial⟩
def zlL:HE.has prog 38:=
 ⟨_,underlying38,by kernel_rfl,rfl,by kernel_rfl,underlying9,rfl,by kernel_rfl,underlying3,rfl,by kernel_rfl,underlying3,rfl,by kernel_rfl,underlying9,rfl,by kernel_rfl,underlying9,rfl,by kernel_rfl,underlying9,
  rfl,by kernel_rfl,zlK,rfl,by kernel_rfl,underlying4,trivial⟩
def zlM:Lw.has prog 22:=⟨38,underlying22,by kernel_rfl,rfl,by decide,zlL⟩
def zlN{cs:List af}(h:HE.fits cs):∃e:Entry,cs=e.row:=by
 simp only[HE,cR.fits,cR.fits.C0]at h;obtain⟨_,_,rfl,⟨ch,rfl,_⟩,_,_,rfl,⟨av,rfl,_⟩,_,_,rfl,⟨aI,rfl,_⟩,_,_,rfl,⟨b5,rfl,_⟩,_,_,rfl,⟨eH,rfl,_⟩,_,_,rfl,⟨dd,rfl,_⟩,
  _,_,rfl,⟨_,_,rfl,⟨iN,rfl,_⟩,_,_,rfl,⟨dL,rfl,_⟩,rfl⟩,_,_,rfl,⟨zlO,rfl⟩,rfl⟩:=h
 exact⟨⟨ch,av,aI,b5,eH,dd,iN,dL,zlO⟩,rfl⟩
def zlP{xs:List (List af)}(h:∀x∈xs,HE.fits x):∃l:List Entry,xs=l.map Entry.row:=by
 induction xs with
 |nil=>exact⟨[],rfl⟩
 |cons x r aX=>obtain⟨l,rfl⟩:=aX (fun y aS=>h y (by simp[aS]));obtain⟨f,rfl⟩:=zlN (h x (by simp));exact⟨f::l,rfl⟩
def ziu{x:az}(h:cR.Gd .s x):∃l,x=.one (.str l):=by
 cases x with
 |agg cs=>exact h.elim
 |one c=>obtain⟨l,aj,_⟩:=h;injection aj with aj;exact⟨l,by rw[aj]⟩
def Qb{x:az}(h:cR.Gd (.i .i64) x):∃n,x=.one (.int .i64 n):=by
 cases x with
 |agg cs=>exact h.elim
 |one c=>obtain⟨l,aj,_⟩:=h;injection aj with aj;exact⟨l,by rw[aj]⟩
end Go.Proofs.YtaalfcghmjkaeaaGreatDoor
namespace Go.Proofs.YtaalfcghmjkaeaaGreatDoor
open Go Go.Ab Go.Proofs.Tryz Go.IntKind
variable [bf][ee 0][cK prog]
set_option maxRecDepth 100000
set_option maxHeartbeats 8000000
end Go.Proofs.YtaalfcghmjkaeaaGreatDoor
namespace Go.Proofs.YtaalfcghmjkaeaaGreatDoor
open Go Go.Ab Go.Proofs.Tryz Go.IntKind
set_option maxRecDepth 100000
section
variable [bf]
def Re:cR:=.vQ 1 (.i .u8)
def zlQ:Re.has prog 54:=⟨5,underlying54,by kernel_rfl,rfl,by decide,underlying5⟩
def YZ{α:Type}{row:α->List af}{p:List af->Prop}(ak:∀cs,p cs->∃e,cs=row e){xs:List (List af)}(h:∀x∈xs,p x):∃l:List α,xs=l.map row:=by
 induction xs with
 |nil=>exact⟨[],rfl⟩
 |cons x r aX=>obtain⟨l,rfl⟩:=aX (fun y aS=>h y (by simp[aS]));obtain⟨f,rfl⟩:=ak x (h x (by simp));exact⟨f::l,rfl⟩
def zlR{cs:List af}(h:Re.fits cs):∃l:List UInt8,cs=[dj l]:=by
 obtain⟨xs,rfl,aj⟩:=h;obtain⟨l,rfl⟩:=YZ (row:=g_) (p:=cR.fits (.i .u8)) (fun cs ao=>by
  obtain⟨n,rfl,aT⟩:=ao;have ae:0<=n/\n<256:=by
   simp only[Lit.wf,hF,b4]at aT;have aa:u8.min=0:=by decide
   have ab:u8.max=255:=by decide
   simp only[aa,ab]at aT;omega
  refine⟨UInt8.ofNat n.toNat,?_⟩;simp only[g_,List.cons.injEq,and_true,af.int.injEq,kZ];have:(UInt8.ofNat n.toNat).toNat=n.toNat:=by simp only[UInt8.toNat_ofNat'];omega
  rw[this];omega) aj
 exact⟨l,rfl⟩
end
def Rf(cs:Array Value):Prop:=∃m,cs[0]?=some (.int .i64 m)
@[reducible]def zJB(P:Program):bf:=bf.Kc P [("internal/strconv.uint64pow10",(·=Ke)),("internal/bytealg.MaxLen",Rf)]
def Y0{P:Program}{w:World}{n:String}{g:Nat}(aB:P.globalNamed n=some g){m:Int}:(∃cs,w.var? P n=some cs/\cs[0]?=some (.int .i64 m))↔w.cell? ⟨g,0,none⟩=some (.int .i64 m):=by
 unfold World.var? World.cell?;rw[aB];simp only[Option.bind_some];constructor
 ·rintro⟨cs,h,aW⟩;split at h
  ·rename_i a1;cases h;rw[a1];simpa using aW
  ·cases h
 ·intro h;cases a1:w.heap[g]? with
  |none=>rw[a1]at h;cases h
  |some o=>
   rw[a1]at h;cases o with
   |cells cs t f=>exact⟨cs,rfl,by simpa using h⟩
   |_=>simp at h
def zix{H:Type}{enc:TypeId×Value->H}{a:Assume}{C:Checked}{os:Os}{f:FuncId}{fn:Func}{s:ChangeSpec}{conds:List PathCond}{apart fresh handsOn again:Bool}{X:World->Array Value->Prop}
  (hR:∀(w w':World) (args:Array Value),w.heap=w'.heap->X w args->X w' args)
  (own:ownKnob C.prog.godebug=none)(started:os.Started)(zlS:C.prog.inits.idxOf? f=none)(hL:C.prog.funcs[f]?=some fn)
  (witness:∃(w:World) (tape:Tape) (i:Input),w.os=os/\(w.forCall tape i).Shaped C.prog/\i.vars=[]/\Input.okWide C.prog (w.forCall tape i) .any w.heap.size f i /\
   ((s.pre enc C.prog fn conds apart (w.forCall tape i).memory i.args/\X (w.forCall tape i).memory i.args)/\sizedMet enc C.prog fn (OpenSpec.ofChange s) apart (w.forCall tape i).memory i.args)/\a.holds C.prog (lone (Frame.enter C.prog f i.args .normal) [] (w.forCall tape i)))
  (zlT:∀(W:World) (base:Nat) (args:Array Value) (c_ gs:List (DataW H)) (before:List MemPlace),
   (∀(j:Nat) t v,fn.params[j]?=some t->args[j]?=some v->Value.okWide C.prog W .any base t v) ->
   DataW.Whole enc C.prog fn.params.toList s.vars apart W args.toList c_ gs before ->
   conds.all (PathCond.test C.prog ⟨fn.params.toList,c_,s.plain.varTypes C.prog,gs⟩)=true ->
   (DataW.weightsEach C.prog (fn.params.toList++s.plain.varTypes C.prog) (c_++gs)).all (·<=reachBytes)=true->X W args->W.ShapedOpen C.prog ->
   Calls C.prog f args W fun e nX=>∃v,e=.returned v/\s.post enc C.prog fn apart fresh handsOn again W args v nX) :
  ReturnsInHanded a C os f .any (fun w args=>(s.pre enc C.prog fn conds apart w args/\X w args)/\sizedMet enc C.prog fn (OpenSpec.ofChange s) apart w args) (s.post enc C.prog fn apart fresh handsOn again):=by
 refine returnsInHanded_of_calls own started zlS witness ?_;intro w tape i _ i7 _ aE un _;obtain⟨_,_,_,zlU,zlV,_,_,_,_,fV⟩:=aE;obtain rfl:zlU=fn:=qX (zlV.symm.trans hL);obtain⟨⟨⟨c_,gs,before,hw,ao⟩,aj⟩,aY⟩:=un;have Qo:=DataW.Whole.of_heap (w':=w.forCall tape i) (by rfl) hw;refine(zlT (w.forCall tape i) w.heap.size i.args c_ gs before fV Qo ao (aY.weights hw) (hR _ _ _ (by rfl) aj) i7).mono fun e nX ⟨v,he,ak⟩=>?_;subst he;exact ChangeSpec.post_blind ak
end Go.Proofs.YtaalfcghmjkaeaaGreatDoor
namespace Go.Proofs.YtaalfcghmjkaeaaGreatDoor
open Go Go.Ab Go.Proofs.Tryz Go.IntKind
variable [bf]
set_option maxRecDepth 100000
def Xa{H:Type}{P:Program}{p:Nat->Bool}:∀{ts us:List TypeId} {c_ gs:List (DataW H)},(DataW.weightsEach P (ts++us) (c_++gs)).all p=true->(DataW.weightsEach P ts c_).all p=true
 |[],_,_,_,_=>by rw[DataW.weightsEach];rfl;intros;simp_all
 |_::_,_,[],_,_=>by rw[DataW.weightsEach];rfl;intros;simp_all
 |t::ts,us,d::c_,gs,h=>by rw[gO,gO,DataW.weightsEach,tL,b4]at h;rw[DataW.weightsEach,tL,b4];exact⟨h.1,Xa h.2⟩
end Go.Proofs.YtaalfcghmjkaeaaGreatDoor
namespace Go.Proofs.YtaalfcghmjkaeaaGreatDoor
open Go Go.Ab Go.Proofs.Tryz Go.IntKind
set_option maxRecDepth 100000
section
variable [bf]
def Lx:cR:=.st [.s,Re]
def Ly:cR:=.st [.i .i64,.s]
def uC:cR:=.st [Lw,.vQ 2 Lx,.vQ 2 Ly]
def zlW:Lx.has prog 93:=⟨_,underlying93,by kernel_rfl,rfl,by kernel_rfl,underlying9,rfl,by kernel_rfl,zlQ,trivial⟩
def zlX:Ly.has prog 138:=⟨_,underlying138,by kernel_rfl,rfl,by kernel_rfl,underlying3,rfl,by kernel_rfl,underlying9,trivial⟩
def ziz:uC.has prog 26:=
 ⟨_,underlying26,by kernel_rfl,rfl,by kernel_rfl,zlM,rfl,by kernel_rfl,⟨93,underlying23,by kernel_rfl,rfl,by decide,zlW⟩,rfl,by kernel_rfl,⟨138,underlying24,by kernel_rfl,rfl,by decide,zlX⟩,trivial⟩
def zlY{cs:List af}(h:Lx.fits cs):∃e:gL,cs=e.row:=by simp only[Lx,cR.fits,cR.fits.C0]at h;obtain⟨_,_,rfl,⟨ch,rfl,_⟩,_,_,rfl,aa,rfl⟩:=h;obtain⟨av,rfl⟩:=zlR aa;exact⟨⟨ch,av⟩,rfl⟩
def zlZ{cs:List af}(h:Ly.pV reachBytes cs):∃e:eS,cs=e.row/\e.fit:=by simp only[Ly,cR.pV,cR.pV.F']at h;obtain⟨_,_,rfl,⟨ch,rfl,_⟩,_,_,rfl,⟨av,rfl,_,ec⟩,rfl⟩:=h;unfold reachBytes at ec;exact⟨⟨ch,av⟩,rfl,by unfold eS.fit;simp only;omega⟩
def zma{α:Type}{row:α->List af}{p:List af->Prop}{q:α->Prop}(ak:∀cs,p cs->∃e,cs=row e/\q e){xs:List (List af)}(h:∀x∈xs,p x):∃l:List α,xs=l.map row/\∀e∈l,q e:=by
 induction xs with
 |nil=>exact⟨[],rfl,fun e he=>by cases he⟩
 |cons x r aX=>
  obtain⟨l,rfl,al⟩:=aX (fun y aS=>h y (by simp[aS]));obtain⟨f,rfl,ay⟩:=ak x (h x (by simp));exact⟨f::l,rfl,fun e he=>by
   rcases eT.1 he with rfl|he
   ·exact ay
   ·exact al e he⟩
def zit{x:az}(h:uC.Gd x)(g:uC.O_ reachBytes x):∃s:ez,x=.agg s.cs/\s.fit:=by
 cases x with
 |one c=>exact h.elim
 |agg cs=>have bE:uC.fits cs:=h;have bQ:uC.pV reachBytes cs:=g;simp only[uC,Lw,cR.fits,cR.fits.C0]at bE;simp only[uC,Lw,cR.pV,cR.pV.F']at bQ;obtain⟨_,_,rfl,⟨xs,rfl,aj⟩,_,_,rfl,⟨aQ,rfl,aS⟩,_,_,rfl,⟨cC,rfl,_⟩,rfl⟩:=bE;obtain⟨de,ef,av,⟨dS,rfl,_⟩,a2,dv,rfl,⟨nB,rfl,_⟩,a3,jy,rfl,⟨zJC,rfl,zmb⟩,rfl⟩:=bQ;simp only[gO,nt,List.cons.injEq,af.list.injEq,kZ,and_true]at av;obtain⟨_,_,rfl⟩:=av;obtain⟨E,rfl⟩:=zlP aj;obtain⟨F,rfl⟩:=YZ (row:=gL.row) (fun cs ao=>zlY ao) aS;obtain⟨R,rfl,ah⟩:=zma (row:=eS.row) (fun cs ao=>zlZ ao) zmb;exact⟨⟨E,F,R⟩,rfl,ah⟩
variable [ee 0][cK prog]
end
end Go.Proofs.YtaalfcghmjkaeaaGreatDoor
namespace Go.Proofs.YtaalfcghmjkaeaaGreatDoor
open Go Go.Ab Go.Proofs.Tryz Go.IntKind
set_option maxRecDepth 100000
@[reducible]def ym(P:Program):bf:=bf.Kc P [("internal/strconv.uint64pow10",(·=Ke)),("internal/bytealg.MaxLen",Rf),("strconv.ErrSyntax",Gi)]
theorem zio(P:Program):@cK (ym P) P:=@cK.mk (ym P) P (fun w h=>by obtain⟨cs,ao,rfl⟩:=h _ kl;exact ao)
theorem ziq{P:Program}(g:Nat) (aB:P.globalNamed "internal/bytealg.MaxLen" =some g):@ee (ym P) g:=@ee.mk (ym P) g (fun w h=>by obtain⟨cs,ao,m,hm⟩:=h ("internal/bytealg.MaxLen",Rf) (by simp);exact⟨m,(Y0 aB).1 ⟨cs,ao,hm⟩⟩)
theorem zir(P:Program):@jC (ym P) P:=@jC.mk (ym P) P (fun w h=>h ("strconv.ErrSyntax",Gi) (by simp))
def ziy{W:World}{l:List (String×DataW Unit)}(j i:Nat){n:String}{d:DataW Unit}(h:laidMetH prog l W)(ak:(l.all fun x=>x.2.handleName?.isNone)=true) (ac:l[j]?=some ("internal/strconv.uint64pow10",Lib.tabData .u64 Lib.pow10Tab)) (ai:l[i]?=some ("strconv.ErrSyntax",.iface n d)) (dq:W.ShapedOpen prog):(ym prog).holds W:=by
 rw[MakeChecks.laidMetH_plain _ _ _ ak]at h;have aa:=VM (g:=5) (t:=362) (e:=127) (n:=20) (by kernel_rfl) (by kernel_rfl) underlying362 underlying127 (by kernel_rfl) (by kernel_rfl) j h ac;have ab:=VN (g:=3) (t:=171) (by kernel_rfl) (by kernel_rfl) underlying171 i h ai;obtain⟨m,hm⟩:=cell_of_shapedOpen_int (P:=prog) (g:=0) (t:=3) (zero:=#[.int .i64 0]) (k:=.i64) dq (wV (by kernel_rfl)) (by kernel_rfl) rfl (by kernel_rfl) (by kernel_rfl) underlying3;intro x aj;simp only[eT,List.not_mem_nil,or_false]at aj;rcases aj with rfl|rfl|rfl
 ·exact⟨_,aa,rfl⟩
 ·obtain⟨cs,ao,aW⟩:=(Y0 (P:=prog) (n:= "internal/bytealg.MaxLen") (g:=0) (by kernel_rfl)).2 hm;exact⟨cs,ao,m,aW⟩
 ·exact ab
section
variable [bf][ee 0][cK prog][jC prog]
def ziv(s:ez)(k:List UInt8)(t d e_:Int)(ap:s.fit):aD prog 4 [.agg s.cs,.one (.str k),.one (.int .i64 t),.one (.int .i64 d),.one (.int .i64 e_)] (.x (.one (.bool true))):=zmc s ap k t d e_
end
end Go.Proofs.YtaalfcghmjkaeaaGreatDoor
