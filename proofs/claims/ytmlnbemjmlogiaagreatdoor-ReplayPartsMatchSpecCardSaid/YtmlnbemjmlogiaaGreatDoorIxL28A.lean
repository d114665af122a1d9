/- Lemmas. -/
import Derived.Test.YtmlnbemjmlogiaaGreatDoorIxGTe
import Derived.Test.YtmlnbemjmlogiaaGreatDoorCards
import Derived.Test.YtmlnbemjmlogiaaGreatDoorTie
import Derived.LaidMore
import Derived.Lay
import Derived.SevenTiedAt
import Derived.JoinedOf
set_option linter.all false
set_option maxRecDepth 100000
namespace Go.Proofs.YtmlnbemjmlogiaaGreatDoor
open Go Go.Ab Go.ChangeAt Go.ChangeShapes Go.Proofs.Tryz Go.RowKit Go.WideShapes
section
local instance:bn:=Fq prog
local instance:cF prog:=zkC prog
local instance:c1 0:=zkD _ (by kernel_rfl)
def zkE:∀xs,L9 [w1,.s,(.i .i64),(.i .i64)] xs->L8 reachBytes [w1,.s,(.i .i64),(.i .i64)] xs->az prog 3 xs (.x (.one (.bool true))):=by
 intro xs h g
 match xs,h,g with
 |[cM,cH,dl,ox],⟨a1,aa,ab,au,_⟩,⟨g0,g1,g2,g3,_⟩=>obtain⟨a0,rfl,f0⟩:=zkF a1 g0;obtain⟨c_,rfl⟩:=zkG aa;obtain⟨a2,rfl⟩:=Zi ab;obtain⟨a3,rfl⟩:=Zi au;exact zkH a0 c_ a2 a3 f0
def zkI(os:Os)(IW:os.Started)(H:Type)(enc:aP×aI->H) :
  ReturnsInHanded {} checked os 3 .any (fun w args=>(Rows.replayPartsMatchSpecSpec.pre enc prog f3 Rows.replayPartsMatchSpecRow.domain false w args/\laidMetH prog Rows.replayPartsMatchSpecRow.laid w)/\sizedMet enc prog f3 (OpenSpec.ofChange Rows.replayPartsMatchSpecSpec) false w args)
   (Rows.replayPartsMatchSpecSpec.post enc prog f3 false true false false):=by
 refine zkJ (C:=checked) (X:=fun w _=>laidMetH prog Rows.replayPartsMatchSpecRow.laid w) (fun _ _ _ bo h=>h.of_heap bo) own IW (by kernel_rfl) func3
  (ChangeSpec.witness_shaped (enc:=enc) (C:=checked) (os:=os) (X:=fun w _=>laidMetH prog Rows.replayPartsMatchSpecRow.laid w) false (World.laidAll prog os Rows.replayPartsMatchSpecRow.laid) #[.agg #[.slice none 0 0,.slice none 0 0,.slice none 0 0],.string ⟨#[]⟩,.int .i64 0,.int .i64 0] 8 (World.laidAll_os _ _ _)
   (World.shaped_of_ZipB (by kernel_rfl) (by kernel_rfl)) (by kernel_rfl) (by kernel_rfl) (by kernel_rfl)
   (by rw[MakeChecks.laidMetH_plain _ _ _ (by kernel_rfl)];exact laidMet_laidAll _ (by kernel_rfl) (by kernel_rfl))) ?_
 intro W base args dJ gs before gV g9 q1 dt d_ fi;refine ziK (tb:=4) [w1,.s,(.i .i64),(.i .i64)] ?_ zkE laidOut ?_ underlying4 (by kernel_rfl) rfl ?_ ⟨base,gV⟩ g9 (zkK 2 d_ (by kernel_rfl) (by kernel_rfl) fi) ⟨dJ,gs,before,g9,Zj dt⟩
 ·rw[params3];exact⟨zkL,underlying9,underlying3,underlying3,trivial⟩
 ·rw[params3];intro t bv;have kv:([26,9,3,3].all fun t=>prog.readableRec t&&decide (t<prog.types.size))=true:=by kernel_rfl
  have:=hJ.1 kv t (by simpa using bv);simp only[b7,hk]at this;exact this
 ·intro dJ aA
  match dJ,aA with
  |[_,_,_,_],_=>rfl
def zkM:(Rows.replayPartsMatchSpecRow.inPlace==Tryz.pinned.checked.prog.inPlace 3)=true:=by kernel_rfl
def zkN:(Rows.replayPartsMatchSpecRow.unfollowed==Tryz.pinned.checked.prog.unfollowed 3)=true:=by kernel_rfl
def zkO:(Rows.replayPartsMatchSpecRow.recurses==Tryz.pinned.checked.prog.recurses 3)=true:=by kernel_rfl
def zkP:(Rows.replayPartsMatchSpecRow.named==Tryz.pinned.checked.prog.varsNamed 3)=true:=by kernel_rfl
def zkQ:(Rows.replayPartsMatchSpecRow.plainKeys==Tryz.pinned.checked.prog.plainKeys)=true:=by kernel_rfl
def zkR:(Tryz.pinned.checked.prog.stopsHeard)=true:=by kernel_rfl
def zkS:(Tryz.pinned.checked.prog.mayEnter)=true:=by kernel_rfl
def zkT:(Rows.replayPartsMatchSpecRow.lifted==Tryz.pinned.checked.prog.liftsFinal)=true:=by kernel_rfl
def zkU:(Tryz.pinned.checked.prog.make==some Rows.replayPartsMatchSpecRow.make)=true:=by kernel_rfl
def zkV:(mapsRowed Tryz.pinned.checked.prog)=true:=by kernel_rfl
def zkW:(laidOutB Tryz.pinned.checked.prog)=true:=by kernel_rfl
def zkX:joinedFacts Tryz.pinned.checked.prog 3 f3 Rows.replayPartsMatchSpecSpec Rows.replayPartsMatchSpecRow=true:=by
 unfold joinedFacts;simp only[b7]
 repeat' (refine And.intro ?_ ?_)
 all_goals first
  |with_reducible exact zkM
  |with_reducible exact zkN
  |with_reducible exact zkO
  |with_reducible exact zkP
  |with_reducible exact zkQ
  |with_reducible exact zkR
  |with_reducible exact zkS
  |with_reducible exact zkT
  |with_reducible exact zkU
  |with_reducible exact zkV
  |with_reducible exact zkW
  |kernel_rfl
def zkA:Rows.ReplayPartsMatchSpecSaid:=
 OpenClaim.holds_of_wide 3 f3 rfl rfl rfl rfl rfl rfl rfl ⟨rfl,rfl,rfl,rfl,rfl⟩ rfl rfl rfl rfl rfl (by kernel_rfl) func3 zkX
  (vM (by kernel_rfl)) (by unfold Func.isWrapper;first|(rw[av (by decide +kernel)];kernel_rfl)|(rw[an (by decide +kernel)];exact⟨rfl,rfl⟩))
  (fun os IW H enc _=>zkI os IW H enc)
end
end Go.Proofs.YtmlnbemjmlogiaaGreatDoor
