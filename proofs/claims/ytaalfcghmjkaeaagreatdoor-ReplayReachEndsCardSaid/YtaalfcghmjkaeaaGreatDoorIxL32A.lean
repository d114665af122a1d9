/- A part of the proof: lemmas and contracts of functions. -/
import Derived.Test.YtaalfcghmjkaeaaGreatDoorIxGSe
import Derived.Test.YtaalfcghmjkaeaaGreatDoorCards
import Derived.Test.YtaalfcghmjkaeaaGreatDoorTie
import Derived.LaidMore
import Derived.Lay
import Derived.SevenTiedAt
import Derived.JoinedOf
set_option linter.all false
namespace Go.Proofs.YtaalfcghmjkaeaaGreatDoor
open Go Go.Ab Go.ChangeShapes Go.WideShapes Go.ChangeAt Go.RowKit Go.Proofs.Tryz
set_option maxRecDepth 100000
local instance:bf:=ym prog
local instance:cK prog:=zio prog
local instance:ee 0:=ziq _ (by kernel_rfl)
local instance:jC prog:=zir prog
def zis:∀xs,J_ [uC,.s,(.i .i64),(.i .i64),(.i .i64)] xs->J9 reachBytes [uC,.s,(.i .i64),(.i .i64),(.i .i64)] xs->aD prog 4 xs (.x (.one (.bool true))):=by
 intro xs h g
 match xs,h,g with
 |[ck,cA,db,lD,lE],⟨aW,aa,ab,ar,aN,_⟩,⟨g0,g1,g2,g3,g4,_⟩=>obtain⟨a0,rfl,f0⟩:=zit aW g0;obtain⟨de,rfl⟩:=ziu aa;obtain⟨a2,rfl⟩:=Qb ab;obtain⟨a3,rfl⟩:=Qb ar;obtain⟨a4,rfl⟩:=Qb aN;exact ziv a0 de a2 a3 a4 f0
def ziw(os:Os)(started:os.Started)(H:Type)(enc:TypeId×Value->H) :
  ReturnsInHanded {} checked os 4 .any (fun w args=>(Rows.replayReachEndsSpec.pre enc prog f4 Rows.replayReachEndsRow.domain false w args/\laidMetH prog Rows.replayReachEndsRow.laid w)/\sizedMet enc prog f4 (OpenSpec.ofChange Rows.replayReachEndsSpec) false w args)
   (Rows.replayReachEndsSpec.post enc prog f4 false true false false):=by
 refine zix (C:=checked) (X:=fun w _=>laidMetH prog Rows.replayReachEndsRow.laid w) (fun _ _ _ a1 h=>h.of_heap a1) own started (by kernel_rfl) func4
  (ChangeSpec.witness_shaped (enc:=enc) (C:=checked) (os:=os) (X:=fun w _=>laidMetH prog Rows.replayReachEndsRow.laid w) false (World.laidAll prog os Rows.replayReachEndsRow.laid) #[.agg #[.slice none 0 0,.slice none 0 0,.slice none 0 0],.string ⟨#[]⟩,.int .i64 0,.int .i64 0,.int .i64 0] 8 (World.laidAll_os _ _ _)
   (World.shaped_of_ZipB (by kernel_rfl) (by kernel_rfl)) (by kernel_rfl) (by kernel_rfl) (by kernel_rfl)
   (by rw[MakeChecks.laidMetH_plain _ _ _ (by kernel_rfl)];exact laidMet_laidAll _ (by kernel_rfl) (by kernel_rfl))) ?_
 intro W base args c_ gs before fV dq q1 hO j3 Kh;refine zfv (tb:=4) [uC,.s,(.i .i64),(.i .i64),(.i .i64)] ?_ zis laidOut ?_ underlying4 (by kernel_rfl) rfl ?_ ⟨base,fV⟩ dq (ziy 2 5 j3 (by kernel_rfl) (by kernel_rfl) rfl Kh) ⟨c_,gs,before,dq,Xa hO⟩
 ·rw[params4];exact⟨ziz,underlying9,underlying3,underlying3,underlying3,trivial⟩
 ·rw[params4];intro t ba;have fM:([26,9,3,3,3].all fun t=>prog.readableRec t&&decide (t<prog.types.size))=true:=by kernel_rfl
  have:=fm.1 fM t (by simpa using ba);simp only[b4,hF]at this;exact this
 ·intro c_ ax
  match c_,ax with
  |[_,_,_,_,_],_=>rfl
def ziA:(Rows.replayReachEndsRow.inPlace==Tryz.pinned.checked.prog.inPlace 4)=true:=by kernel_rfl
def ziB:(Rows.replayReachEndsRow.unfollowed==Tryz.pinned.checked.prog.unfollowed 4)=true:=by kernel_rfl
def ziC:(Rows.replayReachEndsRow.recurses==Tryz.pinned.checked.prog.recurses 4)=true:=by kernel_rfl
def ziD:(Rows.replayReachEndsRow.named==Tryz.pinned.checked.prog.varsNamed 4)=true:=by kernel_rfl
def ziE:(Rows.replayReachEndsRow.plainKeys==Tryz.pinned.checked.prog.plainKeys)=true:=by kernel_rfl
def ziF:(Tryz.pinned.checked.prog.stopsHeard)=true:=by kernel_rfl
def ziG:(Tryz.pinned.checked.prog.mayEnter)=true:=by kernel_rfl
def ziH:(Rows.replayReachEndsRow.lifted==Tryz.pinned.checked.prog.liftsFinal)=true:=by kernel_rfl
def ziI:(Tryz.pinned.checked.prog.make==some Rows.replayReachEndsRow.make)=true:=by kernel_rfl
def ziJ:(mapsRowed Tryz.pinned.checked.prog)=true:=by kernel_rfl
def ziK:(laidOutB Tryz.pinned.checked.prog)=true:=by kernel_rfl
def ziL:joinedFacts Tryz.pinned.checked.prog 4 f4 Rows.replayReachEndsSpec Rows.replayReachEndsRow=true:=by
 unfold joinedFacts;simp only[b4]
 repeat' (refine And.intro ?_ ?_)
 all_goals first
  |with_reducible exact ziA
  |with_reducible exact ziB
  |with_reducible exact ziC
  |with_reducible exact ziD
  |with_reducible exact ziE
  |with_reducible exact ziF
  |with_reducible exact ziG
  |with_reducible exact ziH
  |with_reducible exact ziI
  |with_reducible exact ziJ
  |with_reducible exact ziK
  |kernel_rfl
def zim:Rows.ReplayReachEndsSaid:=
 OpenClaim.holds_of_wide 4 f4 rfl rfl rfl rfl rfl rfl rfl ⟨rfl,rfl,rfl,rfl,rfl⟩ rfl rfl rfl rfl rfl (by kernel_rfl) func4 ziL
  (wV (by kernel_rfl)) (by unfold Func.isWrapper;first|(rw[aC (by decide +kernel)];kernel_rfl)|(rw[au (by decide +kernel)];exact⟨rfl,rfl⟩))
  (fun os started H enc _=>ziw os started H enc)
end Go.Proofs.YtaalfcghmjkaeaaGreatDoor
