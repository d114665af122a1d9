/- A part of the proof: lemmas and contracts of functions. -/
import Derived.Test.YtlcmnclbljedfaaGreatDoorIxGRd
import Derived.Test.YtlcmnclbljedfaaGreatDoorCards
import Derived.Test.YtlcmnclbljedfaaGreatDoorTie
import Derived.LaidMore
import Derived.Lay
import Derived.SevenTiedAt
import Derived.JoinedOf
set_option linter.all false
namespace Go.Proofs.YtlcmnclbljedfaaGreatDoor
open Go Go.Ab Go.ChangeShapes Go.WideShapes Go.ChangeAt Go.RowKit
set_option maxRecDepth 100000
local instance:Amb:=zNH Tryz.prog
local instance:zal Tryz.prog:=zBR Tryz.prog
local instance:zaY 0:=zz0 _ (by kernel_rfl)
theorem zgc:∀xs,zsR [zzq,.s,(.i .i64),(.i .i64)] xs→zoA reachBytes [zzq,.s,(.i .i64),(.i .i64)] xs→zab Tryz.prog 3 xs (.x (.one (.bool true))):=by
 intro xs h g
 match xs,h,g with
 |[x0,x1,x2,x3],⟨h0,h1,h2,h3,_⟩,⟨g0,g1,g2,g3,_⟩ =>
  obtain⟨a0,rfl,f0⟩:=zIY h0 g0
  obtain⟨a1,rfl⟩:=zGF h1
  obtain⟨a2,rfl⟩:=zxk h2
  obtain⟨a3,rfl⟩:=zxk h3
  exact zvS a0 a1 a2 a3 f0
theorem zfO(os:Os)(started:os.Started)(H:Type)(enc:TypeId×Value→H) :
  ReturnsInHanded {} Tryz.checked os 3 .any (fun w args=>(Rows.replayPartsDriftSpec.pre enc Tryz.prog Tryz.f3 Rows.replayPartsDriftRow.domain false w args∧laidMetH Tryz.prog Rows.replayPartsDriftRow.laid w)∧sizedMet enc Tryz.prog Tryz.f3 (OpenSpec.ofChange Rows.replayPartsDriftSpec) false w args)
   (Rows.replayPartsDriftSpec.post enc Tryz.prog Tryz.f3 false true false false):=by
 refine zjA (C:=Tryz.checked) (X:=fun w _=>laidMetH Tryz.prog Rows.replayPartsDriftRow.laid w) (fun _ _ _ hh h=>h.of_heap hh) own started (by kernel_rfl) Tryz.func3
  (ChangeSpec.witness_shaped (enc:=enc) (C:=Tryz.checked) (os:=os) (X:=fun w _=>laidMetH Tryz.prog Rows.replayPartsDriftRow.laid w) false (World.laidAll Tryz.prog os Rows.replayPartsDriftRow.laid) #[.agg #[.slice none 0 0,.slice none 0 0,.slice none 0 0],.string ⟨#[]⟩,.int .i64 0,.int .i64 0] 8 (World.laidAll_os _ _ _)
   (World.shaped_of_ZipB (by kernel_rfl) (by kernel_rfl)) (by kernel_rfl) (by kernel_rfl) (by kernel_rfl)
   (by rw[MakeChecks.laidMetH_plain _ _ _ (by kernel_rfl)];exact laidMet_laidAll _ (by kernel_rfl) (by kernel_rfl))) ?_
 intro W base args ds gs before hval hW q1 q2 q3 q4
 refine zpc (tb:=4) [zzq,.s,(.i .i64),(.i .i64)] ?_ zgc laidOut ?_ Tryz.underlying4 (by kernel_rfl) rfl ?_ ⟨base,hval⟩ hW (zxh 2 q3 (by kernel_rfl) (by kernel_rfl) q4) ⟨ds,gs,before,hW,ziS q2⟩
 ·rw[Tryz.params3]
  exact⟨zO4,Tryz.underlying9,Tryz.underlying3,Tryz.underlying3,trivial⟩
 ·rw[Tryz.params3]
  intro t ht
  have hall:([26,9,3,3].all fun t=>Tryz.prog.readableRec t&&decide (t<Tryz.prog.types.size))=true:=by kernel_rfl
  have:=List.all_eq_true.1 hall t (by simpa using ht)
  simp only[Bool.and_eq_true,decide_eq_true_eq] at this
  exact this
 ·intro ds hd
  match ds,hd with
  |[_,_,_,_],_=>rfl
theorem zh6:(Rows.replayPartsDriftRow.inPlace==Tryz.pinned.checked.prog.inPlace 3)=true:=by kernel_rfl
theorem zhV:(Rows.replayPartsDriftRow.unfollowed==Tryz.pinned.checked.prog.unfollowed 3)=true:=by kernel_rfl
theorem zhK:(Rows.replayPartsDriftRow.recurses==Tryz.pinned.checked.prog.recurses 3)=true:=by kernel_rfl
theorem zhI:(Rows.replayPartsDriftRow.named==Tryz.pinned.checked.prog.varsNamed 3)=true:=by kernel_rfl
theorem zic:(Rows.replayPartsDriftRow.plainKeys==Tryz.pinned.checked.prog.plainKeys)=true:=by kernel_rfl
theorem zhY:(Tryz.pinned.checked.prog.stopsHeard)=true:=by kernel_rfl
theorem zhN:(Tryz.pinned.checked.prog.mayEnter)=true:=by kernel_rfl
theorem zii:(Rows.replayPartsDriftRow.lifted==Tryz.pinned.checked.prog.liftsFinal)=true:=by kernel_rfl
theorem zhP:(Tryz.pinned.checked.prog.make==some Rows.replayPartsDriftRow.make)=true:=by kernel_rfl
theorem zhk:(mapsRowed Tryz.pinned.checked.prog)=true:=by kernel_rfl
theorem zhj:(laidOutB Tryz.pinned.checked.prog)=true:=by kernel_rfl
theorem zfG:joinedFacts Tryz.pinned.checked.prog 3 Tryz.f3 Rows.replayPartsDriftSpec Rows.replayPartsDriftRow=true:=by
 unfold joinedFacts
 simp only[Bool.and_eq_true]
 repeat' (refine And.intro ?_ ?_)
 all_goals first
  |with_reducible exact zh6
  |with_reducible exact zhV
  |with_reducible exact zhK
  |with_reducible exact zhI
  |with_reducible exact zic
  |with_reducible exact zhY
  |with_reducible exact zhN
  |with_reducible exact zii
  |with_reducible exact zhP
  |with_reducible exact zhk
  |with_reducible exact zhj
  |kernel_rfl
theorem zgr:Rows.ReplayPartsDriftSaid:=
 OpenClaim.holds_of_wide 3 Tryz.f3 rfl rfl rfl rfl rfl rfl rfl ⟨rfl,rfl,rfl,rfl,rfl⟩ rfl rfl rfl rfl rfl (by kernel_rfl) Tryz.func3 zfG
  (of_decide_eq_true (by kernel_rfl)) (by unfold Func.isWrapper;first | (rw[if_pos (by decide +kernel)];kernel_rfl) | (rw[if_neg (by decide +kernel)];exact⟨rfl,rfl⟩))
  (fun os started H enc _=>zfO os started H enc)
end Go.Proofs.YtlcmnclbljedfaaGreatDoor
