/- A part of the proof: lemmas and contracts of functions. -/
import Derived.Test.YtlcmnclbljedfaaGreatDoorIxGRd
import Derived.Test.YtlcmnclbljedfaaGreatDoorCards
import Derived.Test.YtlcmnclbljedfaaGreatDoorTie
import Derived.LaidMore
import Derived.Lay
import Derived.SevenTiedAt
import Derived.JoinedOf
set_option linter.all false
namespace Go.Proofs.YtlcmnclbljedfaaGreatDoor
open Go Go.Ab Go.ChangeShapes Go.WideShapes Go.ChangeAt Go.RowKit
set_option maxRecDepth 100000
local instance:Amb:=ambI Tryz.prog
local instance:HasPow10 Tryz.prog:=ambI_pow Tryz.prog
local instance:HasInt 0:=ambI_int _ (by kernel_rfl)
theorem indexOfFilesPoint_plain:∀xs,fitsXs [.s,recsK] xs→ACalls Tryz.prog 6 xs (.x (.one (.bool true))):=by
 intro xs h
 match xs,h with
 | [x0,x1],⟨h0,h1,_⟩ =>
  obtain ⟨a0,rfl⟩:=strFits h0
  obtain ⟨a1,rfl⟩:=recsFits h1
  exact lawPoint a0 a1
theorem indexOfFilesPoint_lifted (os:Os) (started:os.Started) (H:Type) (enc:TypeId×Value→H) :
  ReturnsInHanded {} Tryz.checked os 6 .any (fun w args=>(Rows.indexOfFilesPointSpec.pre enc Tryz.prog Tryz.f6 Rows.indexOfFilesPointRow.domain false w args∧laidMetH Tryz.prog Rows.indexOfFilesPointRow.laid w)∧sizedMet enc Tryz.prog Tryz.f6 (OpenSpec.ofChange Rows.indexOfFilesPointSpec) false w args)
   (Rows.indexOfFilesPointSpec.post enc Tryz.prog Tryz.f6 false true false false):=by
 refine handed_shaped_and (C:=Tryz.checked) (X:=fun w _=>laidMetH Tryz.prog Rows.indexOfFilesPointRow.laid w) (fun _ _ _ hh h=>h.of_heap hh) own started (by kernel_rfl) Tryz.func6
  (ChangeSpec.witness_shaped (enc:=enc) (C:=Tryz.checked) (os:=os) (X:=fun w _=>laidMetH Tryz.prog Rows.indexOfFilesPointRow.laid w) false (World.laidAll Tryz.prog os Rows.indexOfFilesPointRow.laid) #[.string ⟨#[]⟩,.slice none 0 0] 8 (World.laidAll_os _ _ _)
   (World.shaped_of_ZipB (by kernel_rfl) (by kernel_rfl)) (by kernel_rfl) (by kernel_rfl) (by kernel_rfl)
   (by rw [MakeChecks.laidMetH_plain _ _ _ (by kernel_rfl)];exact laidMet_laidAll _ (by kernel_rfl) (by kernel_rfl))) ?_
 intro W base args ds gs before hval hW q1 q2 q3 q4
 refine law_contract (tb:=4) [.s,recsK] ?_ indexOfFilesPoint_plain laidOut ?_ Tryz.underlying4 (by kernel_rfl) rfl ?_ ⟨base,hval⟩ hW (ambI_laid 2 q3 (by kernel_rfl) (by kernel_rfl) q4)
 ·rw [Tryz.params6]
  exact ⟨Tryz.underlying9,recsHas,trivial⟩
 ·rw [Tryz.params6]
  intro t ht
  have hall:([9,49].all fun t=>Tryz.prog.readableRec t&&decide (t<Tryz.prog.types.size))=true:=by kernel_rfl
  have:=List.all_eq_true.1 hall t (by simpa using ht)
  simp only [Bool.and_eq_true,decide_eq_true_eq] at this
  exact this
 ·intro ds hd
  match ds,hd with
  | [_,_],_=>rfl
theorem indexOfFilesPoint_d1:(Rows.indexOfFilesPointRow.inPlace==Tryz.pinned.checked.prog.inPlace 6)=true:=by kernel_rfl
theorem indexOfFilesPoint_d2:(Rows.indexOfFilesPointRow.unfollowed==Tryz.pinned.checked.prog.unfollowed 6)=true:=by kernel_rfl
theorem indexOfFilesPoint_d3:(Rows.indexOfFilesPointRow.recurses==Tryz.pinned.checked.prog.recurses 6)=true:=by kernel_rfl
theorem indexOfFilesPoint_d4:(Rows.indexOfFilesPointRow.named==Tryz.pinned.checked.prog.varsNamed 6)=true:=by kernel_rfl
theorem indexOfFilesPoint_d5:(Rows.indexOfFilesPointRow.plainKeys==Tryz.pinned.checked.prog.plainKeys)=true:=by kernel_rfl
theorem indexOfFilesPoint_d6:(Tryz.pinned.checked.prog.stopsHeard)=true:=by kernel_rfl
theorem indexOfFilesPoint_d7:(Tryz.pinned.checked.prog.mayEnter)=true:=by kernel_rfl
theorem indexOfFilesPoint_d8:(Rows.indexOfFilesPointRow.lifted==Tryz.pinned.checked.prog.liftsFinal)=true:=by kernel_rfl
theorem indexOfFilesPoint_d9:(Tryz.pinned.checked.prog.make==some Rows.indexOfFilesPointRow.make)=true:=by kernel_rfl
theorem indexOfFilesPoint_d10:(mapsRowed Tryz.pinned.checked.prog)=true:=by kernel_rfl
theorem indexOfFilesPoint_d11:(laidOutB Tryz.pinned.checked.prog)=true:=by kernel_rfl
theorem indexOfFilesPoint_closed:joinedFacts Tryz.pinned.checked.prog 6 Tryz.f6 Rows.indexOfFilesPointSpec Rows.indexOfFilesPointRow=true:=by
 unfold joinedFacts
 simp only [Bool.and_eq_true]
 repeat' (refine And.intro ?_ ?_)
 all_goals first
  | with_reducible exact indexOfFilesPoint_d1
  | with_reducible exact indexOfFilesPoint_d2
  | with_reducible exact indexOfFilesPoint_d3
  | with_reducible exact indexOfFilesPoint_d4
  | with_reducible exact indexOfFilesPoint_d5
  | with_reducible exact indexOfFilesPoint_d6
  | with_reducible exact indexOfFilesPoint_d7
  | with_reducible exact indexOfFilesPoint_d8
  | with_reducible exact indexOfFilesPoint_d9
  | with_reducible exact indexOfFilesPoint_d10
  | with_reducible exact indexOfFilesPoint_d11
  | kernel_rfl
theorem indexOfFilesPoint_said:Rows.IndexOfFilesPointSaid:=
 OpenClaim.holds_of_wide 6 Tryz.f6 rfl rfl rfl rfl rfl rfl rfl ⟨rfl,rfl,rfl,rfl,rfl⟩ rfl rfl rfl rfl rfl (by kernel_rfl) Tryz.func6 indexOfFilesPoint_closed
  (of_decide_eq_true (by kernel_rfl)) (by unfold Func.isWrapper;first | (rw [if_pos (by decide +kernel)];kernel_rfl) | (rw [if_neg (by decide +kernel)];exact ⟨rfl,rfl⟩))
  (fun os started H enc _=>indexOfFilesPoint_lifted os started H enc)
end Go.Proofs.YtlcmnclbljedfaaGreatDoor
