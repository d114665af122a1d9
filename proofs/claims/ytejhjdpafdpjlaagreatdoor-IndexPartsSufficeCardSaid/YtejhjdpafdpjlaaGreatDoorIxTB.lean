/- A part of the proof: lemmas and contracts of functions. -/
import Derived.Test.YtejhjdpafdpjlaaGreatDoorIxTA
import Derived.Test.YtejhjdpafdpjlaaGreatDoorIxJ
namespace Go.Proofs.YtejhjdpafdpjlaaGreatDoor
open Go Go.Ab
set_option linter.unusedSectionVars false
variable [Amb] [HasPow10 Tryz.prog]
set_option maxRecDepth 100000
set_option maxHeartbeats 4000000

def noDash (e : Entry) : Bool := e.type != [45]
def textAll (l : List Entry) : List UInt8 := (l.map lineL).flatten
def linesF (l : List Entry) : Int := if l.all noDash = false then 3 else if 600000 < (textAll l).length then 2 else 0
def linesL (l : List Entry) : List (List UInt8) := if linesF l = 0 then l.map lineL else []
theorem textAll_snoc {l : List Entry} {i : Nat} (h : i < l.length) : textAll (l.take (i + 1)) = textAll (l.take i) ++ lineL l[i] := by
  unfold textAll
  rw [List.take_succ_eq_append_getElem h]
  simp only [List.map_append, List.map_cons, List.map_nil, List.flatten_append, List.flatten_cons, List.flatten_nil, List.append_nil]
theorem textAll_len {l : List Entry} (hR : ∀ e ∈ l, Right e) : (textAll l).length ≤ 2306 * l.length := by
  unfold textAll
  induction l with
  | nil => simp
  | cons a r ih =>
    have h1 := lineL_len (hR a (by simp))
    have h2 := ih (fun e he => hR e (by simp [he]))
    simp only [List.map_cons, List.flatten_cons, List.length_append, List.length_cons]
    omega
theorem textAll_take {l : List Entry} (hR : ∀ e ∈ l, Right e) (i : Nat) : (textAll (l.take i)).length ≤ 2306 * l.length := by
  have := textAll_len (l := l.take i) (fun e he => hR e (List.mem_of_mem_take he))
  rw [List.length_take] at this
  omega

theorem index_lines (l : List Entry) (hs : l.length ≤ 3000) (hR : ∀ e ∈ l, Right e) : ACalls Tryz.prog 36 [entries l] (.tup [strs (linesL l), .one (.int .i64 (linesF l))]) := by
  refine ACalls.of mixed (fn := Tryz.f36) (by kernel_rfl) (by kernel_rfl) rfl (by kernel_rfl) (by simp [Tryz.f36]) (fun hok => ?_)
  generalize hF : linesF l = F
  have hL : linesL l = if F = 0 then l.map lineL else [] := by rw [← hF]; rfl
  generalize linesL l = L at hL ⊢
  unfold linesF at hF
  simp -implicitDefEqProofs
  refine ALoopS.of Nat (fun i => [(4, .own 9 1 ((l.take i).map fun e => [.str (lineL e)])), (5, .x (.one (.int .i64 (textAll (l.take i)).length))), (8, .x (entries l)), (9, .x (.one (.int .i64 l.length))), (10, .x (.one (.int .i64 i)))]) (Upto noDash l) (fun i => l.length - i) 0 Upto.zero ?_ ?_
  · simp [textAll]
  intro i hi
  by_cases hlt : i < l.length
  · have hr := hR _ (List.getElem_mem hlt)
    have hw : IntKind.i64.wrap ((i : Int) + 1) = (i : Int) + 1 := wrapS _ (by omega)
    have hst := textAll_snoc hlt
    have htl := textAll_take hR i
    have hln := lineL_len hr
    have hxs : ((l.take (i + 1)).map fun e => [CV.str (lineL e)]) = ((l.take i).map fun e => [CV.str (lineL e)]) ++ [[CV.str (lineL l[i])]] := by
      rw [List.take_succ_eq_append_getElem hlt]
      simp only [List.map_append, List.map_cons, List.map_nil]
    have hxl : ((l.take i).map fun e => [CV.str (lineL e)]).length = i := by simp; omega
    obtain ⟨X, eX⟩ : ∃ X, X = ((l.take i).map fun e => [CV.str (lineL e)]) := ⟨_, rfl⟩
    rw [← eX] at hxs hxl ⊢
    have hat : (X ++ [[CV.str (lineL l[i])]])[i]? = some [CV.str (lineL l[i])] := by rw [List.getElem?_append_right (by omega), hxl]; simp
    have hwi : IntKind.i64.wrap (i : Int) = (i : Int) := wrapS _ (by omega)
    have hwt : IntKind.i64.wrap (((textAll (l.take i)).length : Int) + ((lineL l[i]).length : Int)) = ((textAll (l.take i)).length : Int) + ((lineL l[i]).length : Int) := wrapS _ (by omega)
    by_cases hb : l[i].type = [45]
    · have hall := all_bad (p := noDash) hlt (by simp [noDash, hb])
      rw [if_pos hall] at hF
      subst hF
      simp -implicitDefEqProofs [hlt, Entry.row, hb]
      rw [hL]
      simp
    · simp -implicitDefEqProofs [hlt, Entry.row, hb]
      refine ACallK.of (index_line _ hr) ?_
      simp -implicitDefEqProofs (disch := omega) [Entry.row, hxl, hwi, hat, hwt]
      refine ⟨by omega, by omega, Again.of (i + 1) (hi.step hlt (by simpa [noDash] using hb)) (by omega) ?_⟩
      rw [hxs, hst]
      simp [hw]
  · have hall := hi.done hlt
    rw [if_neg (by simp [hall])] at hF
    have htl := textAll_take hR l.length
    rw [List.take_length] at htl
    rw [show l.take i = l from List.take_of_length_le (by omega)]
    by_cases hbig : 600000 < (textAll l).length
    · rw [if_pos hbig] at hF
      subst hF
      have hbig' : ((600000 : Int) < ((textAll l).length : Int)) = True := eq_true (by omega)
      simp -implicitDefEqProofs [hlt, hbig']
      rw [hL]; simp
    · rw [if_neg hbig] at hF
      subst hF
      have hbig' : ((600000 : Int) < ((textAll l).length : Int)) = False := eq_false (by omega)
      simp -implicitDefEqProofs [hlt, hbig']
      rw [hL]; simp

def textF (l : List Entry) : Int := if entriesF l ≠ 0 then entriesF l else linesF l
def textL (l : List Entry) : List UInt8 := if textF l = 0 then textAll l else []
theorem join_none (l : List (List UInt8)) : Lib.join l [] = l.flatten := by
  unfold Lib.join List.intercalate
  induction l with
  | nil => rfl
  | cons a r ih => cases r with
    | nil => simp
    | cons b r => simpa using ih
theorem rights {l : List Entry} (h : entriesF l = 0) : ∀ e ∈ l, Right e := fun e he => entryF_right ((entriesF_sorted h).2 e he)
theorem index_Text (l : List Entry) : ACalls Tryz.prog 18 [entries l] (.tup [.one (.str (textL l)), .one (.int .i64 (textF l))]) := by
  refine ACalls.of mixed (fn := Tryz.f18) (by kernel_rfl) (by kernel_rfl) rfl (by kernel_rfl) (by simp [Tryz.f18]) (fun hok => ?_)
  have hT : textL l = if textF l = 0 then textAll l else [] := rfl
  generalize textL l = T at hT ⊢
  by_cases h : entriesF l = 0
  · have hF : textF l = linesF l := by unfold textF; rw [if_neg (by simp [h])]
    rw [hF] at hT ⊢
    have hs := entriesF_short h
    have hr := rights h
    simp -implicitDefEqProofs
    refine ACallK.of (index_checkEntries l) ?_
    simp -implicitDefEqProofs [h]
    refine ACallK.of (index_lines l hs hr) ?_
    simp -implicitDefEqProofs
    have hlen : (Lib.join (linesL l) []).length ≤ 2306 * l.length := by
      rw [join_none]
      unfold linesL
      split
      · exact textAll_len hr
      · simp
    have hn : (linesL l).length ≤ l.length := by unfold linesL; split <;> simp
    refine ACallK.of (strings_Join (linesL l) [] (by omega) (by omega)) ?_
    simp -implicitDefEqProofs
    rw [hT, join_none]
    unfold linesL
    split <;> rfl
  · have hF : textF l = entriesF l := by unfold textF; rw [if_pos h]
    rw [hF, if_neg h] at hT
    rw [hF]
    simp -implicitDefEqProofs
    refine ACallK.of (index_checkEntries l) ?_
    simp -implicitDefEqProofs [h]
    exact hT
end Go.Proofs.YtejhjdpafdpjlaaGreatDoor
