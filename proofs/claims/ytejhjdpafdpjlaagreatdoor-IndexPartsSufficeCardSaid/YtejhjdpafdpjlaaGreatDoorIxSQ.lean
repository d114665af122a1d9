/- A part of the proof: lemmas and contracts of functions. -/
import Derived.Test.YtejhjdpafdpjlaaGreatDoorIxTA
import Derived.Test.YtejhjdpafdpjlaaGreatDoorIxSpl
import Derived.Test.YtejhjdpafdpjlaaGreatDoorIxNum
import Derived.Test.YtejhjdpafdpjlaaGreatDoorIxLays4
import Derived.Test.YtejhjdpafdpjlaaGreatDoorIxLays5
import Derived.Shelf.Strings.SplitCore
import Derived.Shelf.Strings.Search3
import Derived.Shelf.Strings.Count
import Derived.Shelf.Strconv.Atoi
import Derived.Lib.SplitLaws
import Derived.Lib.AtoiErrMem
namespace Go.Proofs.YtejhjdpafdpjlaaGreatDoor
open Go Go.Ab
set_option linter.unusedSectionVars false
variable [Amb]
set_option maxRecDepth 100000
set_option maxHeartbeats 4000000

theorem index_byte (c : UInt8) (s : List UInt8) : Lib.indexByte s c = if c ∈ s then ((befC c s).length : Int) else -1 := by
  rw [← Lib.index_one, index_one]
theorem befC_le (c : UInt8) (s : List UInt8) : (befC c s).length ≤ s.length := (List.takeWhile_sublist _).length_le
theorem befC_lt {c : UInt8} {s : List UInt8} (h : c ∈ s) : (befC c s).length + 1 ≤ s.length := by
  have := congrArg List.length (befC_aft h)
  simp at this; omega
theorem stringslite_Index1 (s : List UInt8) (c : UInt8) : ACalls Tryz.prog 84 [.one (.str s), .one (.str [c])] (.x (.one (.int .i64 (if c ∈ s then ((befC c s).length : Int) else -1)))) := by
  rw [← index_byte]
  refine ACalls.ofKit [.string ⟨s.toArray⟩, .string ⟨[c].toArray⟩] _ (callable_of Tryz.f84 (by kernel_rfl) (by kernel_rfl) rfl) rfl (fun _ _ => repR_int _ _) (fun _ w => ?_)
  refine (Any.stringslite_Index_one { layn221 with } ⟨s.toArray⟩ c w).mono ?_
  rintro e w' ⟨rfl, rfl⟩
  exact ⟨rfl, RowKit.Below.refl _ _⟩
theorem take_bef (c : UInt8) (s : List UInt8) : s.take (befC c s).length = befC c s := by
  conv => rhs; unfold befC
  rw [List.takeWhile_eq_take_findIdx_not]
  congr 1
  unfold befC
  rw [List.takeWhile_eq_take_findIdx_not, List.length_take]
  exact Nat.min_eq_left List.findIdx_le_length
theorem stringslite_Cut1 (s : List UInt8) (c : UInt8) : ACalls Tryz.prog 55 [.one (.str s), .one (.str [c])] (.tup [.one (.str (befC c s)), .one (.str (if c ∈ s then aftC c s else [])), .one (.bool (decide (c ∈ s)))]) := by
  refine ACalls.of mixed (fn := Tryz.f55) (by kernel_rfl) (by kernel_rfl) rfl (by kernel_rfl) (by simp [Tryz.f55]) (fun hok => ?_)
  have hs : s.length ≤ maxLen := by have := hok _ List.mem_cons_self; simpa [XV.ok, CV.ok] using this
  simp -implicitDefEqProofs
  refine ACallK.of (stringslite_Index1 s c) ?_
  by_cases h : c ∈ s
  · have hb := befC_lt h
    have h1 : (0 ≤ ((befC c s).length : Int)) = True := eq_true (by omega)
    have hw : IntKind.i64.wrap (((befC c s).length : Int) + 1) = (((befC c s).length + 1 : Nat) : Int) := by rw [wrapS _ (by unfold maxLen at hs; omega)]; omega
    have h2 : ((befC c s).length ≤ s.length) = True := eq_true (by omega)
    have h3 : ((befC c s).length + 1 ≤ s.length) = True := eq_true (by omega)
    have ht := take_bef c s
    have ha : s.drop ((befC c s).length + 1) = aftC c s := rfl
    simp -implicitDefEqProofs [h, h1, hw, h2, h3, ht, ha]
    exact ⟨by omega, by omega⟩
  · have hn := befC_all h
    simp -implicitDefEqProofs [h, hn]
theorem strings_Cut1 (s : List UInt8) (c : UInt8) : ACalls Tryz.prog 33 [.one (.str s), .one (.str [c])] (.tup [.one (.str (befC c s)), .one (.str (if c ∈ s then aftC c s else [])), .one (.bool (decide (c ∈ s)))]) := by
  refine ACalls.of mixed (fn := Tryz.f33) (by kernel_rfl) (by kernel_rfl) rfl (by kernel_rfl) (by simp [Tryz.f33]) (fun hok => ?_)
  simp -implicitDefEqProofs
  refine ACallK.of (stringslite_Cut1 s c) ?_
  simp -implicitDefEqProofs

theorem flat_strs : ∀ xs : List ByteArray, (((xs.map (·.data.toList)).map fun s => [CV.str s])).flatten = xs.map fun x => CV.str x.data.toList
  | [] => rfl
  | a :: r => by
    have := flat_strs r
    simp only [List.map_cons, List.flatten_cons, this]; rfl
/-- A contract of the kit that hands back a new slice of strings. -/
theorem ofKitStrs {f : FuncId} {args : List XV} (vs : List Value) (xs : List ByteArray) (t : TypeId) (hc : Callable Tryz.prog f) (ha : concs args = some vs)
    (hl : ∀ x ∈ xs, x.data.toList.length ≤ maxLen) (hn : xs.length ≤ maxLen)
    (h : ∀ w, Calls Tryz.prog f vs.toArray w fun e w' => e = .returned (.slice (some ⟨w.heap.size, 0, none⟩) xs.length xs.length) ∧ w' = w.alloc (.cells (xs.map Value.string).toArray t)) :
    ACalls Tryz.prog f args (.x (strs (xs.map (·.data.toList)))) := by
  refine ⟨hc, fun w S us hS hargs => ?_⟩
  have e : us = vs.toArray := by
    have := concs_eq (us := us.toList) (by rw [Array.length_toList]; exact hargs.1) (fun j x hj => by simpa using hargs.2 j x hj) ha
    rw [← this]
  subst e
  refine (h w).mono ?_
  rintro e w' ⟨rfl, rfl⟩
  have hfl := flat_strs xs
  have hlen : ((xs.map (·.data.toList)).map fun s => [CV.str s]).length = xs.length := by simp
  refine ⟨_, rfl, (RowKit.Below.refl _ _).alloc (Nat.le_refl _) _, ?_, fun b hb => by cases hb⟩
  rw [← hlen]
  refine RepC.list ⟨w.heap.size, 0, none⟩ _ 1 _ (fun j => (xs[j]?.map Value.string).getD .nilIface) (Or.inr ⟨Nat.le_refl _, by show _ < (w.heap.push _).size; rw [Array.size_push]; exact Nat.lt_succ_self _⟩) rfl (Nat.le_refl _) (by rw [hlen]; exact hn) (fun x hx => by
    obtain ⟨y, _, rfl⟩ := List.mem_map.1 hx; rfl) (fun j c hj => ?_) (fun j c hj => ?_)
  · rw [hfl, List.getElem?_map] at hj
    obtain ⟨x, hx, _⟩ := Option.map_eq_some_iff.1 hj
    rw [addr_add_lit, World.cell?_alloc_new, hx]
    simp [hx]
  · rw [hfl, List.getElem?_map] at hj
    obtain ⟨x, hx, rfl⟩ := Option.map_eq_some_iff.1 hj
    have hm : x ∈ xs := List.mem_of_getElem? hx
    rw [hx]
    exact RepC.str _ (hl x hm)

theorem splitC_len (c : UInt8) (s : List UInt8) : ∀ y ∈ splitC c s, y.length ≤ s.length := by
  induction s with
  | nil => intro y hy; simp [splitC] at hy; subst hy; simp
  | cons b r ih =>
    intro y hy
    by_cases hb : b = c
    · rw [splitC, if_pos hb] at hy
      rcases List.mem_cons.1 hy with rfl | hy
      · simp
      · have := ih y hy; simp only [List.length_cons]; omega
    · rw [splitC, if_neg hb] at hy
      cases hr : splitC c r with
      | nil => exact absurd hr (splitC_ne c r)
      | cons h t =>
        rw [hr] at hy ih
        rcases List.mem_cons.1 hy with rfl | hy
        · have := ih h List.mem_cons_self; simp only [List.length_cons]; omega
        · have := ih y (List.mem_cons_of_mem _ hy); simp only [List.length_cons]; omega
theorem strings_genSplit1 (s : List UInt8) (c : UInt8) (hs : s.length ≤ 600000) : ACalls Tryz.prog 85 [.one (.str s), .one (.str [c]), .one (.int .i64 0), .one (.int .i64 (-1))] (.x (strs (splitC c s))) := by
  have hcount : s.count c ≤ s.length := List.count_le_length
  have hcb : Lib.countB ⟨s.toArray⟩ ⟨[c].toArray⟩ = s.count c := Lib.count_one c s
  have hsp : (Lib.splitB ⟨[c].toArray⟩ 0 (s.count c) ⟨s.toArray⟩).map (·.data.toList) = splitC c s := by
    rw [Lib.splitB_data]
    exact splitK_eq c _ _ (Nat.le_refl _)
  have hle := Lib.splitB_length_le ⟨[c].toArray⟩ 0 (s.count c) ⟨s.toArray⟩
  have hall := Lib.splitB_all ⟨[c].toArray⟩ (Nat.le_refl 1) 0 _ ⟨s.toArray⟩ hcb
  rw [← hsp]
  have hsub := splitC_len c s
  have hcall : ∀ w, Calls Tryz.prog 85 [Value.string ⟨s.toArray⟩, .string ⟨[c].toArray⟩, .int .i64 0, .int .i64 (-1)].toArray w fun e w' =>
      e = .returned (.slice (some ⟨w.heap.size, 0, none⟩) (s.count c + 1) (s.count c + 1)) ∧ w' = w.alloc (.cells ((Lib.splitB ⟨[c].toArray⟩ 0 (s.count c) ⟨s.toArray⟩).map Value.string).toArray 9) := by
    intro w
    have g := Any.strings_genSplit_core layn221 (by kernel_rfl) ⟨s.toArray⟩ ⟨[c].toArray⟩ 0 (-1) (s.count c + 1) w (by show s.toArray.size < _; simp; omega) (Nat.le_refl 1) (Nat.zero_le _)
      (fun x cs hx => (Any.strings_Index_one { layn221 with } x c _).mono fun e w' ⟨h1, h2⟩ => ⟨by rw [h1]; show _ = Ending.returned (.int .i64 (Lib.index x.data.toList [c])); rw [Lib.index_one], h2⟩)
      ((Any.strings_Count_one { layn221 with } ⟨s.toArray⟩ c w).mono fun e w' ⟨h1, h2⟩ => ⟨by rw [h1, hcb]; rfl, h2⟩)
      (by decide) (by decide) (by rw [if_pos (by decide), hcb]; show _ = min _ ((s.toArray.size : Int) + 1); simp; omega)
    rw [Nat.add_sub_cancel, hall] at g
    have e2 : Lib.cellsOf (Lib.splitB ⟨[c].toArray⟩ 0 (s.count c) ⟨s.toArray⟩) (s.count c + 1) = ((Lib.splitB ⟨[c].toArray⟩ 0 (s.count c) ⟨s.toArray⟩).map Value.string).toArray := by rw [← hall]; exact Lib.cellsOf_full _
    rw [e2] at g
    exact g
  obtain ⟨xs, ex⟩ : ∃ xs, xs = Lib.splitB ⟨[c].toArray⟩ 0 (s.count c) ⟨s.toArray⟩ := ⟨_, rfl⟩
  rw [← ex] at hsp hall hcall ⊢
  refine ofKitStrs [.string ⟨s.toArray⟩, .string ⟨[c].toArray⟩, .int .i64 0, .int .i64 (-1)] xs 9 (callable_of Tryz.f85 (by kernel_rfl) (by kernel_rfl) rfl) rfl (fun x hx => ?_) (by rw [hall]; unfold maxLen; omega) (fun w => by rw [hall]; exact hcall w)
  have := hsub x.data.toList (by rw [← hsp]; exact List.mem_map_of_mem hx)
  unfold maxLen; omega
theorem strings_Split1 (s : List UInt8) (c : UInt8) (hs : s.length ≤ 600000) : ACalls Tryz.prog 56 [.one (.str s), .one (.str [c])] (.x (strs (splitC c s))) := by
  refine ACalls.of mixed (fn := Tryz.f56) (by kernel_rfl) (by kernel_rfl) rfl (by kernel_rfl) (by simp [Tryz.f56]) (fun hok => ?_)
  simp -implicitDefEqProofs
  refine ACallK.of (strings_genSplit1 s c hs) ?_
  simp -implicitDefEqProofs

theorem strconv_Atoi1 (s : List UInt8) (n : Int) (hl : s.length ≤ 18) (h : Lib.atoi s = some n) : ACalls Tryz.prog 88 [.one (.str s)] (.tup [.one (.int .i64 n), .one (.atom .nilIface)]) := by
  refine ACalls.ofKit [.string ⟨s.toArray⟩] (.tuple #[.int .i64 n, .nilIface]) (callable_of Tryz.f88 (by kernel_rfl) (by kernel_rfl) rfl) rfl (fun w S => ?_) (fun _ w => ?_)
  · refine ⟨_, rfl, rfl, fun j x hj => ?_⟩
    match j, hj with
    | 0, hj => cases hj; exact ⟨_, rfl, RepC.int _ _⟩
    | 1, hj => cases hj; exact ⟨_, rfl, RepC.atom _ rfl⟩
    | j + 2, hj => simp at hj
  refine (Any.strconv_Atoi layn172 ⟨s.toArray⟩ n (by show s.toArray.size ≤ 18; simpa using hl) h w).mono ?_
  rintro e w' ⟨rfl, t, rfl⟩
  exact ⟨rfl, Lib.bytesWorld_below _ _ _⟩
end Go.Proofs.YtejhjdpafdpjlaaGreatDoor
