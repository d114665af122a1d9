/- A part of the proof: lemmas and contracts of functions. -/
import Derived.Test.YtklnopamfncfgaaGreatDoorProg
import Derived.KernelRfl
import Derived.Test.YtklnopamfncfgaaGreatDoorAbJ4
import Derived.Shelf.Lays
import Derived.Test.YtklnopamfncfgaaGreatDoorAbJ5
import Derived.Shelf.Small.Strs
import Derived.Shelf.Strings.SlTrimAscii
import Derived.MakeChecks
import Derived.Test.YtklnopamfncfgaaGreatDoorRows
import Derived.Lib.Split
import Derived.Lib.ItoaNum
import Derived.Lib.Atoi
import Derived.Shelf.LaysM
import Derived.Shelf.Strings.BuilderX
import Derived.Lib.ItoaLen
import Derived.Shelf.Strconv.Itoa3
import Derived.Shelf.Strings.OnBuilder
import Derived.Shelf.Strings.SplitCore
import Derived.Shelf.Strings.Search3
import Derived.Shelf.Strings.Count
import Derived.Shelf.Strconv.Atoi
import Derived.Lib.SplitLaws
import Derived.Lib.AtoiErrMem
namespace Go.Proofs.YtklnopamfncfgaaGreatDoor
open Go Go.Ab
@[simp] theorem ix_tk_3 : tk Tryz.prog 3 = TK.one := by kernel_rfl
@[simp] theorem ix_isSliceT_3 : isSliceT Tryz.prog 3 = false := by kernel_rfl
@[simp] theorem ix_zeroX_3 : zeroX Tryz.prog 3 = some
  (XV.one (CV.int IntKind.i64 0)) := by kernel_rfl
@[simp] theorem ix_OneOk_3 : OneOk Tryz.prog 3 = true := by kernel_rfl
@[simp] theorem ix_intT_3 : intT Tryz.prog 3 = some IntKind.i64 := by kernel_rfl
@[simp] theorem ix_tk_4 : tk Tryz.prog 4 = TK.one := by kernel_rfl
@[simp] theorem ix_zeroX_4 : zeroX Tryz.prog 4 = some (XV.one (CV.bool false)) := by kernel_rfl
@[simp] theorem ix_OneOk_4 : OneOk Tryz.prog 4 = true := by kernel_rfl
@[simp] theorem ix_tk_5 : tk Tryz.prog 5 = TK.one := by kernel_rfl
@[simp] theorem ix_isSliceT_5 : isSliceT Tryz.prog 5 = false := by kernel_rfl
@[simp] theorem ix_zeroX_5 : zeroX Tryz.prog 5 = some
  (XV.one (CV.int IntKind.u8 0)) := by kernel_rfl
@[simp] theorem ix_bytesT_5 : bytesT Tryz.prog 5 = some 1 := by kernel_rfl
@[simp] theorem ix_OneOk_5 : OneOk Tryz.prog 5 = true := by kernel_rfl
@[simp] theorem ix_intT_5 : intT Tryz.prog 5 = some IntKind.u8 := by kernel_rfl
@[simp] theorem ix_byteT_5 : byteT Tryz.prog 5 = true := by kernel_rfl
@[simp] theorem ix_tk_9 : tk Tryz.prog 9 = TK.one := by kernel_rfl
@[simp] theorem ix_isStringT_9 : isStringT Tryz.prog 9 = true := by kernel_rfl
@[simp] theorem ix_isSliceT_9 : isSliceT Tryz.prog 9 = false := by kernel_rfl
@[simp] theorem ix_zeroX_9 : zeroX Tryz.prog 9 = some (XV.one (CV.str [])) := by kernel_rfl
@[simp] theorem ix_bytesT_9 : bytesT Tryz.prog 9 = some 16 := by kernel_rfl
@[simp] theorem ix_OneOk_9 : OneOk Tryz.prog 9 = true := by kernel_rfl
@[simp] theorem ix_intT_9 : intT Tryz.prog 9 = none := by kernel_rfl
@[simp] theorem ix_isSliceT_21 : isSliceT Tryz.prog 21 = false := by kernel_rfl
@[simp] theorem ix_intT_21 : intT Tryz.prog 21 = some IntKind.i32 := by kernel_rfl
@[simp] theorem ix_tk_23 : tk Tryz.prog 23 = TK.agg 8 := by kernel_rfl
@[simp] theorem ix_zeroX_23 : zeroX Tryz.prog 23 = some
  (XV.agg
    [CV.str [], CV.str [], CV.str [], CV.str [], CV.str [], CV.bool false, CV.str [], CV.bool false]) := by kernel_rfl
@[simp] theorem ix_zeroOf_23 : zeroOf Tryz.prog 23 = some
  [CV.str [], CV.str [], CV.str [], CV.str [], CV.str [], CV.bool false, CV.str [], CV.bool false] := by kernel_rfl
@[simp] theorem ix_buildT_23 : buildT Tryz.prog 23 = some
  ([CV.str [], CV.str [], CV.str [], CV.str [], CV.str [], CV.bool false, CV.str [], CV.bool false],
    [(0, 1), (1, 1), (2, 1), (3, 1), (4, 1), (5, 1), (6, 1), (7, 1)]) := by kernel_rfl
@[simp] theorem ix_OneOk_23 : OneOk Tryz.prog 23 = true := by kernel_rfl
@[simp] theorem ix_fieldAt_23_0 : fieldAt Tryz.prog 23 0 = some (0, TK.one) := by kernel_rfl
@[simp] theorem ix_fieldAt_23_1 : fieldAt Tryz.prog 23 1 = some (1, TK.one) := by kernel_rfl
@[simp] theorem ix_fieldAt_23_2 : fieldAt Tryz.prog 23 2 = some (2, TK.one) := by kernel_rfl
@[simp] theorem ix_fieldAt_23_3 : fieldAt Tryz.prog 23 3 = some (3, TK.one) := by kernel_rfl
@[simp] theorem ix_fieldAt_23_4 : fieldAt Tryz.prog 23 4 = some (4, TK.one) := by kernel_rfl
@[simp] theorem ix_fieldAt_23_5 : fieldAt Tryz.prog 23 5 = some (5, TK.one) := by kernel_rfl
@[simp] theorem ix_fieldAt_23_6 : fieldAt Tryz.prog 23 6 = some (6, TK.one) := by kernel_rfl
@[simp] theorem ix_fieldAt_23_7 : fieldAt Tryz.prog 23 7 = some (7, TK.one) := by kernel_rfl
@[simp] theorem ix_tk_41 : tk Tryz.prog 41 = TK.one := by kernel_rfl
@[simp] theorem ix_sliceT_41 : sliceT Tryz.prog 41 = some (92, 6) := by kernel_rfl
@[simp] theorem ix_zeroX_41 : zeroX Tryz.prog 41 = some (XV.one CV.nil) := by kernel_rfl
@[simp] theorem ix_tk_42 : tk Tryz.prog 42 = TK.one := by kernel_rfl
@[simp] theorem ix_sliceT_42 : sliceT Tryz.prog 42 = some (98, 2) := by kernel_rfl
@[simp] theorem ix_zeroX_42 : zeroX Tryz.prog 42 = some (XV.one CV.nil) := by kernel_rfl
@[simp] theorem ix_tk_44 : tk Tryz.prog 44 = TK.agg 2 := by kernel_rfl
@[simp] theorem ix_zeroX_44 : zeroX Tryz.prog 44 = some (XV.agg [CV.nil, CV.nil]) := by kernel_rfl
@[simp] theorem ix_buildT_44 : buildT Tryz.prog 44 = some
  ([CV.nil, CV.nil], [(0, 1), (1, 1)]) := by kernel_rfl
@[simp] theorem ix_fieldAt_44_0 : fieldAt Tryz.prog 44 0 = some (0, TK.one) := by kernel_rfl
@[simp] theorem ix_fieldAt_44_1 : fieldAt Tryz.prog 44 1 = some (1, TK.one) := by kernel_rfl
@[simp] theorem ix_tk_45 : tk Tryz.prog 45 = TK.one := by kernel_rfl
@[simp] theorem ix_sliceT_45 : sliceT Tryz.prog 45 = some (102, 2) := by kernel_rfl
@[simp] theorem ix_zeroX_45 : zeroX Tryz.prog 45 = some (XV.one CV.nil) := by kernel_rfl
@[simp] theorem ix_rowT_45 : rowT Tryz.prog 45 = some (102, 2, [CV.str [], CV.str []]) := by kernel_rfl
@[simp] theorem ix_OneOk_45 : OneOk Tryz.prog 45 = true := by kernel_rfl
@[simp] theorem ix_tk_46 : tk Tryz.prog 46 = TK.one := by kernel_rfl
@[simp] theorem ix_sliceT_46 : sliceT Tryz.prog 46 = some (5, 1) := by kernel_rfl
@[simp] theorem ix_isSliceT_46 : isSliceT Tryz.prog 46 = true := by kernel_rfl
@[simp] theorem ix_mapT_46 : mapT Tryz.prog 46 = none := by kernel_rfl
@[simp] theorem ix_zeroX_46 : zeroX Tryz.prog 46 = some (XV.one CV.nil) := by kernel_rfl
@[simp] theorem ix_rowT_46 : rowT Tryz.prog 46 = some
  (5, 1, [CV.int IntKind.u8 0]) := by kernel_rfl
@[simp] theorem ix_byteSliceT_46 : byteSliceT Tryz.prog 46 = true := by kernel_rfl
@[simp] theorem ix_tk_48 : tk Tryz.prog 48 = TK.agg 4 := by kernel_rfl
@[simp] theorem ix_zeroX_48 : zeroX Tryz.prog 48 = some
  (XV.agg [CV.int IntKind.i64 0, CV.str [], CV.nil, CV.nil]) := by kernel_rfl
@[simp] theorem ix_zeroOf_48 : zeroOf Tryz.prog 48 = some
  [CV.int IntKind.i64 0, CV.str [], CV.nil, CV.nil] := by kernel_rfl
@[simp] theorem ix_buildT_48 : buildT Tryz.prog 48 = some
  ([CV.int IntKind.i64 0, CV.str [], CV.nil, CV.nil], [(0, 1), (1, 1), (2, 1), (3, 1)]) := by kernel_rfl
@[simp] theorem ix_OneOk_48 : OneOk Tryz.prog 48 = true := by kernel_rfl
@[simp] theorem ix_fieldAt_48_0 : fieldAt Tryz.prog 48 0 = some (0, TK.one) := by kernel_rfl
@[simp] theorem ix_fieldAt_48_1 : fieldAt Tryz.prog 48 1 = some (1, TK.one) := by kernel_rfl
@[simp] theorem ix_fieldAt_48_2 : fieldAt Tryz.prog 48 2 = some (2, TK.one) := by kernel_rfl
@[simp] theorem ix_fieldAt_48_3 : fieldAt Tryz.prog 48 3 = some (3, TK.one) := by kernel_rfl
@[simp] theorem ix_sliceT_69 : sliceT Tryz.prog 69 = some (9, 1) := by kernel_rfl
@[simp] theorem ix_mapT_69 : mapT Tryz.prog 69 = none := by kernel_rfl
@[simp] theorem ix_rowT_69 : rowT Tryz.prog 69 = some (9, 1, [CV.str []]) := by kernel_rfl
@[simp] theorem ix_tk_92 : tk Tryz.prog 92 = TK.agg 6 := by kernel_rfl
@[simp] theorem ix_zeroX_92 : zeroX Tryz.prog 92 = some
  (XV.agg
    [CV.str [], CV.int IntKind.i64 0, CV.int IntKind.i64 0, CV.str [], CV.str [],
      CV.nil]) := by kernel_rfl
@[simp] theorem ix_zeroOf_92 : zeroOf Tryz.prog 92 = some
  [CV.str [], CV.int IntKind.i64 0, CV.int IntKind.i64 0, CV.str [], CV.str [],
    CV.nil] := by kernel_rfl
@[simp] theorem ix_OneOk_92 : OneOk Tryz.prog 92 = true := by kernel_rfl
@[simp] theorem ix_fieldAt_92_0 : fieldAt Tryz.prog 92 0 = some (0, TK.one) := by kernel_rfl
@[simp] theorem ix_fieldAt_92_1 : fieldAt Tryz.prog 92 1 = some (1, TK.one) := by kernel_rfl
@[simp] theorem ix_fieldAt_92_2 : fieldAt Tryz.prog 92 2 = some (2, TK.one) := by kernel_rfl
@[simp] theorem ix_fieldAt_92_3 : fieldAt Tryz.prog 92 3 = some (3, TK.one) := by kernel_rfl
@[simp] theorem ix_fieldAt_92_4 : fieldAt Tryz.prog 92 4 = some (4, TK.one) := by kernel_rfl
@[simp] theorem ix_fieldAt_92_5 : fieldAt Tryz.prog 92 5 = some (5, TK.one) := by kernel_rfl
@[simp] theorem ix_tk_98 : tk Tryz.prog 98 = TK.agg 2 := by kernel_rfl
@[simp] theorem ix_zeroX_98 : zeroX Tryz.prog 98 = some
  (XV.agg [CV.str [], CV.int IntKind.i64 0]) := by kernel_rfl
@[simp] theorem ix_zeroOf_98 : zeroOf Tryz.prog 98 = some
  [CV.str [], CV.int IntKind.i64 0] := by kernel_rfl
@[simp] theorem ix_OneOk_98 : OneOk Tryz.prog 98 = true := by kernel_rfl
@[simp] theorem ix_fieldAt_98_0 : fieldAt Tryz.prog 98 0 = some (0, TK.one) := by kernel_rfl
@[simp] theorem ix_fieldAt_98_1 : fieldAt Tryz.prog 98 1 = some (1, TK.one) := by kernel_rfl
@[simp] theorem ix_tk_102 : tk Tryz.prog 102 = TK.agg 2 := by kernel_rfl
@[simp] theorem ix_zeroX_102 : zeroX Tryz.prog 102 = some (XV.agg [CV.str [], CV.str []]) := by kernel_rfl
@[simp] theorem ix_zeroOf_102 : zeroOf Tryz.prog 102 = some [CV.str [], CV.str []] := by kernel_rfl
@[simp] theorem ix_bytesT_102 : bytesT Tryz.prog 102 = some 32 := by kernel_rfl
@[simp] theorem ix_buildT_102 : buildT Tryz.prog 102 = some
  ([CV.str [], CV.str []], [(0, 1), (1, 1)]) := by kernel_rfl
@[simp] theorem ix_eqT_102 : eqT Tryz.prog 102 = some [BK.s, BK.s] := by kernel_rfl
@[simp] theorem ix_OneOk_102 : OneOk Tryz.prog 102 = true := by kernel_rfl
@[simp] theorem ix_fieldAt_102_0 : fieldAt Tryz.prog 102 0 = some (0, TK.one) := by kernel_rfl
@[simp] theorem ix_fieldAt_102_1 : fieldAt Tryz.prog 102 1 = some (1, TK.one) := by kernel_rfl
@[simp] theorem ix_sliceT_110 : sliceT Tryz.prog 110 = some (3, 1) := by kernel_rfl
@[simp] theorem ix_rowT_110 : rowT Tryz.prog 110 = some
  (3, 1, [CV.int IntKind.i64 0]) := by kernel_rfl
@[simp] theorem ix_buildT_120 : buildT Tryz.prog 120 = some
  ([CV.str [], CV.int IntKind.i64 0, CV.str [], CV.str [], CV.str [], CV.str [], CV.str [], CV.bool false,
      CV.str [], CV.bool false],
    [(0, 1), (1, 1), (2, 8)]) := by kernel_rfl
@[simp] theorem ix_fieldAt_120_0 : fieldAt Tryz.prog 120 0 = some (0, TK.one) := by kernel_rfl
@[simp] theorem ix_fieldAt_120_1 : fieldAt Tryz.prog 120 1 = some (1, TK.one) := by kernel_rfl
@[simp] theorem ix_fieldAt_120_2 : fieldAt Tryz.prog 120 2 = some (2, TK.agg 8) := by kernel_rfl
@[simp] theorem ix_buildT_167 : buildT Tryz.prog 167 = some
  ([CV.str [], CV.int IntKind.i64 0, CV.int IntKind.i64 0],
    [(0, 1), (1, 1), (2, 1)]) := by kernel_rfl
@[simp] theorem ix_fieldAt_167_0 : fieldAt Tryz.prog 167 0 = some (0, TK.one) := by kernel_rfl
@[simp] theorem ix_fieldAt_167_1 : fieldAt Tryz.prog 167 1 = some (1, TK.one) := by kernel_rfl
@[simp] theorem ix_fieldAt_167_2 : fieldAt Tryz.prog 167 2 = some (2, TK.one) := by kernel_rfl
@[simp] theorem ix_sliceT_174 : sliceT Tryz.prog 174 = some (204, 2) := by kernel_rfl
@[simp] theorem ix_tk_204 : tk Tryz.prog 204 = TK.agg 2 := by kernel_rfl
@[simp] theorem ix_zeroX_204 : zeroX Tryz.prog 204 = some
  (XV.agg [CV.int IntKind.i64 0, CV.str []]) := by kernel_rfl
@[simp] theorem ix_buildT_204 : buildT Tryz.prog 204 = some
  ([CV.int IntKind.i64 0, CV.str []], [(0, 1), (1, 1)]) := by kernel_rfl
end Go.Proofs.YtklnopamfncfgaaGreatDoor
namespace Go.Proofs.YtklnopamfncfgaaGreatDoor
open Go
set_option maxRecDepth 100000
def renn106 : Go.Shelf.Ren := ⟨fun x => if x = 106 then 54 else if x = 213 then 106 else if x = 265 then 175 else x, fun x => if x = 3 then 3 else if x = 9 then 9 else x, fun x => x⟩
theorem layn106 : Go.Proofs.Lays.n106 Tryz.prog renn106 where
  mixed := by kernel_rfl
  f106 := Tryz.func54.trans (congrArg some (by kernel_rfl))
  f213 := Tryz.func106.trans (congrArg some (by kernel_rfl))
  f265 := Tryz.func175.trans (congrArg some (by kernel_rfl))
  t3 := Tryz.underlying3
  a3 := Tryz.isAgg3
  z3 := Tryz.sizeOf3
  v3 := Tryz.zeroValue3
  t9 := Tryz.underlying9
  a9 := Tryz.isAgg9
  z9 := Tryz.sizeOf9
  v9 := Tryz.zeroValue9
def renn160 : Go.Shelf.Ren := ⟨fun x => if x = 119 then 256 else if x = 120 then 234 else if x = 137 then 62 else if x = 151 then 190 else if x = 152 then 233 else if x = 160 then 71 else if x = 197 then 189 else if x = 217 then 112 else if x = 224 then 242 else if x = 225 then 241 else if x = 227 then 128 else if x = 228 then 188 else if x = 231 then 126 else if x = 232 then 127 else if x = 233 then 129 else if x = 234 then 130 else if x = 235 then 131 else if x = 236 then 132 else if x = 260 then 232 else if x = 266 then 177 else if x = 271 then 191 else x, fun x => if x = 0 then 0 else if x = 3 then 3 else if x = 4 then 4 else if x = 5 then 5 else if x = 9 then 9 else if x = 21 then 21 else if x = 46 then 181 else if x = 105 then 190 else if x = 116 then 155 else if x = 117 then 156 else if x = 119 then 233 else if x = 124 then 159 else if x = 138 then 235 else if x = 139 then 236 else x, fun x => if x = 3 then 4 else if x = 4 then 5 else x⟩
theorem layn160 : Go.Proofs.Lays.n160 Tryz.prog renn160 where
  mixed := by kernel_rfl
  f119 := Tryz.func256.trans (congrArg some (by kernel_rfl))
  f120 := Tryz.func234.trans (congrArg some (by kernel_rfl))
  f137 := Tryz.func62.trans (congrArg some (by kernel_rfl))
  f151 := Tryz.func190.trans (congrArg some (by kernel_rfl))
  f152 := Tryz.func233.trans (congrArg some (by kernel_rfl))
  f160 := Tryz.func71.trans (congrArg some (by kernel_rfl))
  f197 := Tryz.func189.trans (congrArg some (by kernel_rfl))
  f217 := Tryz.func112.trans (congrArg some (by kernel_rfl))
  f224 := Tryz.func242.trans (congrArg some (by kernel_rfl))
  f225 := Tryz.func241.trans (congrArg some (by kernel_rfl))
  f227 := Tryz.func128.trans (congrArg some (by kernel_rfl))
  f228 := Tryz.func188.trans (congrArg some (by kernel_rfl))
  f231 := Tryz.func126.trans (congrArg some (by kernel_rfl))
  f232 := Tryz.func127.trans (congrArg some (by kernel_rfl))
  f233 := Tryz.func129.trans (congrArg some (by kernel_rfl))
  f234 := Tryz.func130.trans (congrArg some (by kernel_rfl))
  f235 := Tryz.func131.trans (congrArg some (by kernel_rfl))
  f236 := Tryz.func132.trans (congrArg some (by kernel_rfl))
  f260 := Tryz.func232.trans (congrArg some (by kernel_rfl))
  f266 := Tryz.func177.trans (congrArg some (by kernel_rfl))
  f271 := Tryz.func191.trans (congrArg some (by kernel_rfl))
  t0 := Tryz.underlying0
  a0 := Tryz.isAgg0
  z0 := Tryz.sizeOf0
  v0 := Tryz.zeroValue0
  t3 := Tryz.underlying3
  a3 := Tryz.isAgg3
  z3 := Tryz.sizeOf3
  v3 := Tryz.zeroValue3
  t4 := Tryz.underlying4
  a4 := Tryz.isAgg4
  z4 := Tryz.sizeOf4
  v4 := Tryz.zeroValue4
  t5 := Tryz.underlying5
  a5 := Tryz.isAgg5
  z5 := Tryz.sizeOf5
  v5 := Tryz.zeroValue5
  t9 := Tryz.underlying9
  a9 := Tryz.isAgg9
  z9 := Tryz.sizeOf9
  v9 := Tryz.zeroValue9
  t21 := Tryz.underlying21
  a21 := Tryz.isAgg21
  z21 := Tryz.sizeOf21
  v21 := Tryz.zeroValue21
  t46 := Tryz.underlying181
  a46 := Tryz.isAgg181
  z46 := Tryz.sizeOf181
  v46 := Tryz.zeroValue181
  t105 := Tryz.underlying190
  a105 := Tryz.isAgg190
  z105 := Tryz.sizeOf190
  v105 := Tryz.zeroValue190
  t116 := Tryz.underlying155
  a116 := Tryz.isAgg155
  z116 := Tryz.sizeOf155
  t117 := Tryz.underlying156
  a117 := Tryz.isAgg156
  z117 := Tryz.sizeOf156
  v117 := Tryz.zeroValue156
  t119 := Tryz.underlying233
  a119 := Tryz.isAgg233
  z119 := Tryz.sizeOf233
  t124 := Tryz.underlying159
  a124 := Tryz.isAgg159
  z124 := Tryz.sizeOf159
  v124 := Tryz.zeroValue159
  t138 := Tryz.underlying235
  a138 := Tryz.isAgg235
  z138 := Tryz.sizeOf235
  v138 := Tryz.zeroValue235
  t139 := Tryz.underlying236
  a139 := Tryz.isAgg236
  z139 := Tryz.sizeOf236
  v139 := Tryz.zeroValue236
  g3 := by kernel_rfl
  g4 := by kernel_rfl
end Go.Proofs.YtklnopamfncfgaaGreatDoor
namespace Go.Proofs.YtklnopamfncfgaaGreatDoor
open Go Go.Ab
set_option linter.unusedSectionVars false
variable [Amb]
set_option maxRecDepth 100000
set_option maxHeartbeats 4000000
theorem mixed : Tryz.prog.follows .mixedOrders = true := by kernel_rfl
theorem wrapS (n : Int) (h : -9223372036854775808 ≤ n ∧ n ≤ 9223372036854775807) : IntKind.i64.wrap n = n := IntWalk.i64_in n h
section
variable {α : Type} {p : α → Bool} {l : List α} {i : Nat}
theorem all_bad (hlt : i < l.length) (h : p l[i] = false) : l.all p = false := by
  rw [List.all_eq_false]
  exact ⟨l[i], List.getElem_mem hlt, by simp [h]⟩
def Upto (p : α → Bool) (l : List α) (i : Nat) : Prop := i ≤ l.length ∧ (l.take i).all p = true
theorem Upto.zero : Upto p l 0 := ⟨Nat.zero_le _, by simp⟩
theorem Upto.step (h : Upto p l i) (hlt : i < l.length) (hp : p l[i] = true) : Upto p l (i + 1) := by
  refine ⟨hlt, ?_⟩
  rw [List.take_add_one, List.getElem?_eq_getElem hlt]
  simp only [Option.toList, List.all_append, h.2, List.all_cons, hp, List.all_nil, Bool.and_self]
theorem Upto.done (h : Upto p l i) (hge : ¬ i < l.length) : l.all p = true := by
  have := h.2
  rwa [List.take_of_length_le (by omega)] at this
end
def inB (lo hi n : Int) : Bool := decide (lo ≤ n) && decide (n ≤ hi)
def momentB (n : Int) : Bool := inB 0 253402300799 n
theorem isMoment (x : Int) : ACalls Tryz.prog 23 [.one (.int .i64 x)] (.x (.one (.bool (momentB x)))) := by
  refine ACalls.of mixed (fn := Tryz.f23) (by kernel_rfl) (by kernel_rfl) rfl (by kernel_rfl) (by simp [Tryz.f23]) (fun hok => ?_)
  simp [momentB, inB]
theorem cmpB_eq : ∀ (a b : List UInt8), Lib.compareBytes a b = if ltB a b = true then -1 else if a = b then 0 else 1
  | [], [] => by simp [Lib.compareBytes, ltB, Op.bytesLess]
  | [], _ :: _ => by simp [Lib.compareBytes, ltB, Op.bytesLess]
  | _ :: _, [] => by simp [Lib.compareBytes, ltB, Op.bytesLess]
  | a :: x, b :: y => by
    have ih := cmpB_eq x y
    unfold ltB at ih
    simp only [Lib.compareBytes, ltB, Op.bytesLess]
    by_cases h1 : a < b
    · simp [h1]
    · by_cases h2 : b < a
      · have hab : a ≠ b := fun e => h1 (e ▸ h2)
        simp [h1, h2, hab]
      · have hab : a = b := UInt8.le_antisymm (UInt8.not_lt.1 h2) (UInt8.not_lt.1 h1)
        subst hab
        simp [h1, ih]
def cmpI (a b : Int) : Int := if a < b then -1 else if b < a then 1 else 0
theorem strings_Compare (a b : List UInt8) : ACalls Tryz.prog 54 [.one (.str a), .one (.str b)] (.x (.one (.int .i64 (Lib.compareBytes a b)))) := by
  refine ACalls.ofKit [.string ⟨a.toArray⟩, .string ⟨b.toArray⟩] _ (callable_of Tryz.f54 (by kernel_rfl) (by kernel_rfl) rfl) rfl (fun _ _ => repR_int _ _) (fun hok w => ?_)
  refine (Any.strings_Compare layn106 ⟨a.toArray⟩ ⟨b.toArray⟩ w).mono ?_
  rintro e w' ⟨rfl, rfl⟩
  exact ⟨rfl, RowKit.Below.refl _ _⟩
theorem isNaN (a : Int) : ACalls Tryz.prog 107 [.one (.int .i64 a)] (.x (.one (.bool false))) := by
  refine ACalls.of mixed (fn := Tryz.f107) (by kernel_rfl) (by kernel_rfl) rfl (by kernel_rfl) (by simp [Tryz.f107]) (fun hok => ?_)
  simp -implicitDefEqProofs
theorem cmp_Compare (a b : Int) : ACalls Tryz.prog 55 [.one (.int .i64 a), .one (.int .i64 b)] (.x (.one (.int .i64 (cmpI a b)))) := by
  refine ACalls.of mixed (fn := Tryz.f55) (by kernel_rfl) (by kernel_rfl) rfl (by kernel_rfl) (by simp [Tryz.f55]) (fun hok => ?_)
  simp -implicitDefEqProofs
  refine ACallK.of (isNaN _) ?_
  simp -implicitDefEqProofs
  refine ACallK.of (isNaN _) ?_
  simp -implicitDefEqProofs
  refine ⟨fun h => ?_, fun h => ⟨fun h2 => ?_, fun h2 => ?_⟩⟩ <;> unfold cmpI
  · rw [if_pos h]
  · rw [if_neg (by omega), if_pos h2]
  · rw [if_neg (by omega), if_neg (by omega)]
end Go.Proofs.YtklnopamfncfgaaGreatDoor
namespace Go.Proofs.YtklnopamfncfgaaGreatDoor
open Go Go.Ab
set_option linter.unusedSectionVars false
variable [Amb]
set_option maxRecDepth 100000
set_option maxHeartbeats 4000000
theorem trimS_nil (l cs : List UInt8) : (Lib.trimS l cs = []) ↔ l.all (cs.contains ·) = true := by
  have dw : ∀ (l : List UInt8), l.dropWhile (cs.contains ·) = [] ↔ l.all (cs.contains ·) = true := by
    intro l
    induction l with
    | nil => simp
    | cons a l ih =>
      by_cases h : cs.contains a = true
      · rw [List.dropWhile_cons_of_pos h, ih]
        simp only [List.all_cons, h, Bool.true_and]
      · rw [List.dropWhile_cons_of_neg h]
        simp only [List.all_cons, h, Bool.false_and]
        simp
  have rv : ∀ (l : List UInt8), l.reverse.all (cs.contains ·) = l.all (cs.contains ·) := by
    intro l; rw [List.all_reverse]
  unfold Lib.trimS Lib.trimLeftS Lib.trimRightS
  rw [dw, rv]
  have : ∀ (m : List UInt8), (m.dropWhile (cs.contains ·)).all (cs.contains ·) = m.all (cs.contains ·) := by
    intro m
    induction m with
    | nil => rfl
    | cons a m ih =>
      by_cases h : cs.contains a = true
      · rw [List.dropWhile_cons_of_pos h, ih]
        simp only [List.all_cons, h, Bool.true_and]
      · rw [List.dropWhile_cons_of_neg h]
  rw [this, rv]
theorem trimS_le (l cs : List UInt8) : (Lib.trimS l cs).length ≤ l.length := by
  have dw : ∀ (m : List UInt8), (m.dropWhile (cs.contains ·)).length ≤ m.length := fun m => (List.dropWhile_sublist _).length_le
  unfold Lib.trimS Lib.trimLeftS Lib.trimRightS
  have h1 := dw (List.dropWhile (fun x => cs.contains x) l.reverse).reverse
  have h2 := dw l.reverse
  simp only [List.length_reverse] at h1 h2
  omega
theorem strings_Trim (l cs : List UInt8) (h : cs.all (fun b => decide (b.toNat < 128)) = true) (h2 : cs.length < 1000) : ACalls Tryz.prog 71 [.one (.str l), .one (.str cs)] (.x (.one (.str (Lib.trimS l cs)))) := by
  by_cases hl : l.length ≤ maxLen
  · refine ACalls.ofKit [.string ⟨l.toArray⟩, .string ⟨cs.toArray⟩] _ (callable_of Tryz.f71 (by kernel_rfl) (by kernel_rfl) rfl) rfl (fun _ _ => repR_str _ (Nat.le_trans (trimS_le l cs) hl)) (fun hok w => ?_)
    have hm : maxLen ≤ 9223372036854775807 := by decide
    exact Any.strings_Trim_laid layn160 (by kernel_rfl) ⟨l.toArray⟩ ⟨cs.toArray⟩ w (by simp only [ByteArray.size, List.size_toArray]; omega) (by simp only [ByteArray.size, List.size_toArray]; omega) (Go.Proofs.ascii_of_all h)
  · refine ⟨callable_of Tryz.f71 (by kernel_rfl) (by kernel_rfl) rfl, fun w S vs hS ha => ?_⟩
    exact absurd (by simpa [XV.ok, CV.ok] using okAll_of ha _ (List.mem_cons_self)) hl
end Go.Proofs.YtklnopamfncfgaaGreatDoor
namespace Go.Proofs.YtklnopamfncfgaaGreatDoor
open Go Go.Ab
set_option linter.unusedSectionVars false
variable [Amb]
set_option maxRecDepth 100000
set_option maxHeartbeats 4000000
structure Entry where
  key : List UInt8
  time : Int
  status : Int
  type : List UInt8
  digest : List UInt8
  file : List UInt8
  lo : Int
  hi : Int
  same : Bool
  deriving DecidableEq
def Entry.row (e : Entry) : List CV := [.str e.key, .int .i64 e.time, .int .i64 e.status, .str e.type, .str e.digest, .str e.file, .int .i64 e.lo, .int .i64 e.hi, .bool e.same]
def intRow (n : Int) : List CV := [.int .i64 n]
def firstNZ : List Int → Int
  | [] => 0
  | a :: r => if a = 0 then firstNZ r else a
theorem firstNZ_at : ∀ {l : List Int} {i : Nat}, (l.take i).all (· == 0) = true → (h : i < l.length) → l[i] ≠ 0 → firstNZ l = l[i]
  | a :: r, 0, _, _, hn => by simp [firstNZ] at hn ⊢; intro h; exact absurd h hn
  | a :: r, i + 1, hp, h, hn => by
    simp only [List.take_succ_cons, List.all_cons, Bool.and_eq_true, beq_iff_eq] at hp
    simp only [firstNZ, hp.1, if_true, List.getElem_cons_succ]
    exact firstNZ_at hp.2 (by simpa using h) (by simpa using hn)
theorem firstNZ_all : ∀ {l : List Int}, l.all (· == 0) = true → firstNZ l = 0
  | [], _ => rfl
  | a :: r, hp => by
    simp only [List.all_cons, Bool.and_eq_true, beq_iff_eq] at hp
    simp only [firstNZ, hp.1, if_true]
    exact firstNZ_all hp.2
theorem cmp_Or (l : List Int) : ACalls Tryz.prog 53 [.one (.list 1 (l.map intRow))] (.x (.one (.int .i64 (firstNZ l)))) := by
  refine ACalls.of mixed (fn := Tryz.f53) (by kernel_rfl) (by kernel_rfl) rfl (by kernel_rfl) (by simp [Tryz.f53]) (fun hok => ?_)
  have hl : l.length ≤ maxLen := by have := hok _ List.mem_cons_self; simp [XV.ok, CV.ok] at this; exact this.1
  simp -implicitDefEqProofs +contextual [-Bool.and_eq_false_imp, Bool.and_eq_false_iff]
  refine ALoopS.of Nat (fun i => [(3, .x (.one (.int .i64 0))), (6, .x (.one (.list 1 (l.map intRow)))), (7, .x (.one (.int .i64 l.length))), (8, .x (.one (.int .i64 i)))]) (Upto (· == 0) l) (fun i => l.length - i) 0 Upto.zero ?_ ?_
  · simp
  intro i hi
  by_cases hlt : i < l.length
  · simp -implicitDefEqProofs +contextual [-Bool.and_eq_false_imp, Bool.and_eq_false_iff, hlt, intRow]
    refine ⟨fun h => firstNZ_at hi.2 hlt h, fun h => Again.of (i + 1) (hi.step hlt (by simp [h])) (by omega) ?_⟩
    simp
    exact wrapS _ (by unfold maxLen at hl; omega)
  · simp -implicitDefEqProofs +contextual [-Bool.and_eq_false_imp, Bool.and_eq_false_iff, hlt]
    exact firstNZ_all (hi.done hlt)
end Go.Proofs.YtklnopamfncfgaaGreatDoor
namespace Go.Proofs.YtklnopamfncfgaaGreatDoor
open Go Go.Ab
set_option linter.unusedSectionVars false
variable [Amb]
set_option maxRecDepth 100000
set_option maxHeartbeats 4000000
end Go.Proofs.YtklnopamfncfgaaGreatDoor
namespace Go.Proofs.YtklnopamfncfgaaGreatDoor
open Go Go.Ab
set_option linter.unusedSectionVars false
variable [Amb]
set_option maxRecDepth 100000
set_option maxHeartbeats 4000000
section
variable (e : Entry)
@[simp] theorem row_length : e.row.length = 9 := rfl
@[simp] theorem row_take : List.take 9 e.row = e.row := rfl
@[simp] theorem row_acut (p : Prop) : acut .one p e.row = (p, .x (.one (.str e.key))) := rfl
@[simp] theorem row_acutZ (z : Option XV) (p : Prop) : acutZ .one z p e.row = (p, .x (.one (.str e.key))) := rfl
@[simp] theorem row_drop0 : List.drop 0 e.row = [.str e.key, .int .i64 e.time, .int .i64 e.status, .str e.type, .str e.digest, .str e.file, .int .i64 e.lo, .int .i64 e.hi, .bool e.same] := rfl
@[simp] theorem row_drop1 : List.drop 1 e.row = [.int .i64 e.time, .int .i64 e.status, .str e.type, .str e.digest, .str e.file, .int .i64 e.lo, .int .i64 e.hi, .bool e.same] := rfl
@[simp] theorem row_tail : e.row.tail = [.int .i64 e.time, .int .i64 e.status, .str e.type, .str e.digest, .str e.file, .int .i64 e.lo, .int .i64 e.hi, .bool e.same] := rfl
@[simp] theorem row_drop2 : List.drop 2 e.row = [.int .i64 e.status, .str e.type, .str e.digest, .str e.file, .int .i64 e.lo, .int .i64 e.hi, .bool e.same] := rfl
@[simp] theorem row_drop3 : List.drop 3 e.row = [.str e.type, .str e.digest, .str e.file, .int .i64 e.lo, .int .i64 e.hi, .bool e.same] := rfl
@[simp] theorem row_drop4 : List.drop 4 e.row = [.str e.digest, .str e.file, .int .i64 e.lo, .int .i64 e.hi, .bool e.same] := rfl
@[simp] theorem row_drop5 : List.drop 5 e.row = [.str e.file, .int .i64 e.lo, .int .i64 e.hi, .bool e.same] := rfl
@[simp] theorem row_drop6 : List.drop 6 e.row = [.int .i64 e.lo, .int .i64 e.hi, .bool e.same] := rfl
@[simp] theorem row_drop7 : List.drop 7 e.row = [.int .i64 e.hi, .bool e.same] := rfl
@[simp] theorem row_drop8 : List.drop 8 e.row = [.bool e.same] := rfl
end
@[simp] theorem cutAt_full {α : Type} (l : List α) (a : Int) : cutAt l a (l.length : Int) = l.drop a.toNat := by simp [cutAt]
@[simp] theorem cutAt_zero {α : Type} (l : List α) (b : Int) : cutAt l 0 b = l.take b.toNat := by simp [cutAt]
abbrev entries (l : List Entry) : XV := .one (.list 9 (l.map Entry.row))
def hasPre (s p : List UInt8) : Bool := p.isPrefixOf s
theorem stringslite_HasPrefix (s p : List UInt8) : ACalls Tryz.prog 125 [.one (.str s), .one (.str p)] (.x (.one (.bool (hasPre s p)))) := by
  refine ACalls.of mixed (fn := Tryz.f125) (by kernel_rfl) (by kernel_rfl) rfl (by kernel_rfl) (by simp [Tryz.f125]) (fun hok => ?_)
  simp -implicitDefEqProofs +contextual [-Bool.and_eq_false_imp, Bool.and_eq_false_iff]
  have h : (p.isPrefixOf s = true) ↔ p = s.take p.length := by rw [List.isPrefixOf_iff_prefix, List.prefix_iff_eq_take]
  unfold hasPre
  rw [Bool.eq_iff_iff, h]
  simp
  constructor
  · intro e
    refine ⟨?_, e.symm⟩
    have := congrArg List.length e
    rw [List.length_take] at this
    omega
  · intro e; exact e.2.symm
theorem strings_HasPrefix (s p : List UInt8) : ACalls Tryz.prog 92 [.one (.str s), .one (.str p)] (.x (.one (.bool (hasPre s p)))) := by
  refine ACalls.of mixed (fn := Tryz.f92) (by kernel_rfl) (by kernel_rfl) rfl (by kernel_rfl) (by simp [Tryz.f92]) (fun hok => ?_)
  simp -implicitDefEqProofs +contextual [-Bool.and_eq_false_imp, Bool.and_eq_false_iff]
  refine ACallK.of (stringslite_HasPrefix _ _) ?_
  simp -implicitDefEqProofs +contextual [-Bool.and_eq_false_imp, Bool.and_eq_false_iff]
end Go.Proofs.YtklnopamfncfgaaGreatDoor
namespace Go.Proofs.YtklnopamfncfgaaGreatDoor
open Go Go.Ab
set_option linter.unusedSectionVars false
variable [Amb]
set_option maxRecDepth 100000
set_option maxHeartbeats 4000000
end Go.Proofs.YtklnopamfncfgaaGreatDoor
namespace Go.Proofs.YtklnopamfncfgaaGreatDoor
open Go Go.Ab
set_option linter.unusedSectionVars false
variable [Amb]
theorem ltB_irrefl : ∀ a : List UInt8, ltB a a = false
  | [] => rfl
  | a :: x => by
    have ih := ltB_irrefl x
    unfold ltB at ih ⊢
    simp [Op.bytesLess, ih]
theorem ltB_trans : ∀ {a b c : List UInt8}, ltB a b = true → ltB b c = true → ltB a c = true
  | a, b, [], _, h2 => by unfold ltB at h2; cases b <;> simp [Op.bytesLess] at h2
  | a, [], c :: z, h1, _ => by unfold ltB at h1; cases a <;> simp [Op.bytesLess] at h1
  | [], b :: y, c :: z, _, _ => by simp [ltB, Op.bytesLess]
  | a :: x, b :: y, c :: z, h1, h2 => by
    have ih := @ltB_trans x y z
    unfold ltB at h1 h2 ih ⊢
    simp only [Op.bytesLess, Bool.or_eq_true, decide_eq_true_eq, Bool.and_eq_true, beq_iff_eq] at h1 h2 ⊢
    rcases h1 with h1 | ⟨rfl, h1⟩
    · rcases h2 with h2 | ⟨rfl, h2⟩
      · exact .inl (UInt8.lt_trans h1 h2)
      · exact .inl h1
    · rcases h2 with h2 | ⟨rfl, h2⟩
      · exact .inl h2
      · exact .inr ⟨rfl, ih h1 h2⟩
theorem ltB_total : ∀ {a b : List UInt8}, ltB a b = false → ltB b a = false → a = b
  | [], [], _, _ => rfl
  | [], b :: y, h, _ => by simp [ltB, Op.bytesLess] at h
  | a :: x, [], _, h => by simp [ltB, Op.bytesLess] at h
  | a :: x, b :: y, h1, h2 => by
    have ih := @ltB_total x y
    unfold ltB at h1 h2 ih
    simp only [Op.bytesLess, Bool.or_eq_false_iff, decide_eq_false_iff_not] at h1 h2
    have hab : a = b := UInt8.le_antisymm (UInt8.not_lt.1 h2.1) (UInt8.not_lt.1 h1.1)
    subst hab
    simp only [BEq.rfl, Bool.true_and] at h1 h2
    rw [ih h1.2 h2.2]
theorem ltB_asymm {a b : List UInt8} (h : ltB a b = true) : ltB b a = false := by
  cases hb : ltB b a with
  | false => rfl
  | true => have := ltB_trans h hb; rw [ltB_irrefl] at this; cases this
theorem cmpB_neg {a b : List UInt8} : Lib.compareBytes a b < 0 ↔ ltB a b = true := by
  rw [cmpB_eq]
  split
  · simp [*]
  · rename_i h
    split <;> simp [h]
theorem cmpB_zero {a b : List UInt8} : Lib.compareBytes a b = 0 ↔ a = b := by
  rw [cmpB_eq]
  split
  · rename_i h
    simp
    rintro rfl
    rw [ltB_irrefl] at h; cases h
  · split <;> simp [*]
theorem cmpB_pos {a b : List UInt8} : 0 < Lib.compareBytes a b ↔ ltB b a = true := by
  rw [cmpB_eq]
  split
  · rename_i h; simp [ltB_asymm h]
  · rename_i h
    split
    · rename_i h2; subst h2; simp [ltB_irrefl]
    · rename_i h2
      simp
      cases hb : ltB b a with
      | true => rfl
      | false => exact absurd (ltB_total (by simpa using h) hb) h2
end Go.Proofs.YtklnopamfncfgaaGreatDoor
namespace Go.Proofs.YtklnopamfncfgaaGreatDoor
open Go Go.Ab
set_option linter.unusedSectionVars false
variable [Amb]
set_option maxRecDepth 100000
set_option maxHeartbeats 4000000
end Go.Proofs.YtklnopamfncfgaaGreatDoor
namespace Go.Proofs.YtklnopamfncfgaaGreatDoor
open Go Go.Ab
set_option linter.unusedSectionVars false
variable [Amb]
set_option maxRecDepth 100000
set_option maxHeartbeats 4000000
structure Life where
  key : List UInt8
  many : Int
  other : Int
  first : Int
  last : Int
  deriving DecidableEq
def Life.row (x : Life) : List CV := [.str x.key, .int .i64 x.many, .int .i64 x.other, .int .i64 x.first, .int .i64 x.last]
abbrev lives (l : List Life) : XV := .one (.list 5 (l.map Life.row))
end Go.Proofs.YtklnopamfncfgaaGreatDoor
namespace Go.Proofs.YtklnopamfncfgaaGreatDoor
open Go Go.Ab
set_option linter.unusedSectionVars false
variable [Amb]
set_option maxRecDepth 100000
theorem own : ownKnob Tryz.prog.godebug = none := by kernel_rfl
theorem laidOut : laidOutB Tryz.prog = true := by kernel_rfl
theorem intFits {x : XV} (h : KT.fitsX (.i .i64) x) : ∃ n, x = .one (.int .i64 n) := by
  cases x with
  | agg cs => exact h.elim
  | one c =>
    obtain ⟨l, hx, _⟩ := h
    injection hx with hx
    exact ⟨l, by rw [hx]⟩
end Go.Proofs.YtklnopamfncfgaaGreatDoor
namespace Go.Proofs.YtklnopamfncfgaaGreatDoor
open Go
def befC (c : UInt8) (s : List UInt8) : List UInt8 := s.takeWhile (· != c)
def aftC (c : UInt8) (s : List UInt8) : List UInt8 := s.drop ((befC c s).length + 1)
theorem befC_hit (c : UInt8) (r : List UInt8) : befC c (c :: r) = [] := by simp [befC]
theorem befC_miss {b c : UInt8} (h : b ≠ c) (r : List UInt8) : befC c (b :: r) = b :: befC c r := by simp [befC, h]
theorem aftC_hit (c : UInt8) (r : List UInt8) : aftC c (c :: r) = r := by simp [aftC, befC_hit]
theorem aftC_miss {b c : UInt8} (h : b ≠ c) (r : List UInt8) : aftC c (b :: r) = aftC c r := by simp [aftC, befC_miss h]
theorem befC_all {c : UInt8} {s : List UInt8} (h : c ∉ s) : befC c s = s := by
  induction s with
  | nil => rfl
  | cons b r ih =>
    simp only [List.mem_cons, not_or] at h
    rw [befC_miss (fun e => h.1 e.symm), ih h.2]
theorem befC_aft {c : UInt8} {s : List UInt8} (h : c ∈ s) : s = befC c s ++ c :: aftC c s := by
  induction s with
  | nil => cases h
  | cons b r ih =>
    by_cases e : b = c
    · subst e; rw [befC_hit, aftC_hit]; rfl
    · rw [befC_miss e, aftC_miss e]
      have := ih ((List.mem_cons.1 h).resolve_left (fun x => e x.symm))
      rw [List.cons_append, ← this]
theorem befC_append {c : UInt8} {a r : List UInt8} (h : c ∉ a) : befC c (a ++ c :: r) = a := by
  induction a with
  | nil => exact befC_hit c r
  | cons b t ih =>
    simp only [List.mem_cons, not_or] at h
    rw [List.cons_append, befC_miss (fun e => h.1 e.symm), ih h.2]
theorem aftC_append {c : UInt8} {a r : List UInt8} (h : c ∉ a) : aftC c (a ++ c :: r) = r := by
  unfold aftC
  rw [befC_append h]
  simp
theorem index_one (c : UInt8) : ∀ s : List UInt8, Lib.index s [c] = if c ∈ s then ((befC c s).length : Int) else -1
  | [] => by simp [Lib.index]
  | b :: r => by
    have ih := index_one c r
    unfold Lib.index
    by_cases h : b = c
    · subst h; simp [List.isPrefixOf, befC_hit]
    · have hp : ([c].isPrefixOf (b :: r)) = false := by simp [List.isPrefixOf]; exact fun e => h e.symm
      rw [hp, ih, befC_miss h]
      by_cases hm : c ∈ r
      · have hne : ¬ (((befC c r).length : Int) = -1) := by omega
        simp [hm, hne]
      · have : c ∉ b :: r := by simp [hm]; exact fun e => h e.symm
        simp [hm, this]
def splitC (c : UInt8) : List UInt8 → List (List UInt8)
  | [] => [[]]
  | b :: r => if b = c then [] :: splitC c r else match splitC c r with
    | h :: t => (b :: h) :: t
    | [] => [[b]]
theorem splitC_ne (c : UInt8) (s : List UInt8) : splitC c s ≠ [] := by
  cases s with
  | nil => simp [splitC]
  | cons b r =>
    unfold splitC
    split
    · simp
    · split <;> simp
theorem splitC_hit {c : UInt8} {s : List UInt8} (h : c ∈ s) : splitC c s = befC c s :: splitC c (aftC c s) := by
  induction s with
  | nil => cases h
  | cons b r ih =>
    by_cases e : b = c
    · subst e; rw [befC_hit, aftC_hit]; simp [splitC]
    · rw [befC_miss e, aftC_miss e, splitC, if_neg e, ih ((List.mem_cons.1 h).resolve_left (fun x => e x.symm))]
theorem splitC_miss {c : UInt8} {s : List UInt8} (h : c ∉ s) : splitC c s = [s] := by
  induction s with
  | nil => rfl
  | cons b r ih =>
    simp only [List.mem_cons, not_or] at h
    rw [splitC, if_neg (fun e => h.1 e.symm), ih h.2]
theorem splitC_cons {c : UInt8} {a r : List UInt8} (h : c ∉ a) : splitC c (a ++ c :: r) = a :: splitC c r := by
  rw [splitC_hit (by simp), befC_append h, aftC_append h]
theorem splitK_eq (c : UInt8) : ∀ (k : Nat) (s : List UInt8), s.count c ≤ k → Lib.splitK [c] 0 k s = splitC c s
  | 0, s, h => by
    have : c ∉ s := fun hm => by have := List.count_pos_iff.2 hm; omega
    rw [splitC_miss this]; rfl
  | k + 1, s, h => by
    unfold Lib.splitK
    rw [index_one]
    by_cases hm : c ∈ s
    · have hne : ¬ (((befC c s).length : Int) = -1) := by omega
      have e := befC_aft hm
      have hc : (aftC c s).count c ≤ k := by
        have := congrArg (List.count c) e
        rw [List.count_append, List.count_cons_self] at this
        omega
      rw [if_pos hm, splitC_hit hm, ← splitK_eq c k _ hc]
      have ht : s.take (befC c s).length = befC c s := by
        have := congrArg (List.take (befC c s).length) e
        rw [List.take_left' rfl] at this
        exact this
      simp [hne, ht, aftC]
    · rw [if_neg hm, splitC_miss hm]; rfl
theorem splitC_parts {c : UInt8} : ∀ {s : List UInt8}, ∀ x ∈ splitC c s, c ∉ x
  | [], x, hx => by simp [splitC] at hx; subst hx; simp
  | b :: r, x, hx => by
    have ih := splitC_parts (c := c) (s := r)
    rw [splitC] at hx
    split at hx
    · rcases List.mem_cons.1 hx with rfl | hx
      · simp
      · exact ih x hx
    · rename_i hb
      split at hx
      · rename_i h t e
        rw [e] at ih
        rcases List.mem_cons.1 hx with rfl | hx
        · simp only [List.mem_cons, not_or]
          exact ⟨fun e => hb e.symm, ih h (by simp)⟩
        · exact ih x (by simp [hx])
      · simp at hx; subst hx; simp; exact fun e => hb e.symm
def joinC (c : UInt8) : List (List UInt8) → List UInt8
  | [] => []
  | [a] => a
  | a :: b :: r => a ++ c :: joinC c (b :: r)
theorem join_split (c : UInt8) (s : List UInt8) : joinC c (splitC c s) = s := by
  induction s with
  | nil => rfl
  | cons b r ih =>
    rw [splitC]
    cases hs : splitC c r with
    | nil => exact absurd hs (splitC_ne c r)
    | cons h t =>
      rw [hs] at ih
      split
      · rename_i e
        subst e
        simp [joinC, ih]
      · cases t with
        | nil => simp [joinC] at ih ⊢; exact ih
        | cons h2 t2 => simp [joinC] at ih ⊢; exact ih
theorem splitC_count (c : UInt8) (s : List UInt8) : (splitC c s).length ≤ s.length + 1 := by
  induction s with
  | nil => simp [splitC]
  | cons b r ih =>
    rw [splitC]
    split
    · simpa using ih
    · split
      · rename_i e; rw [e] at ih; simpa using Nat.le_succ_of_le ih
      · simp
end Go.Proofs.YtklnopamfncfgaaGreatDoor
namespace Go.Proofs.YtklnopamfncfgaaGreatDoor
open Go
end Go.Proofs.YtklnopamfncfgaaGreatDoor
namespace Go.Proofs.YtklnopamfncfgaaGreatDoor
open Go
def isDig (b : UInt8) : Bool := decide (48 ≤ b.toNat) && decide (b.toNat ≤ 57)
def decV (s : List UInt8) : Nat := s.foldl (fun a b => a * 10 + (b.toNat - 48)) 0
def lead0 (s : List UInt8) : Bool := decide (s.head? = some 48) && decide (s.length ≠ 1)
theorem decV_snoc (s : List UInt8) (b : UInt8) : decV (s ++ [b]) = decV s * 10 + (b.toNat - 48) := by simp [decV, List.foldl_append]
theorem snoc_ex {α : Type} (l : List α) (h : l ≠ []) : ∃ t b, l = t ++ [b] := ⟨l.dropLast, l.getLast h, (List.dropLast_concat_getLast h).symm⟩
theorem snoc_ind {α : Type} {p : List α → Prop} (h0 : p []) (h1 : ∀ t b, p t → p (t ++ [b])) (l : List α) : p l := by
  generalize hn : l.length = n
  induction n generalizing l with
  | zero => rw [List.eq_nil_of_length_eq_zero hn]; exact h0
  | succ n ih =>
    obtain ⟨t, b, rfl⟩ := snoc_ex l (by rintro rfl; simp at hn)
    exact h1 t b (ih t (by simpa using hn))
theorem decFrom_eq : ∀ (s : List UInt8) (a : Nat), s.all isDig = true → Lib.decFrom a s = some (s.foldl (fun a b => a * 10 + (b.toNat - 48)) a)
  | [], a, _ => rfl
  | b :: r, a, h => by
    simp only [List.all_cons, Bool.and_eq_true, isDig, decide_eq_true_eq] at h
    have hd : Lib.digitVal b = some (b.toNat - 48) := by unfold Lib.digitVal; rw [if_pos ⟨h.1.1, h.1.2⟩]
    unfold Lib.decFrom
    rw [hd]
    exact decFrom_eq r _ h.2
theorem atoi_eq {s : List UInt8} (h : s.all isDig = true) (h0 : s ≠ []) : Lib.atoi s = some (decV s : Int) := by
  cases s with
  | nil => exact absurd rfl h0
  | cons b r =>
    have hb := h
    simp only [List.all_cons, Bool.and_eq_true, isDig, decide_eq_true_eq] at hb
    have h45 : (b == 45) = false := by
      simp only [beq_eq_false_iff_ne, ne_eq]; rintro rfl; exact absurd hb.1.1 (by decide)
    have h43 : (b == 43) = false := by
      simp only [beq_eq_false_iff_ne, ne_eq]; rintro rfl; exact absurd hb.1.1 (by decide)
    unfold Lib.atoi
    dsimp only
    rw [h45, h43]
    simp only [Bool.false_eq_true, if_false, Lib.decNat, List.isEmpty_cons]
    rw [decFrom_eq _ 0 h]
    rfl
theorem dig_of {b : UInt8} (h : isDig b = true) : UInt8.ofNat (48 + (b.toNat - 48)) = b ∧ b.toNat - 48 < 10 := by
  simp only [isDig, Bool.and_eq_true, decide_eq_true_eq] at h
  refine ⟨?_, by omega⟩
  rw [show 48 + (b.toNat - 48) = b.toNat by omega]
  simp
theorem decDigits_decV (s : List UInt8) : s.all isDig = true → s ≠ [] → lead0 s = false → Lib.decDigits (decV s) = s := by
  induction s using snoc_ind with
  | h0 => intro _ h; exact absurd rfl h
  | h1 t b ih =>
    intro hall _ hl
    simp only [List.all_append, List.all_cons, List.all_nil, Bool.and_true, Bool.and_eq_true] at hall
    obtain ⟨hb1, hb2⟩ := dig_of hall.2
    rw [decV_snoc]
    cases t with
    | nil =>
      simp only [decV, List.foldl_nil, Nat.zero_mul, Nat.zero_add, List.nil_append]
      rw [Lib.decDigits, dif_pos hb2, hb1]
    | cons a r =>
      have hne : a ≠ 48 := by
        rintro rfl
        simp [lead0] at hl
      have iht := ih hall.1 (by simp) (by simp [lead0, hne])
      have hpos : 0 < decV (a :: r) := by
        rcases Nat.eq_zero_or_pos (decV (a :: r)) with h0 | h0
        · rw [h0] at iht
          have : Lib.decDigits 0 = [48] := by rw [Lib.decDigits]; rfl
          rw [this] at iht
          injection iht with e1 _
          exact absurd e1.symm hne
        · exact h0
      rw [Lib.decDigits, dif_neg (by omega), show (decV (a :: r) * 10 + (b.toNat - 48)) / 10 = decV (a :: r) by omega, show (decV (a :: r) * 10 + (b.toNat - 48)) % 10 = b.toNat - 48 by omega, iht, hb1]
theorem decV_lt : ∀ (s : List UInt8), s.all isDig = true → decV s < 10 ^ s.length := by
  intro s
  induction s using snoc_ind with
  | h0 => intro _; simp [decV]
  | h1 t b ih =>
    intro h
    simp only [List.all_append, List.all_cons, List.all_nil, Bool.and_true, Bool.and_eq_true] at h
    have h1 := ih h.1
    have h2 := (dig_of h.2).2
    rw [decV_snoc, List.length_append, List.length_singleton, Nat.pow_succ]
    omega
end Go.Proofs.YtklnopamfncfgaaGreatDoor
namespace Go.Proofs.YtklnopamfncfgaaGreatDoor
open Go Go.Ab
def letB (c : UInt8) : Bool := (decide (97 ≤ c.toNat) && decide (c.toNat ≤ 122)) || (decide (65 ≤ c.toNat) && decide (c.toNat ≤ 90))
def hexC (c : UInt8) : Bool := isDig c || ((decide (97 ≤ c.toNat) && decide (c.toNat ≤ 102)) || (decide (65 ≤ c.toNat) && decide (c.toNat ≤ 70)))
def smallC (c : UInt8) : UInt8 := if 65 ≤ c.toNat ∧ c.toNat ≤ 90 then c + 32 else c
def smallL (s : List UInt8) : List UInt8 := s.map smallC
def labC (c : UInt8) : Bool := letB c || (isDig c || decide (c = 45))
def hostC (c : UInt8) : Bool := labC c || decide (c = 46)
def labelB (s : List UInt8) : Bool := (decide (1 ≤ s.length) && decide (s.length ≤ 63)) && ((decide (s.head? ≠ some 45) && decide (s.getLast? ≠ some 45)) && s.all labC)
def hostB (s : List UInt8) : Bool := decide (s.length ≤ 253) && (splitC 46 s).all labelB
def portV (s : List UInt8) : Nat := if 1 ≤ s.length ∧ s.length ≤ 5 ∧ s.all isDig = true ∧ decV s ≤ 65535 then decV s else 0
def badCs : List UInt8 := [34, 35, 60, 62, 92, 94, 123, 124, 125, 96]
def rowC (c : UInt8) : Bool := (decide (33 ≤ c.toNat) && decide (c.toNat ≤ 126)) && !badCs.contains c
def hex2 : List UInt8 → Bool
  | a :: b :: _ => hexC a && hexC b
  | _ => false
def rowEndL (w : List UInt8) : List UInt8 → Nat × Bool
  | [] => (0, true)
  | c :: r => if w.contains c = true then (0, true) else if rowC c = false ∨ (c = 37 ∧ hex2 r = false) then (0, false) else ((rowEndL w r).1 + 1, (rowEndL w r).2)
def rowB (w s : List UInt8) : Bool := (rowEndL w s).2 && decide ((rowEndL w s).1 = s.length)
structure Addr where
  scheme : List UInt8
  host : List UInt8
  port : List UInt8
  path : List UInt8
  query : List UInt8
  hasQ : Bool
  frag : List UInt8
  hasF : Bool
  deriving DecidableEq
def noAddr : Addr := ⟨[], [], [], [], [], false, [], false⟩
def Addr.row (a : Addr) : List CV := [.str a.scheme, .str a.host, .str a.port, .str a.path, .str a.query, .bool a.hasQ, .str a.frag, .bool a.hasF]
def queryL (a : Addr) : List UInt8 := if a.hasQ = true then 63 :: a.query else []
def fragL (a : Addr) : List UInt8 := if a.hasF = true then 35 :: a.frag else []
def behindL (a : Addr) : List UInt8 := a.path ++ queryL a ++ fragL a
def portL (a : Addr) : List UInt8 := if a.port = [] then [] else 58 :: a.port
def writeL (a : Addr) : List UInt8 := a.scheme ++ [58, 47, 47] ++ a.host ++ portL a ++ behindL a
def httpL : List UInt8 := [104, 116, 116, 112]
def httpsL : List UInt8 := [104, 116, 116, 112, 115]
def pathB (p : List UInt8) : Bool := decide (p = []) || (decide (p.head? = some 47) && rowB [63] p)
def schemeB (s : List UInt8) : Bool := decide (smallL s = httpL) || decide (smallL s = httpsL)
def addrF (a : Addr) : Int :=
  if schemeB a.scheme = false ∨ hostB a.host = false ∨ (a.port ≠ [] ∧ portV a.port = 0) then 10
  else if pathB a.path = false ∨ rowB [] a.query = false ∨ rowB [] a.frag = false then 10
  else if (a.query ≠ [] ∧ a.hasQ = false) ∨ (a.frag ≠ [] ∧ a.hasF = false) then 3
  else if 2000 < (writeL a).length then 2 else 0
def comL : List UInt8 → List UInt8 → Nat
  | w :: ws, t :: ts => if smallC t = w then comL ws ts + 1 else 0
  | _, _ => 0
def schemeR (t : List UInt8) : Except Nat Nat :=
  if comL (httpL ++ [58, 47, 47]) t = 7 then .ok 4 else if comL (httpsL ++ [58, 47, 47]) t = 8 then .ok 5 else .error (max (comL (httpL ++ [58, 47, 47]) t) (comL (httpsL ++ [58, 47, 47]) t))
def backC (c : UInt8) : Bool := decide (c = 47) || (decide (c = 63) || decide (c = 35))
def endB : List UInt8 → Bool
  | [] => true
  | c :: _ => backC c
def placeR (s : List UInt8) : Bool × Nat × List UInt8 × List UInt8 :=
  let h := s.takeWhile hostC
  let p := (s.drop (h.length + 1)).takeWhile isDig
  if hostB h = false then (false, 0, h, [])
  else if (s.drop h.length).head? = some 58 then
    if portV p = 0 then (false, h.length + 1, h, p) else (endB (s.drop (h.length + 1 + p.length)), h.length + 1 + p.length, h, p)
  else (endB (s.drop h.length), h.length, h, [])
def tailR (c : UInt8) (w s : List UInt8) : Bool × Nat × List UInt8 × Bool :=
  if s.head? = some c then ((rowEndL w (s.drop 1)).2, (rowEndL w (s.drop 1)).1 + 1, (s.drop 1).take (rowEndL w (s.drop 1)).1, true) else (true, 0, [], false)
structure RestR where
  ok : Bool
  n : Nat
  path : List UInt8
  query : List UInt8
  hasQ : Bool
  frag : List UInt8
  hasF : Bool
def restR (s : List UInt8) : RestR :=
  let p := rowEndL [63, 35] s
  let q := tailR 63 [35] (s.drop p.1)
  let f := tailR 35 [] (s.drop (p.1 + q.2.1))
  if p.2 = false then ⟨false, p.1, s.take p.1, [], false, [], false⟩
  else if q.1 = false then ⟨false, p.1 + q.2.1, s.take p.1, q.2.2.1, q.2.2.2, [], false⟩
  else ⟨f.1, p.1 + q.2.1 + f.2.1, s.take p.1, q.2.2.1, q.2.2.2, f.2.2.1, f.2.2.2⟩
def readA (t : List UInt8) : Except Nat Addr :=
  match schemeR t with
  | .error k => .error k
  | .ok n =>
    let s := t.drop (n + 3)
    let p := placeR s
    let r := restR (s.drop p.2.1)
    if p.1 = false then .error (n + 3 + p.2.1)
    else if r.ok = false then .error (n + 3 + p.2.1 + r.n)
    else .ok ⟨t.take n, p.2.2.1, p.2.2.2, r.path, r.query, r.hasQ, r.frag, r.hasF⟩
def readAR (t : List UInt8) : Addr × Int × Int :=
  if 2000 < t.length then (noAddr, 0, 2) else match readA t with
  | .error k => (noAddr, k, 10)
  | .ok a => (a, 0, 0)
theorem u8_all {p : UInt8 → Prop} (h : ∀ n : Fin 256, p (UInt8.ofNat n.1)) (c : UInt8) : p c := by
  have := h ⟨c.toNat, c.toNat_lt⟩
  simpa using this
theorem hexC_row' : ∀ c : UInt8, hexC c = true → rowC c = true ∧ c ≠ 37 ∧ c ≠ 35 ∧ c ≠ 63 := u8_all (by decide +kernel)
theorem hexC_row {c : UInt8} (h : hexC c = true) : rowC c = true ∧ c ≠ 37 ∧ c ≠ 35 ∧ c ≠ 63 := hexC_row' c h
theorem small_58 : ∀ c : UInt8, smallC c = 58 → c = 58 := u8_all (by decide +kernel)
theorem small_47 : ∀ c : UInt8, smallC c = 47 → c = 47 := u8_all (by decide +kernel)
theorem rowEndL_le (w : List UInt8) : ∀ s, (rowEndL w s).1 ≤ s.length
  | [] => Nat.le_refl _
  | c :: r => by
    have := rowEndL_le w r
    unfold rowEndL
    split
    · simp
    · split
      · simp
      · simp only [List.length_cons]; omega
theorem rowEndL_cons {w : List UInt8} {c : UInt8} {r : List UInt8} (h1 : w.contains c = false) (h2 : rowC c = true) (h3 : c = 37 → hex2 r = true) : rowEndL w (c :: r) = ((rowEndL w r).1 + 1, (rowEndL w r).2) := by
  rw [rowEndL, if_neg (by rw [h1]; decide), if_neg]
  rintro (h | ⟨h, h'⟩)
  · rw [h2] at h; cases h
  · rw [h3 h] at h'; cases h'
theorem rowB_cons {w : List UInt8} {c : UInt8} {r : List UInt8} (h : rowB w (c :: r) = true) : w.contains c = false ∧ rowC c = true ∧ (c = 37 → hex2 r = true) ∧ rowB w r = true := by
  unfold rowB at h
  simp only [Bool.and_eq_true, decide_eq_true_eq] at h
  obtain ⟨h1, h2⟩ := h
  rw [rowEndL] at h1 h2
  split at h1
  · rename_i hc; rw [if_pos hc] at h2; simp at h2
  · rename_i hc
    rw [if_neg hc] at h2
    split at h1
    · cases h1
    · rename_i hd
      rw [if_neg hd] at h2
      simp only [List.length_cons, Nat.add_right_cancel_iff] at h2
      simp only [not_or, not_and, Bool.not_eq_false] at hd
      exact ⟨by simpa using hc, hd.1, hd.2, by unfold rowB; rw [show (rowEndL w r).2 = true from h1, h2]; simp⟩
theorem rowB_take {w : List UInt8} (hw : ∀ c, w.contains c = true → hexC c = false) (w' : List UInt8) (hs : ∀ c, w'.contains c = true → w.contains c = true) : ∀ s : List UInt8, (rowEndL w s).2 = true → rowB w' (s.take (rowEndL w s).1) = true
  | [], _ => rfl
  | c :: r, h => by
    have hx : ∀ c, hexC c = true → w.contains c = false := fun c hc => by
      cases hq : w.contains c with
      | false => rfl
      | true => rw [hw c hq] at hc; cases hc
    rw [rowEndL] at h ⊢
    split
    · simp [rowB, rowEndL]
    · rename_i h1
      rw [if_neg h1] at h
      split
      · rename_i h2; rw [if_pos h2] at h; cases h
      · rename_i h2
        rw [if_neg h2] at h
        simp only [not_or, not_and, Bool.not_eq_false] at h2
        have ih := rowB_take hw w' hs r h
        rw [List.take_succ_cons]
        have hc' : w'.contains c = false := by
          cases hq : w'.contains c with
          | false => rfl
          | true => exact absurd (hs c hq) h1
        have h3 : c = 37 → hex2 (r.take (rowEndL w r).1) = true := by
          intro e
          have hh := h2.2 e
          match r, hh with
          | a :: b :: r', hh =>
            simp only [hex2, Bool.and_eq_true] at hh
            obtain ⟨ha1, ha2, _⟩ := hexC_row hh.1
            obtain ⟨hb1, hb2, _⟩ := hexC_row hh.2
            rw [rowEndL_cons (hx a hh.1) ha1 (fun e => absurd e ha2), rowEndL_cons (hx b hh.2) hb1 (fun e => absurd e hb2)]
            simp [hex2, hh.1, hh.2]
        unfold rowB at ih ⊢
        rw [rowEndL_cons hc' h2.1 h3]
        simpa using ih
theorem joinC_all (c : UInt8) (p : UInt8 → Bool) (hc : p c = true) : ∀ w : List (List UInt8), (∀ x ∈ w, x.all p = true) → (joinC c w).all p = true
  | [], _ => rfl
  | [a], h => h a (by simp)
  | a :: b :: r, h => by
    have ih := joinC_all c p hc (b :: r) (fun x hx => h x (List.mem_cons_of_mem _ hx))
    rw [joinC, List.all_append, h a (by simp), List.all_cons, hc, ih]; rfl
theorem host_all {h : List UInt8} (hb : hostB h = true) : h.all hostC = true := by
  unfold hostB at hb
  simp only [Bool.and_eq_true] at hb
  rw [← join_split 46 h]
  refine joinC_all 46 hostC (by decide) _ (fun x hx => ?_)
  have := List.all_eq_true.1 hb.2 x hx
  simp only [labelB, Bool.and_eq_true] at this
  rw [List.all_eq_true]
  intro c hc
  unfold hostC
  rw [List.all_eq_true.1 this.2.2 c hc]; rfl
theorem portV_pos {s : List UInt8} (h : portV s ≠ 0) : 1 ≤ s.length ∧ s.length ≤ 5 ∧ s.all isDig = true ∧ decV s ≤ 65535 ∧ portV s = decV s := by
  unfold portV at h ⊢
  split at h
  · rename_i hc; exact ⟨hc.1, hc.2.1, hc.2.2.1, hc.2.2.2, by rw [if_pos hc]⟩
  · exact absurd rfl h
theorem takeWhile_stop {p : UInt8 → Bool} : ∀ (x y : List UInt8), x.all p = true → (∀ c, y.head? = some c → p c = false) → (x ++ y).takeWhile p = x
  | [], [], _, _ => rfl
  | [], c :: r, _, h => by simp [h c rfl]
  | a :: x, y, h, hy => by
    simp only [List.all_cons, Bool.and_eq_true] at h
    rw [List.cons_append, List.takeWhile_cons_of_pos h.1, takeWhile_stop x y h.2 hy]
theorem addrF_ok {a : Addr} (h : addrF a = 0) : schemeB a.scheme = true ∧ hostB a.host = true ∧ (a.port ≠ [] → portV a.port ≠ 0) ∧ pathB a.path = true ∧ rowB [] a.query = true ∧ rowB [] a.frag = true ∧
    (a.query ≠ [] → a.hasQ = true) ∧ (a.frag ≠ [] → a.hasF = true) ∧ (writeL a).length ≤ 2000 := by
  unfold addrF at h
  split at h
  · cases h
  rename_i h1
  split at h
  · cases h
  rename_i h2
  split at h
  · cases h
  rename_i h3
  split at h
  · cases h
  rename_i h4
  simp only [not_or, not_and, Bool.not_eq_false] at h1 h2 h3
  exact ⟨h1.1, h1.2.1, h1.2.2, h2.1, h2.2.1, h2.2.2, h3.1, h3.2, by omega⟩
end Go.Proofs.YtklnopamfncfgaaGreatDoor
namespace Go.Proofs.YtklnopamfncfgaaGreatDoor
open Go
set_option maxRecDepth 100000
def renMn171 : Go.Shelf.Ren := ⟨fun x => if x = 129 then 252 else if x = 171 then 69 else if x = 243 then 124 else if x = 246 then 187 else if x = 283 then 228 else if x = 284 then 229 else if x = 285 then 230 else if x = 286 then 231 else if x = 317 then 251 else if x = 318 then 253 else if x = 319 then 254 else if x = 320 then 255 else if x = 337 then 263 else if x = 338 then 264 else x, fun x => if x = 0 then 0 else if x = 2 then 2 else if x = 3 then 3 else if x = 4 then 4 else if x = 5 then 5 else if x = 9 then 9 else if x = 20 then 20 else if x = 37 then 46 else if x = 46 then 181 else if x = 51 then 206 else if x = 53 then 209 else if x = 171 then 213 else if x = 173 then 216 else if x = 212 then 230 else if x = 213 then 231 else if x = 232 then 252 else if x = 233 then 253 else x, fun x => if x = 17 then 3 else if x = 18 then 6 else if x = 19 then 7 else x⟩
theorem layMn171 : Go.Proofs.LaysM.n171 Tryz.prog renMn171 where
  i0 := by kernel_rfl
  i2 := by kernel_rfl
  i3 := by kernel_rfl
  i4 := by kernel_rfl
  i5 := by kernel_rfl
  i9 := by kernel_rfl
  i20 := by kernel_rfl
  i37 := by kernel_rfl
  i46 := by kernel_rfl
  i51 := by kernel_rfl
  i53 := by kernel_rfl
  i171 := by kernel_rfl
  i173 := by kernel_rfl
  i212 := by kernel_rfl
  i232 := by kernel_rfl
  i233 := by kernel_rfl
  m17 := by kernel_rfl
  m18 := by kernel_rfl
  m19 := by kernel_rfl
  mixed := by kernel_rfl
  f129 := Tryz.func252.trans (congrArg some (by kernel_rfl))
  f171 := Tryz.func69.trans (congrArg some (by kernel_rfl))
  f243 := Tryz.func124.trans (congrArg some (by kernel_rfl))
  f246 := Tryz.func187.trans (congrArg some (by kernel_rfl))
  f283 := Tryz.func228.trans (congrArg some (by kernel_rfl))
  f284 := Tryz.func229.trans (congrArg some (by kernel_rfl))
  f285 := Tryz.func230.trans (congrArg some (by kernel_rfl))
  f286 := Tryz.func231.trans (congrArg some (by kernel_rfl))
  f317 := Tryz.func251.trans (congrArg some (by kernel_rfl))
  f318 := Tryz.func253.trans (congrArg some (by kernel_rfl))
  f319 := Tryz.func254.trans (congrArg some (by kernel_rfl))
  f320 := Tryz.func255.trans (congrArg some (by kernel_rfl))
  f337 := Tryz.func263.trans (congrArg some (by kernel_rfl))
  f338 := Tryz.func264.trans (congrArg some (by kernel_rfl))
  t0 := Tryz.underlying0
  a0 := Tryz.isAgg0
  z0 := Tryz.sizeOf0
  v0 := Tryz.zeroValue0
  t2 := Tryz.underlying2
  a2 := Tryz.isAgg2
  z2 := Tryz.sizeOf2
  v2 := Tryz.zeroValue2
  t3 := Tryz.underlying3
  a3 := Tryz.isAgg3
  z3 := Tryz.sizeOf3
  v3 := Tryz.zeroValue3
  t4 := Tryz.underlying4
  a4 := Tryz.isAgg4
  z4 := Tryz.sizeOf4
  v4 := Tryz.zeroValue4
  t5 := Tryz.underlying5
  a5 := Tryz.isAgg5
  z5 := Tryz.sizeOf5
  v5 := Tryz.zeroValue5
  t9 := Tryz.underlying9
  a9 := Tryz.isAgg9
  z9 := Tryz.sizeOf9
  v9 := Tryz.zeroValue9
  t20 := Tryz.underlying20
  a20 := Tryz.isAgg20
  z20 := Tryz.sizeOf20
  v20 := Tryz.zeroValue20
  t37 := Tryz.underlying46
  a37 := Tryz.isAgg46
  z37 := Tryz.sizeOf46
  v37 := Tryz.zeroValue46
  t46 := Tryz.underlying181
  a46 := Tryz.isAgg181
  z46 := Tryz.sizeOf181
  v46 := Tryz.zeroValue181
  t51 := Tryz.underlying206
  a51 := Tryz.isAgg206
  z51 := Tryz.sizeOf206
  v51 := Tryz.zeroValue206
  t53 := Tryz.underlying209
  a53 := Tryz.isAgg209
  z53 := Tryz.sizeOf209
  v53 := Tryz.zeroValue209
  t171 := Tryz.underlying213
  a171 := Tryz.isAgg213
  z171 := Tryz.sizeOf213
  v171 := Tryz.zeroValue213
  t173 := Tryz.underlying216
  a173 := Tryz.isAgg216
  z173 := Tryz.sizeOf216
  v173 := Tryz.zeroValue216
  t212 := Tryz.underlying230
  a212 := Tryz.isAgg230
  z212 := Tryz.sizeOf230
  v212 := Tryz.zeroValue230
  t213 := Tryz.underlying231
  a213 := Tryz.isAgg231
  z213 := Tryz.sizeOf231
  t232 := Tryz.underlying252
  a232 := Tryz.isAgg252
  z232 := Tryz.sizeOf252
  v232 := Tryz.zeroValue252
  t233 := Tryz.underlying253
  a233 := Tryz.isAgg253
  z233 := Tryz.sizeOf253
  v233 := Tryz.zeroValue253
  g17 := by kernel_rfl
  g18 := by kernel_rfl
  g19 := by kernel_rfl
def renn156 : Go.Shelf.Ren := ⟨fun x => if x = 156 then 203 else if x = 165 then 179 else if x = 166 then 180 else if x = 169 then 182 else if x = 240 then 224 else if x = 241 then 225 else if x = 276 then 249 else if x = 277 then 250 else x, fun x => if x = 0 then 0 else if x = 3 then 3 else if x = 4 then 4 else if x = 5 then 5 else if x = 9 then 9 else if x = 20 then 20 else if x = 31 then 69 else if x = 37 then 46 else if x = 70 then 184 else if x = 72 then 186 else if x = 75 then 113 else if x = 76 then 114 else if x = 80 then 168 else if x = 127 then 212 else if x = 164 then 226 else x, fun x => x⟩
theorem layn156 : Go.Proofs.Lays.n156 Tryz.prog renn156 where
  mixed := by kernel_rfl
  f156 := Tryz.func203.trans (congrArg some (by kernel_rfl))
  f165 := Tryz.func179.trans (congrArg some (by kernel_rfl))
  f166 := Tryz.func180.trans (congrArg some (by kernel_rfl))
  f169 := Tryz.func182.trans (congrArg some (by kernel_rfl))
  f240 := Tryz.func224.trans (congrArg some (by kernel_rfl))
  f241 := Tryz.func225.trans (congrArg some (by kernel_rfl))
  f276 := Tryz.func249.trans (congrArg some (by kernel_rfl))
  f277 := Tryz.func250.trans (congrArg some (by kernel_rfl))
  t0 := Tryz.underlying0
  a0 := Tryz.isAgg0
  z0 := Tryz.sizeOf0
  v0 := Tryz.zeroValue0
  t3 := Tryz.underlying3
  a3 := Tryz.isAgg3
  z3 := Tryz.sizeOf3
  v3 := Tryz.zeroValue3
  t4 := Tryz.underlying4
  a4 := Tryz.isAgg4
  z4 := Tryz.sizeOf4
  v4 := Tryz.zeroValue4
  t9 := Tryz.underlying9
  a9 := Tryz.isAgg9
  z9 := Tryz.sizeOf9
  v9 := Tryz.zeroValue9
  t20 := Tryz.underlying20
  a20 := Tryz.isAgg20
  z20 := Tryz.sizeOf20
  v20 := Tryz.zeroValue20
  t31 := Tryz.underlying69
  a31 := Tryz.isAgg69
  z31 := Tryz.sizeOf69
  v31 := Tryz.zeroValue69
  t37 := Tryz.underlying46
  a37 := Tryz.isAgg46
  z37 := Tryz.sizeOf46
  v37 := Tryz.zeroValue46
  t70 := Tryz.underlying184
  a70 := Tryz.isAgg184
  z70 := Tryz.sizeOf184
  v70 := Tryz.zeroValue184
  t72 := Tryz.underlying186
  a72 := Tryz.isAgg186
  z72 := Tryz.sizeOf186
  v72 := Tryz.zeroValue186
  t75 := Tryz.underlying113
  a75 := Tryz.isAgg113
  z75 := Tryz.sizeOf113
  v75 := Tryz.zeroValue113
  t76 := Tryz.underlying114
  a76 := Tryz.isAgg114
  z76 := Tryz.sizeOf114
  v76 := Tryz.zeroValue114
  t127 := Tryz.underlying212
  a127 := Tryz.isAgg212
  z127 := Tryz.sizeOf212
  v127 := Tryz.zeroValue212
  t164 := Tryz.underlying226
  a164 := Tryz.isAgg226
  z164 := Tryz.sizeOf226
  v164 := Tryz.zeroValue226
theorem layBuilderExtra : Go.Proofs.Builder.Extra Tryz.prog renn156 where
  t5 := Tryz.underlying5
  a5 := Tryz.isAgg5
  z5 := Tryz.sizeOf5
  v5 := Tryz.zeroValue5
  infoByte := by kernel_rfl
  cellsByte := by kernel_rfl
  sizeByte := by kernel_rfl
  neB5 := by decide
  sizeBuilder := by kernel_rfl
  liesBuilder := by kernel_rfl
end Go.Proofs.YtklnopamfncfgaaGreatDoor
namespace Go.Proofs.YtklnopamfncfgaaGreatDoor
open Go Go.Ab
set_option linter.unusedSectionVars false
variable [Amb] [HasPow10 Tryz.prog]
set_option maxRecDepth 100000
set_option maxHeartbeats 4000000
def itoaL (n : Int) : List UInt8 := Lib.itoa n
def I64 (n : Int) : Prop := -9223372036854775808 ≤ n ∧ n ≤ 9223372036854775807
theorem itoaL_len {n : Int} (h : I64 n) : (itoaL n).length ≤ 21 := Lib.itoa_length_le n h.1 h.2
theorem below_grow (w : World) (k : Nat) (os : Array Obj) : RowKit.Below w.heap.size w (Sort.grow (w.drewN k) os) :=
  ⟨rfl, rfl, rfl, by simp [Sort.grow, World.drewN], fun j hj => by
    show (w.heap ++ os)[j]? = w.heap[j]?
    rw [Array.getElem?_append_left hj]⟩
theorem strconv_Itoa (n : Int) (h : I64 n) : ACalls Tryz.prog 69 [.one (.int .i64 n)] (.x (.one (.str (itoaL n)))) := by
  refine ACalls.ofKitA [.int .i64 n] _ (callable_of Tryz.f69 (by kernel_rfl) (by kernel_rfl) rfl) rfl (fun _ _ => repR_str _ (Nat.le_trans (itoaL_len h) (by decide))) (fun _ w hw => ?_)
  refine (Any.strconv_Itoa layMn171 n h.1 h.2 w (HasPow10.tab w hw)).mono ?_
  rintro e w' ⟨rfl, k, os, rfl⟩
  exact ⟨rfl, below_grow _ _ _⟩
abbrev strs (l : List (List UInt8)) : XV := .one (.list 1 (l.map fun s => [.str s]))
theorem strs_cells {w : World} {S : Nat → Prop} {l : List (List UInt8)} {v : Value} (h : RepX w S (strs l) v) (hS : ∀ b, S b → b < w.heap.size) :
    (∃ a c, v = .slice a 0 c ∧ l = []) ∨ ∃ b o c, v = .slice (some ⟨b, o, none⟩) l.length c ∧ l.length ≤ c ∧ b < w.heap.size ∧ ∀ (j : Nat) x, l[j]? = some x → w.cell? ⟨b, o + j, none⟩ = some (.string ⟨x.toArray⟩) := by
  have hl : ∀ l : List (List UInt8), (l.map fun s => [CV.str s]).flatten = l.map CV.str := by
    intro l
    induction l with
    | nil => rfl
    | cons a r ih => simp [ih]
  have hl := hl l
  have h' : RepC w S (.list 1 (l.map fun s => [.str s])) v := h
  generalize hx : (l.map fun s => [CV.str s]) = xs at h' hl
  cases h' with
  | list0 a c _ _ _ => exact .inl ⟨a, c, rfl, by simpa using hx⟩
  | list ad cap _ _ U hs hsp hc hm hxl hU hrep =>
    obtain ⟨b, o, sp⟩ := ad
    cases hsp
    have hlen : xs.length = l.length := by rw [← hx]; simp
    refine .inr ⟨b, o, cap, by rw [hlen], by omega, hS b hs, fun j x hj => ?_⟩
    have h1 : xs.flatten[j]? = some (.str x) := by rw [hl, List.getElem?_map, hj]; rfl
    have h2 := hU j _ h1
    rw [addr_add_lit] at h2
    have h3 := hrep j _ h1
    generalize U j = u at h2 h3
    cases h3
    exact h2
theorem join_map (l : List (List UInt8)) (sep : List UInt8) : Lib.join ((l.map fun x => (⟨x.toArray⟩ : ByteArray)).map (·.data.toList)) ((⟨sep.toArray⟩ : ByteArray).data.toList) = Lib.join l sep := by
  simp [List.map_map, Function.comp_def]
theorem strings_Join (l : List (List UInt8)) (sep : List UInt8) (hb : (Lib.join l sep).length ≤ 140737488355328) (hN : l.length ≤ 140737488355328) : ACalls Tryz.prog 203 [strs l, .one (.str sep)] (.x (.one (.str (Lib.join l sep)))) := by
  refine ⟨(callable_of Tryz.f203 (by kernel_rfl) (by kernel_rfl) rfl), fun w S vs hS ha => ?_⟩
  obtain ⟨u0, h0, r0⟩ := ha.2 0 _ rfl
  obtain ⟨u1, h1, r1⟩ := ha.2 1 _ rfl
  have hsz : vs.size = 2 := ha.1
  cases r1 with
  | str _ hsl =>
  have hvs : vs = #[u0, .string ⟨sep.toArray⟩] := by
    apply Array.ext
    · rw [hsz]; rfl
    · intro i hi hi2
      rw [hsz] at hi
      have h2 : i = 0 ∨ i = 1 := by omega
      rcases h2 with rfl | rfl
      · rw [Array.getElem?_eq_getElem (by omega)] at h0; injection h0
      · rw [Array.getElem?_eq_getElem (by omega)] at h1; injection h1
  rw [hvs]
  rcases strs_cells r0 hS.rd with ⟨a, c, rfl, rfl⟩ | ⟨b, o, c, rfl, hc, hb', hcell⟩
  · refine (Any.strings_Join_none layn156 layBuilderExtra a c ⟨sep.toArray⟩ w).mono ?_
    rintro e w' ⟨rfl, rfl⟩
    exact ⟨_, rfl, RowKit.Below.refl _ _, RepC.str [] (by simp), fun b h => by cases h⟩
  · have := Any.strings_Join layn156 layBuilderExtra b o c (l.map fun x => (⟨x.toArray⟩ : ByteArray)) ⟨sep.toArray⟩ w (fun j x hj => by
        rw [List.getElem?_map] at hj
        cases hx : l[j]? with
        | none => rw [hx] at hj; cases hj
        | some y => rw [hx] at hj; injection hj with hj; subst hj; exact hcell j y hx) hb' (by simpa using hN) (by simpa using hc) (by rw [join_map]; exact hb)
    rw [join_map, List.length_map] at this
    refine this.mono ?_
    rintro e w' ⟨rfl, hbel⟩
    exact ⟨_, rfl, hbel, RepC.str _ (Nat.le_trans hb (by decide)), fun b h => by cases h⟩
structure Right (e : Entry) : Prop where
  key : e.key.length ≤ 2000
  time : 0 ≤ e.time ∧ e.time ≤ 253402300799
  status : e.status = 0 ∨ (100 ≤ e.status ∧ e.status ≤ 599)
  type : e.type.length ≤ 40
  digest : e.digest.length = 16
  file : e.file.length ≤ 40
  lo : 0 ≤ e.lo ∧ e.lo ≤ 500000
  hi : e.lo ≤ e.hi ∧ e.hi ≤ 500000
end Go.Proofs.YtklnopamfncfgaaGreatDoor
namespace Go.Proofs.YtklnopamfncfgaaGreatDoor
open Go
set_option maxRecDepth 100000
def renn221 : Go.Shelf.Ren := ⟨fun x => if x = 138 then 209 else if x = 143 then 210 else if x = 195 then 244 else if x = 197 then 189 else if x = 217 then 112 else if x = 218 then 245 else if x = 219 then 207 else if x = 221 then 161 else if x = 224 then 242 else if x = 225 then 241 else if x = 260 then 232 else if x = 266 then 177 else if x = 267 then 243 else if x = 268 then 208 else if x = 314 then 262 else x, fun x => if x = 0 then 0 else if x = 3 then 3 else if x = 4 then 4 else if x = 5 then 5 else if x = 9 then 9 else if x = 21 then 21 else if x = 31 then 69 else if x = 46 then 181 else if x = 51 then 206 else if x = 105 then 190 else if x = 119 then 233 else if x = 138 then 235 else if x = 139 then 236 else if x = 146 then 207 else x, fun x => if x = 1 then 0 else if x = 3 then 4 else if x = 4 then 5 else x⟩
theorem layn221 : Go.Proofs.Lays.n221 Tryz.prog renn221 where
  mixed := by kernel_rfl
  f138 := Tryz.func209.trans (congrArg some (by kernel_rfl))
  f143 := Tryz.func210.trans (congrArg some (by kernel_rfl))
  f195 := Tryz.func244.trans (congrArg some (by kernel_rfl))
  f197 := Tryz.func189.trans (congrArg some (by kernel_rfl))
  f217 := Tryz.func112.trans (congrArg some (by kernel_rfl))
  f218 := Tryz.func245.trans (congrArg some (by kernel_rfl))
  f219 := Tryz.func207.trans (congrArg some (by kernel_rfl))
  f221 := Tryz.func161.trans (congrArg some (by kernel_rfl))
  f224 := Tryz.func242.trans (congrArg some (by kernel_rfl))
  f225 := Tryz.func241.trans (congrArg some (by kernel_rfl))
  f260 := Tryz.func232.trans (congrArg some (by kernel_rfl))
  f266 := Tryz.func177.trans (congrArg some (by kernel_rfl))
  f267 := Tryz.func243.trans (congrArg some (by kernel_rfl))
  f268 := Tryz.func208.trans (congrArg some (by kernel_rfl))
  f314 := Tryz.func262.trans (congrArg some (by kernel_rfl))
  t0 := Tryz.underlying0
  a0 := Tryz.isAgg0
  z0 := Tryz.sizeOf0
  v0 := Tryz.zeroValue0
  t3 := Tryz.underlying3
  a3 := Tryz.isAgg3
  z3 := Tryz.sizeOf3
  v3 := Tryz.zeroValue3
  t4 := Tryz.underlying4
  a4 := Tryz.isAgg4
  z4 := Tryz.sizeOf4
  v4 := Tryz.zeroValue4
  t5 := Tryz.underlying5
  a5 := Tryz.isAgg5
  z5 := Tryz.sizeOf5
  v5 := Tryz.zeroValue5
  t9 := Tryz.underlying9
  a9 := Tryz.isAgg9
  z9 := Tryz.sizeOf9
  v9 := Tryz.zeroValue9
  t21 := Tryz.underlying21
  a21 := Tryz.isAgg21
  z21 := Tryz.sizeOf21
  v21 := Tryz.zeroValue21
  t31 := Tryz.underlying69
  a31 := Tryz.isAgg69
  z31 := Tryz.sizeOf69
  v31 := Tryz.zeroValue69
  t46 := Tryz.underlying181
  a46 := Tryz.isAgg181
  z46 := Tryz.sizeOf181
  v46 := Tryz.zeroValue181
  t51 := Tryz.underlying206
  a51 := Tryz.isAgg206
  z51 := Tryz.sizeOf206
  v51 := Tryz.zeroValue206
  t105 := Tryz.underlying190
  a105 := Tryz.isAgg190
  z105 := Tryz.sizeOf190
  v105 := Tryz.zeroValue190
  t119 := Tryz.underlying233
  a119 := Tryz.isAgg233
  z119 := Tryz.sizeOf233
  t138 := Tryz.underlying235
  a138 := Tryz.isAgg235
  z138 := Tryz.sizeOf235
  v138 := Tryz.zeroValue235
  t139 := Tryz.underlying236
  a139 := Tryz.isAgg236
  z139 := Tryz.sizeOf236
  v139 := Tryz.zeroValue236
  t146 := Tryz.underlying207
  a146 := Tryz.isAgg207
  z146 := Tryz.sizeOf207
  v146 := Tryz.zeroValue207
  g1 := by kernel_rfl
  g3 := by kernel_rfl
  g4 := by kernel_rfl
end Go.Proofs.YtklnopamfncfgaaGreatDoor
namespace Go.Proofs.YtklnopamfncfgaaGreatDoor
open Go
set_option maxRecDepth 100000
def renn172 : Go.Shelf.Ren := ⟨fun x => if x = 129 then 252 else if x = 171 then 69 else if x = 172 then 72 else if x = 205 then 237 else if x = 243 then 124 else if x = 244 then 133 else if x = 245 then 134 else if x = 246 then 187 else if x = 247 then 192 else if x = 279 then 193 else if x = 280 then 194 else if x = 281 then 195 else if x = 282 then 196 else if x = 283 then 228 else if x = 284 then 229 else if x = 285 then 230 else if x = 286 then 231 else if x = 287 then 235 else if x = 316 then 236 else if x = 317 then 251 else if x = 318 then 253 else if x = 319 then 254 else if x = 320 then 255 else if x = 321 then 257 else if x = 322 then 258 else if x = 337 then 263 else if x = 338 then 264 else x, fun x => if x = 0 then 0 else if x = 2 then 2 else if x = 3 then 3 else if x = 4 then 4 else if x = 5 then 5 else if x = 9 then 9 else if x = 20 then 20 else if x = 21 then 21 else if x = 37 then 46 else if x = 46 then 181 else if x = 51 then 206 else if x = 53 then 209 else if x = 75 then 113 else if x = 76 then 114 else if x = 80 then 168 else if x = 85 then 194 else if x = 127 then 212 else if x = 143 then 238 else if x = 145 then 240 else if x = 167 then 193 else if x = 168 then 196 else if x = 171 then 213 else if x = 173 then 216 else if x = 175 then 219 else if x = 210 then 222 else if x = 212 then 230 else if x = 213 then 231 else if x = 232 then 252 else if x = 233 then 253 else x, fun x => if x = 15 then 1 else if x = 16 then 2 else if x = 17 then 3 else if x = 18 then 6 else if x = 19 then 7 else x⟩
theorem layn172 : Go.Proofs.Lays.n172 Tryz.prog renn172 where
  mixed := by kernel_rfl
  f129 := Tryz.func252.trans (congrArg some (by kernel_rfl))
  f171 := Tryz.func69.trans (congrArg some (by kernel_rfl))
  f172 := Tryz.func72.trans (congrArg some (by kernel_rfl))
  f205 := Tryz.func237.trans (congrArg some (by kernel_rfl))
  f243 := Tryz.func124.trans (congrArg some (by kernel_rfl))
  f244 := Tryz.func133.trans (congrArg some (by kernel_rfl))
  f245 := Tryz.func134.trans (congrArg some (by kernel_rfl))
  f246 := Tryz.func187.trans (congrArg some (by kernel_rfl))
  f247 := Tryz.func192.trans (congrArg some (by kernel_rfl))
  f279 := Tryz.func193.trans (congrArg some (by kernel_rfl))
  f280 := Tryz.func194.trans (congrArg some (by kernel_rfl))
  f281 := Tryz.func195.trans (congrArg some (by kernel_rfl))
  f282 := Tryz.func196.trans (congrArg some (by kernel_rfl))
  f283 := Tryz.func228.trans (congrArg some (by kernel_rfl))
  f284 := Tryz.func229.trans (congrArg some (by kernel_rfl))
  f285 := Tryz.func230.trans (congrArg some (by kernel_rfl))
  f286 := Tryz.func231.trans (congrArg some (by kernel_rfl))
  f287 := Tryz.func235.trans (congrArg some (by kernel_rfl))
  f316 := Tryz.func236.trans (congrArg some (by kernel_rfl))
  f317 := Tryz.func251.trans (congrArg some (by kernel_rfl))
  f318 := Tryz.func253.trans (congrArg some (by kernel_rfl))
  f319 := Tryz.func254.trans (congrArg some (by kernel_rfl))
  f320 := Tryz.func255.trans (congrArg some (by kernel_rfl))
  f321 := Tryz.func257.trans (congrArg some (by kernel_rfl))
  f322 := Tryz.func258.trans (congrArg some (by kernel_rfl))
  f337 := Tryz.func263.trans (congrArg some (by kernel_rfl))
  f338 := Tryz.func264.trans (congrArg some (by kernel_rfl))
  t0 := Tryz.underlying0
  a0 := Tryz.isAgg0
  z0 := Tryz.sizeOf0
  v0 := Tryz.zeroValue0
  t2 := Tryz.underlying2
  a2 := Tryz.isAgg2
  z2 := Tryz.sizeOf2
  v2 := Tryz.zeroValue2
  t3 := Tryz.underlying3
  a3 := Tryz.isAgg3
  z3 := Tryz.sizeOf3
  v3 := Tryz.zeroValue3
  t4 := Tryz.underlying4
  a4 := Tryz.isAgg4
  z4 := Tryz.sizeOf4
  v4 := Tryz.zeroValue4
  t5 := Tryz.underlying5
  a5 := Tryz.isAgg5
  z5 := Tryz.sizeOf5
  v5 := Tryz.zeroValue5
  t9 := Tryz.underlying9
  a9 := Tryz.isAgg9
  z9 := Tryz.sizeOf9
  v9 := Tryz.zeroValue9
  t20 := Tryz.underlying20
  a20 := Tryz.isAgg20
  z20 := Tryz.sizeOf20
  v20 := Tryz.zeroValue20
  t21 := Tryz.underlying21
  a21 := Tryz.isAgg21
  z21 := Tryz.sizeOf21
  v21 := Tryz.zeroValue21
  t37 := Tryz.underlying46
  a37 := Tryz.isAgg46
  z37 := Tryz.sizeOf46
  v37 := Tryz.zeroValue46
  t46 := Tryz.underlying181
  a46 := Tryz.isAgg181
  z46 := Tryz.sizeOf181
  v46 := Tryz.zeroValue181
  t51 := Tryz.underlying206
  a51 := Tryz.isAgg206
  z51 := Tryz.sizeOf206
  v51 := Tryz.zeroValue206
  t53 := Tryz.underlying209
  a53 := Tryz.isAgg209
  z53 := Tryz.sizeOf209
  v53 := Tryz.zeroValue209
  t75 := Tryz.underlying113
  a75 := Tryz.isAgg113
  z75 := Tryz.sizeOf113
  v75 := Tryz.zeroValue113
  t76 := Tryz.underlying114
  a76 := Tryz.isAgg114
  z76 := Tryz.sizeOf114
  v76 := Tryz.zeroValue114
  t85 := Tryz.underlying194
  a85 := Tryz.isAgg194
  z85 := Tryz.sizeOf194
  v85 := Tryz.zeroValue194
  t127 := Tryz.underlying212
  a127 := Tryz.isAgg212
  z127 := Tryz.sizeOf212
  v127 := Tryz.zeroValue212
  t143 := Tryz.underlying238
  a143 := Tryz.isAgg238
  z143 := Tryz.sizeOf238
  v143 := Tryz.zeroValue238
  t145 := Tryz.underlying240
  a145 := Tryz.isAgg240
  z145 := Tryz.sizeOf240
  v145 := Tryz.zeroValue240
  t167 := Tryz.underlying193
  a167 := Tryz.isAgg193
  z167 := Tryz.sizeOf193
  v167 := Tryz.zeroValue193
  t168 := Tryz.underlying196
  a168 := Tryz.isAgg196
  z168 := Tryz.sizeOf196
  v168 := Tryz.zeroValue196
  t171 := Tryz.underlying213
  a171 := Tryz.isAgg213
  z171 := Tryz.sizeOf213
  v171 := Tryz.zeroValue213
  t173 := Tryz.underlying216
  a173 := Tryz.isAgg216
  z173 := Tryz.sizeOf216
  v173 := Tryz.zeroValue216
  t175 := Tryz.underlying219
  a175 := Tryz.isAgg219
  z175 := Tryz.sizeOf219
  v175 := Tryz.zeroValue219
  t210 := Tryz.underlying222
  a210 := Tryz.isAgg222
  z210 := Tryz.sizeOf222
  v210 := Tryz.zeroValue222
  t212 := Tryz.underlying230
  a212 := Tryz.isAgg230
  z212 := Tryz.sizeOf230
  v212 := Tryz.zeroValue230
  t213 := Tryz.underlying231
  a213 := Tryz.isAgg231
  z213 := Tryz.sizeOf231
  t232 := Tryz.underlying252
  a232 := Tryz.isAgg252
  z232 := Tryz.sizeOf252
  v232 := Tryz.zeroValue252
  t233 := Tryz.underlying253
  a233 := Tryz.isAgg253
  z233 := Tryz.sizeOf253
  v233 := Tryz.zeroValue253
  g15 := by kernel_rfl
  g16 := by kernel_rfl
  g17 := by kernel_rfl
  g18 := by kernel_rfl
  g19 := by kernel_rfl
end Go.Proofs.YtklnopamfncfgaaGreatDoor
namespace Go.Proofs.YtklnopamfncfgaaGreatDoor
open Go Go.Ab
set_option linter.unusedSectionVars false
variable [Amb]
set_option maxRecDepth 100000
set_option maxHeartbeats 4000000
theorem index_byte (c : UInt8) (s : List UInt8) : Lib.indexByte s c = if c ∈ s then ((befC c s).length : Int) else -1 := by
  rw [← Lib.index_one, index_one]
theorem befC_le (c : UInt8) (s : List UInt8) : (befC c s).length ≤ s.length := (List.takeWhile_sublist _).length_le
theorem befC_lt {c : UInt8} {s : List UInt8} (h : c ∈ s) : (befC c s).length + 1 ≤ s.length := by
  have := congrArg List.length (befC_aft h)
  simp at this; omega
theorem stringslite_Index1 (s : List UInt8) (c : UInt8) : ACalls Tryz.prog 207 [.one (.str s), .one (.str [c])] (.x (.one (.int .i64 (if c ∈ s then ((befC c s).length : Int) else -1)))) := by
  rw [← index_byte]
  refine ACalls.ofKit [.string ⟨s.toArray⟩, .string ⟨[c].toArray⟩] _ (callable_of Tryz.f207 (by kernel_rfl) (by kernel_rfl) rfl) rfl (fun _ _ => repR_int _ _) (fun _ w => ?_)
  refine (Any.stringslite_Index_one { layn221 with } ⟨s.toArray⟩ c w).mono ?_
  rintro e w' ⟨rfl, rfl⟩
  exact ⟨rfl, RowKit.Below.refl _ _⟩
theorem take_bef (c : UInt8) (s : List UInt8) : s.take (befC c s).length = befC c s := by
  conv => rhs; unfold befC
  rw [List.takeWhile_eq_take_findIdx_not]
  congr 1
  unfold befC
  rw [List.takeWhile_eq_take_findIdx_not, List.length_take]
  exact Nat.min_eq_left List.findIdx_le_length
theorem stringslite_Cut1 (s : List UInt8) (c : UInt8) : ACalls Tryz.prog 160 [.one (.str s), .one (.str [c])] (.tup [.one (.str (befC c s)), .one (.str (if c ∈ s then aftC c s else [])), .one (.bool (decide (c ∈ s)))]) := by
  refine ACalls.of mixed (fn := Tryz.f160) (by kernel_rfl) (by kernel_rfl) rfl (by kernel_rfl) (by simp [Tryz.f160]) (fun hok => ?_)
  have hs : s.length ≤ maxLen := by have := hok _ List.mem_cons_self; simpa [XV.ok, CV.ok] using this
  simp -implicitDefEqProofs
  refine ACallK.of (stringslite_Index1 s c) ?_
  by_cases h : c ∈ s
  · have hb := befC_lt h
    have h1 : (0 ≤ ((befC c s).length : Int)) = True := eq_true (by omega)
    have hw : IntKind.i64.wrap (((befC c s).length : Int) + 1) = (((befC c s).length + 1 : Nat) : Int) := by rw [wrapS _ (by unfold maxLen at hs; omega)]; omega
    have h2 : ((befC c s).length ≤ s.length) = True := eq_true (by omega)
    have h3 : ((befC c s).length + 1 ≤ s.length) = True := eq_true (by omega)
    have ht := take_bef c s
    have ha : s.drop ((befC c s).length + 1) = aftC c s := rfl
    simp -implicitDefEqProofs [h, h1, hw, h2, h3, ht, ha]
    exact ⟨by omega, by omega⟩
  · have hn := befC_all h
    simp -implicitDefEqProofs [h, hn]
theorem strings_Cut1 (s : List UInt8) (c : UInt8) : ACalls Tryz.prog 91 [.one (.str s), .one (.str [c])] (.tup [.one (.str (befC c s)), .one (.str (if c ∈ s then aftC c s else [])), .one (.bool (decide (c ∈ s)))]) := by
  refine ACalls.of mixed (fn := Tryz.f91) (by kernel_rfl) (by kernel_rfl) rfl (by kernel_rfl) (by simp [Tryz.f91]) (fun hok => ?_)
  simp -implicitDefEqProofs
  refine ACallK.of (stringslite_Cut1 s c) ?_
  simp -implicitDefEqProofs
theorem flat_strs : ∀ xs : List ByteArray, (((xs.map (·.data.toList)).map fun s => [CV.str s])).flatten = xs.map fun x => CV.str x.data.toList
  | [] => rfl
  | a :: r => by
    have := flat_strs r
    simp only [List.map_cons, List.flatten_cons, this]; rfl
theorem ofKitStrs {f : FuncId} {args : List XV} (vs : List Value) (xs : List ByteArray) (t : TypeId) (hc : Callable Tryz.prog f) (ha : concs args = some vs)
    (hl : ∀ x ∈ xs, x.data.toList.length ≤ maxLen) (hn : xs.length ≤ maxLen)
    (h : ∀ w, Calls Tryz.prog f vs.toArray w fun e w' => e = .returned (.slice (some ⟨w.heap.size, 0, none⟩) xs.length xs.length) ∧ w' = w.alloc (.cells (xs.map Value.string).toArray t)) :
    ACalls Tryz.prog f args (.x (strs (xs.map (·.data.toList)))) := by
  refine ⟨hc, fun w S us hS hargs => ?_⟩
  have e : us = vs.toArray := by
    have := concs_eq (us := us.toList) (by rw [Array.length_toList]; exact hargs.1) (fun j x hj => by simpa using hargs.2 j x hj) ha
    rw [← this]
  subst e
  refine (h w).mono ?_
  rintro e w' ⟨rfl, rfl⟩
  have hfl := flat_strs xs
  have hlen : ((xs.map (·.data.toList)).map fun s => [CV.str s]).length = xs.length := by simp
  refine ⟨_, rfl, (RowKit.Below.refl _ _).alloc (Nat.le_refl _) _, ?_, fun b hb => by cases hb⟩
  rw [← hlen]
  refine RepC.list ⟨w.heap.size, 0, none⟩ _ 1 _ (fun j => (xs[j]?.map Value.string).getD .nilIface) (Or.inr ⟨Nat.le_refl _, by show _ < (w.heap.push _).size; rw [Array.size_push]; exact Nat.lt_succ_self _⟩) rfl (Nat.le_refl _) (by rw [hlen]; exact hn) (fun x hx => by
    obtain ⟨y, _, rfl⟩ := List.mem_map.1 hx; rfl) (fun j c hj => ?_) (fun j c hj => ?_)
  · rw [hfl, List.getElem?_map] at hj
    obtain ⟨x, hx, _⟩ := Option.map_eq_some_iff.1 hj
    rw [addr_add_lit, World.cell?_alloc_new, hx]
    simp [hx]
  · rw [hfl, List.getElem?_map] at hj
    obtain ⟨x, hx, rfl⟩ := Option.map_eq_some_iff.1 hj
    have hm : x ∈ xs := List.mem_of_getElem? hx
    rw [hx]
    exact RepC.str _ (hl x hm)
theorem splitC_len (c : UInt8) (s : List UInt8) : ∀ y ∈ splitC c s, y.length ≤ s.length := by
  induction s with
  | nil => intro y hy; simp [splitC] at hy; subst hy; simp
  | cons b r ih =>
    intro y hy
    by_cases hb : b = c
    · rw [splitC, if_pos hb] at hy
      rcases List.mem_cons.1 hy with rfl | hy
      · simp
      · have := ih y hy; simp only [List.length_cons]; omega
    · rw [splitC, if_neg hb] at hy
      cases hr : splitC c r with
      | nil => exact absurd hr (splitC_ne c r)
      | cons h t =>
        rw [hr] at hy ih
        rcases List.mem_cons.1 hy with rfl | hy
        · have := ih h List.mem_cons_self; simp only [List.length_cons]; omega
        · have := ih y (List.mem_cons_of_mem _ hy); simp only [List.length_cons]; omega
theorem strings_genSplit1 (s : List UInt8) (c : UInt8) (hs : s.length ≤ 600000) : ACalls Tryz.prog 161 [.one (.str s), .one (.str [c]), .one (.int .i64 0), .one (.int .i64 (-1))] (.x (strs (splitC c s))) := by
  have hcount : s.count c ≤ s.length := List.count_le_length
  have hcb : Lib.countB ⟨s.toArray⟩ ⟨[c].toArray⟩ = s.count c := Lib.count_one c s
  have hsp : (Lib.splitB ⟨[c].toArray⟩ 0 (s.count c) ⟨s.toArray⟩).map (·.data.toList) = splitC c s := by
    rw [Lib.splitB_data]
    exact splitK_eq c _ _ (Nat.le_refl _)
  have hle := Lib.splitB_length_le ⟨[c].toArray⟩ 0 (s.count c) ⟨s.toArray⟩
  have hall := Lib.splitB_all ⟨[c].toArray⟩ (Nat.le_refl 1) 0 _ ⟨s.toArray⟩ hcb
  rw [← hsp]
  have hsub := splitC_len c s
  have hcall : ∀ w, Calls Tryz.prog 161 [Value.string ⟨s.toArray⟩, .string ⟨[c].toArray⟩, .int .i64 0, .int .i64 (-1)].toArray w fun e w' =>
      e = .returned (.slice (some ⟨w.heap.size, 0, none⟩) (s.count c + 1) (s.count c + 1)) ∧ w' = w.alloc (.cells ((Lib.splitB ⟨[c].toArray⟩ 0 (s.count c) ⟨s.toArray⟩).map Value.string).toArray 9) := by
    intro w
    have g := Any.strings_genSplit_core layn221 (by kernel_rfl) ⟨s.toArray⟩ ⟨[c].toArray⟩ 0 (-1) (s.count c + 1) w (by show s.toArray.size < _; simp; omega) (Nat.le_refl 1) (Nat.zero_le _)
      (fun x cs hx => (Any.strings_Index_one { layn221 with } x c _).mono fun e w' ⟨h1, h2⟩ => ⟨by rw [h1]; show _ = Ending.returned (.int .i64 (Lib.index x.data.toList [c])); rw [Lib.index_one], h2⟩)
      ((Any.strings_Count_one { layn221 with } ⟨s.toArray⟩ c w).mono fun e w' ⟨h1, h2⟩ => ⟨by rw [h1, hcb]; rfl, h2⟩)
      (by decide) (by decide) (by rw [if_pos (by decide), hcb]; show _ = min _ ((s.toArray.size : Int) + 1); simp; omega)
    rw [Nat.add_sub_cancel, hall] at g
    have e2 : Lib.cellsOf (Lib.splitB ⟨[c].toArray⟩ 0 (s.count c) ⟨s.toArray⟩) (s.count c + 1) = ((Lib.splitB ⟨[c].toArray⟩ 0 (s.count c) ⟨s.toArray⟩).map Value.string).toArray := by rw [← hall]; exact Lib.cellsOf_full _
    rw [e2] at g
    exact g
  obtain ⟨xs, ex⟩ : ∃ xs, xs = Lib.splitB ⟨[c].toArray⟩ 0 (s.count c) ⟨s.toArray⟩ := ⟨_, rfl⟩
  rw [← ex] at hsp hall hcall ⊢
  refine ofKitStrs [.string ⟨s.toArray⟩, .string ⟨[c].toArray⟩, .int .i64 0, .int .i64 (-1)] xs 9 (callable_of Tryz.f161 (by kernel_rfl) (by kernel_rfl) rfl) rfl (fun x hx => ?_) (by rw [hall]; unfold maxLen; omega) (fun w => by rw [hall]; exact hcall w)
  have := hsub x.data.toList (by rw [← hsp]; exact List.mem_map_of_mem hx)
  unfold maxLen; omega
theorem strings_Split1 (s : List UInt8) (c : UInt8) (hs : s.length ≤ 600000) : ACalls Tryz.prog 93 [.one (.str s), .one (.str [c])] (.x (strs (splitC c s))) := by
  refine ACalls.of mixed (fn := Tryz.f93) (by kernel_rfl) (by kernel_rfl) rfl (by kernel_rfl) (by simp [Tryz.f93]) (fun hok => ?_)
  simp -implicitDefEqProofs
  refine ACallK.of (strings_genSplit1 s c hs) ?_
  simp -implicitDefEqProofs
theorem strconv_Atoi1 (s : List UInt8) (n : Int) (hl : s.length ≤ 18) (h : Lib.atoi s = some n) : ACalls Tryz.prog 72 [.one (.str s)] (.tup [.one (.int .i64 n), .one (.atom .nilIface)]) := by
  refine ACalls.ofKit [.string ⟨s.toArray⟩] (.tuple #[.int .i64 n, .nilIface]) (callable_of Tryz.f72 (by kernel_rfl) (by kernel_rfl) rfl) rfl (fun w S => ?_) (fun _ w => ?_)
  · refine ⟨_, rfl, rfl, fun j x hj => ?_⟩
    match j, hj with
    | 0, hj => cases hj; exact ⟨_, rfl, RepC.int _ _⟩
    | 1, hj => cases hj; exact ⟨_, rfl, RepC.atom _ rfl⟩
    | j + 2, hj => simp at hj
  refine (Any.strconv_Atoi layn172 ⟨s.toArray⟩ n (by show s.toArray.size ≤ 18; simpa using hl) h w).mono ?_
  rintro e w' ⟨rfl, t, rfl⟩
  exact ⟨rfl, Lib.bytesWorld_below _ _ _⟩
end Go.Proofs.YtklnopamfncfgaaGreatDoor
namespace Go.Proofs.YtklnopamfncfgaaGreatDoor
open Go Go.Ab
set_option linter.unusedSectionVars false
variable [Amb]
set_option maxRecDepth 100000
set_option maxHeartbeats 4000000
abbrev byteX (c : UInt8) : XV := .one (.int .u8 c.toNat)
theorem address_isLetter (c : UInt8) : ACalls Tryz.prog 197 [byteX c] (.x (.one (.bool (letB c)))) := by
  refine ACalls.of mixed (fn := Tryz.f197) (by kernel_rfl) (by kernel_rfl) rfl (by kernel_rfl) (by simp [Tryz.f197]) (fun hok => ?_)
  simp -implicitDefEqProofs
  refine ⟨by omega, ?_⟩
  rw [Bool.eq_iff_iff]
  simp only [letB, Bool.or_eq_true, Bool.and_eq_true, decide_eq_true_eq]
  omega
theorem address_isDigit (c : UInt8) : ACalls Tryz.prog 136 [byteX c] (.x (.one (.bool (isDig c)))) := by
  refine ACalls.of mixed (fn := Tryz.f136) (by kernel_rfl) (by kernel_rfl) rfl (by kernel_rfl) (by simp [Tryz.f136]) (fun hok => ?_)
  simp -implicitDefEqProofs
  rw [Bool.eq_iff_iff]
  simp only [isDig, Bool.or_eq_true, Bool.and_eq_true, decide_eq_true_eq]
  omega
theorem address_isHex (c : UInt8) : ACalls Tryz.prog 213 [byteX c] (.x (.one (.bool (hexC c)))) := by
  refine ACalls.of mixed (fn := Tryz.f213) (by kernel_rfl) (by kernel_rfl) rfl (by kernel_rfl) (by simp [Tryz.f213]) (fun hok => ?_)
  simp -implicitDefEqProofs
  refine ACallK.of (address_isDigit c) ?_
  cases h0 : isDig c
  · simp -implicitDefEqProofs
    rw [Bool.eq_iff_iff]
    simp only [hexC, h0, Bool.false_or, Bool.or_eq_true, Bool.and_eq_true, decide_eq_true_eq]
    omega
  · simp -implicitDefEqProofs
    try simp [hexC, h0]
theorem ref1_letter (c : UInt8) : ACalls Tryz.prog 200 [byteX c] (.x (.one (.bool (letB c)))) := by
  refine ACalls.of mixed (fn := Tryz.f200) (by kernel_rfl) (by kernel_rfl) rfl (by kernel_rfl) (by simp [Tryz.f200]) (fun hok => ?_)
  simp -implicitDefEqProofs
  refine ⟨by omega, ?_⟩
  rw [Bool.eq_iff_iff]
  simp only [letB, Bool.or_eq_true, Bool.and_eq_true, decide_eq_true_eq]
  omega
theorem ref1_digit (c : UInt8) : ACalls Tryz.prog 184 [byteX c] (.x (.one (.bool (isDig c)))) := by
  refine ACalls.of mixed (fn := Tryz.f184) (by kernel_rfl) (by kernel_rfl) rfl (by kernel_rfl) (by simp [Tryz.f184]) (fun hok => ?_)
  simp -implicitDefEqProofs
  rw [Bool.eq_iff_iff]
  simp only [isDig, Bool.or_eq_true, Bool.and_eq_true, decide_eq_true_eq]
  omega
theorem ref1_hex (c : UInt8) : ACalls Tryz.prog 227 [byteX c] (.x (.one (.bool (hexC c)))) := by
  refine ACalls.of mixed (fn := Tryz.f227) (by kernel_rfl) (by kernel_rfl) rfl (by kernel_rfl) (by simp [Tryz.f227]) (fun hok => ?_)
  simp -implicitDefEqProofs
  refine ACallK.of (ref1_digit c) ?_
  cases h0 : isDig c
  · simp -implicitDefEqProofs
    rw [Bool.eq_iff_iff]
    simp only [hexC, h0, Bool.false_or, Bool.or_eq_true, Bool.and_eq_true, decide_eq_true_eq]
    omega
  · simp -implicitDefEqProofs
    try simp [hexC, h0]
theorem smallC_nat (c : UInt8) : ((smallC c).toNat : Int) = if 65 ≤ c.toNat ∧ c.toNat ≤ 90 then (c.toNat : Int) + 32 else c.toNat := by
  have : ∀ c : UInt8, ((smallC c).toNat : Int) = if 65 ≤ c.toNat ∧ c.toNat ≤ 90 then (c.toNat : Int) + 32 else c.toNat := u8_all (by decide +kernel)
  exact this c
def halfL (s : List UInt8) (i : Nat) : List UInt8 := smallL (s.take i) ++ s.drop i
@[simp] theorem halfL_len (s : List UInt8) (i : Nat) : (halfL s i).length = s.length := by
  unfold halfL smallL
  rw [List.length_append, List.length_map, ← List.length_append, List.take_append_drop]
theorem halfL_zero (s : List UInt8) : halfL s 0 = s := by simp [halfL, smallL]
theorem halfL_full (s : List UInt8) : halfL s s.length = smallL s := by simp [halfL]
theorem halfL_at {s : List UInt8} {i : Nat} (h : i < s.length) : (halfL s i)[i]'(by simpa using h) = s[i] := by
  have hl : (smallL (s.take i)).length = i := by simp [smallL]; omega
  unfold halfL
  rw [List.getElem_append_right (by omega)]
  simp [hl]
theorem halfL_step {s : List UInt8} {i : Nat} (h : i < s.length) : halfL s (i + 1) = (halfL s i).set i (smallC s[i]) := by
  have hl : (smallL (s.take i)).length = i := by simp [smallL]; omega
  have e : smallL (s.take (i + 1)) = smallL (s.take i) ++ [smallC s[i]] := by
    show (s.take (i + 1)).map smallC = _
    rw [List.take_add_one, List.getElem?_eq_getElem h, List.map_append]; rfl
  unfold halfL
  rw [e, List.set_append_right _ _ (by omega), hl, Nat.sub_self, List.drop_eq_getElem_cons h, List.set_cons_zero]
  simp
theorem byteRows_set (l : List UInt8) (i : Nat) (c : UInt8) : (byteRows l).set i (byteRow c) = byteRows (l.set i c) := by
  unfold byteRows; rw [List.map_set]
theorem set_same {l : List UInt8} {i : Nat} (h : i < l.length) : l.set i l[i] = l := List.set_getElem_self h
theorem strB_rows (l : List UInt8) : strB (byteRows l) = l := by
  unfold strB byteRows
  rw [List.map_map]
  have : (cellB ∘ byteRow) = id := by funext b; simp [cellB, byteRow]
  rw [this, List.map_id]
theorem okB_rows (l : List UInt8) : okB (byteRows l) := by
  intro x hx
  obtain ⟨b, _, rfl⟩ := List.mem_map.1 hx
  exact ⟨_, rfl⟩
end Go.Proofs.YtklnopamfncfgaaGreatDoor
namespace Go.Proofs.YtklnopamfncfgaaGreatDoor
open Go Go.Ab
set_option linter.unusedSectionVars false
variable [Amb]
set_option maxRecDepth 100000
set_option maxHeartbeats 4000000
theorem rows_at {l : List UInt8} {i : Nat} (h : i < (byteRows l).length) : (byteRows l)[i] = byteRow (l[i]'(by simpa [byteRows] using h)) := by simp [byteRows]
theorem rows_len (l : List UInt8) : (byteRows l).length = l.length := by simp [byteRows]
theorem address_Small (s : List UInt8) : ACalls Tryz.prog 97 [.one (.str s)] (.x (.one (.str (smallL s)))) := by
  refine ACalls.of mixed (fn := Tryz.f97) (by kernel_rfl) (by kernel_rfl) rfl (by kernel_rfl) (by simp [Tryz.f97]) (fun hok => ?_)
  have hl : s.length ≤ maxLen := by simpa [XV.ok, CV.ok] using hok
  have hR := rows_len
  have hR0 := halfL_len s
  simp -implicitDefEqProofs [hR]
  refine ALoopS.of Nat (fun i => [(3, .own 5 1 (byteRows (halfL s i))), (8, .alias 3), (9, .x (.one (.int .i64 s.length))), (10, .x (.one (.int .i64 i)))]) (fun i => i ≤ s.length) (fun i => s.length - i) 0 (Nat.zero_le _) ?_ ?_
  · simp [halfL_zero]
  intro i hi
  by_cases hlt : i < s.length
  · have hlt' : ((i : Int) < (s.length : Int)) = True := eq_true (by omega)
    have hwr : IntKind.i64.wrap ((i : Int) + 1) = (i : Int) + 1 := wrapS _ (by unfold maxLen at hl; omega)
    have hat : ∀ h, (byteRows (halfL s i))[i]'h = byteRow s[i] := fun h => by rw [rows_at, halfL_at hlt]
    have hst := halfL_step hlt
    by_cases hc : 65 ≤ s[i].toNat ∧ s[i].toNat ≤ 90
    · have c1 : (65 ≤ (s[i].toNat : Int)) = True := eq_true (by omega)
      have c2 : ((s[i].toNat : Int) ≤ 90) = True := eq_true (by omega)
      have hw : IntKind.u8.wrap (IntKind.u8.wrap ((s[i].toNat : Int) + 97) - 65) = ((smallC s[i]).toNat : Int) := by
        rw [smallC_nat, if_pos hc]; simp [IntKind.wrap, IntKind.signed, IntKind.bits]; omega
      simp -implicitDefEqProofs [hlt, hlt', hR, hat, c1, c2, hw]
      refine Again.of (i + 1) hlt (by omega) ?_
      have hst2 : byteRows (halfL s (i + 1)) = (byteRows (halfL s i)).set i (byteRow (smallC s[i])) := by rw [hst, byteRows_set]
      simp [hst2, hwr]
    · have hsame : smallC s[i] = s[i] := by unfold smallC; rw [if_neg hc]
      have hst' : halfL s (i + 1) = halfL s i := by
        rw [hst, hsame, ← halfL_at hlt, set_same]
      by_cases h1 : 65 ≤ s[i].toNat
      · have c1 : (65 ≤ (s[i].toNat : Int)) = True := eq_true (by omega)
        have c2 : ((s[i].toNat : Int) ≤ 90) = False := eq_false (by omega)
        simp -implicitDefEqProofs [hlt, hlt', hR, hat, c1, c2]
        refine Again.of (i + 1) hlt (by omega) ?_
        simp [hst', hwr]
      · have c1 : (65 ≤ (s[i].toNat : Int)) = False := eq_false (by omega)
        simp -implicitDefEqProofs [hlt, hlt', hR, hat, c1]
        refine Again.of (i + 1) hlt (by omega) ?_
        simp [hst', hwr]
  · have hlt' : ((i : Int) < (s.length : Int)) = False := eq_false (by omega)
    have hi' : i = s.length := by omega
    subst hi'
    have ho := okB_rows (smallL s)
    have hb := strB_rows (smallL s)
    have hf := halfL_full s
    have hsl : (smallL s).length = s.length := by simp [smallL]
    simp -implicitDefEqProofs [hlt', hf, ho, hb, hsl, hR]
theorem ref1_Small (s : List UInt8) : ACalls Tryz.prog 171 [.one (.str s)] (.x (.one (.str (smallL s)))) := by
  refine ACalls.of mixed (fn := Tryz.f171) (by kernel_rfl) (by kernel_rfl) rfl (by kernel_rfl) (by simp [Tryz.f171]) (fun hok => ?_)
  have hl : s.length ≤ maxLen := by simpa [XV.ok, CV.ok] using hok
  have hR := rows_len
  have hR0 := halfL_len s
  simp -implicitDefEqProofs [hR]
  refine ALoopS.of Nat (fun i => [(3, .own 5 1 (byteRows (halfL s i))), (4, .x (.one (.int .i64 i)))]) (fun i => i ≤ s.length) (fun i => s.length - i) 0 (Nat.zero_le _) ?_ ?_
  · simp [halfL_zero]
  intro i hi
  by_cases hlt : i < s.length
  · have hlt' : ((i : Int) < (s.length : Int)) = True := eq_true (by omega)
    have hwr : IntKind.i64.wrap ((i : Int) + 1) = (i : Int) + 1 := wrapS _ (by unfold maxLen at hl; omega)
    have hat : ∀ h, (byteRows (halfL s i))[i]'h = byteRow s[i] := fun h => by rw [rows_at, halfL_at hlt]
    have hst := halfL_step hlt
    by_cases hc : 65 ≤ s[i].toNat ∧ s[i].toNat ≤ 90
    · have c1 : (65 ≤ (s[i].toNat : Int)) = True := eq_true (by omega)
      have c2 : ((s[i].toNat : Int) ≤ 90) = True := eq_true (by omega)
      have hw : IntKind.u8.wrap ((s[i].toNat : Int) + 32) = ((smallC s[i]).toNat : Int) := by
        rw [smallC_nat, if_pos hc]; simp [IntKind.wrap, IntKind.signed, IntKind.bits]; omega
      simp -implicitDefEqProofs [hlt, hlt', hR, hat, c1, c2, hw]
      refine Again.of (i + 1) hlt (by omega) ?_
      have hst2 : byteRows (halfL s (i + 1)) = (byteRows (halfL s i)).set i (byteRow (smallC s[i])) := by rw [hst, byteRows_set]
      simp [hst2, hwr]
    · have hsame : smallC s[i] = s[i] := by unfold smallC; rw [if_neg hc]
      have hst' : halfL s (i + 1) = halfL s i := by
        rw [hst, hsame, ← halfL_at hlt, set_same]
      by_cases h1 : 65 ≤ s[i].toNat
      · have c1 : (65 ≤ (s[i].toNat : Int)) = True := eq_true (by omega)
        have c2 : ((s[i].toNat : Int) ≤ 90) = False := eq_false (by omega)
        simp -implicitDefEqProofs [hlt, hlt', hR, hat, c1, c2]
        refine Again.of (i + 1) hlt (by omega) ?_
        simp [hst', hwr]
      · have c1 : (65 ≤ (s[i].toNat : Int)) = False := eq_false (by omega)
        simp -implicitDefEqProofs [hlt, hlt', hR, hat, c1]
        refine Again.of (i + 1) hlt (by omega) ?_
        simp [hst', hwr]
  · have hlt' : ((i : Int) < (s.length : Int)) = False := eq_false (by omega)
    have hi' : i = s.length := by omega
    subst hi'
    have ho := okB_rows (smallL s)
    have hb := strB_rows (smallL s)
    have hf := halfL_full s
    have hsl : (smallL s).length = s.length := by simp [smallL]
    simp -implicitDefEqProofs [hlt', hf, ho, hb, hsl, hR]
theorem labelB_get {s : List UInt8} (h : 0 < s.length) : labelB s = (decide (s.length ≤ 63) && ((decide (s[0] ≠ 45) && decide (s[s.length - 1] ≠ 45)) && s.all labC)) := by
  have h1 : s.head? = some s[0] := by rw [List.head?_eq_getElem?, List.getElem?_eq_getElem h]
  have h2 : s.getLast? = some s[s.length - 1] := by rw [List.getLast?_eq_getElem?, List.getElem?_eq_getElem (by omega)]
  unfold labelB
  rw [h1, h2]
  have : decide (1 ≤ s.length) = true := by simp; omega
  rw [this]
  simp
theorem u8_int {c : UInt8} (n : Nat) (hn : n < 256) : ((c.toNat : Int) = n) ↔ c = UInt8.ofNat n := by
  rw [← UInt8.toNat_inj, UInt8.toNat_ofNat_of_lt' (by simp [UInt8.size]; omega)]; omega
theorem address_isLabel (s : List UInt8) : ACalls Tryz.prog 168 [.one (.str s)] (.x (.one (.bool (labelB s)))) := by
  refine ACalls.of mixed (fn := Tryz.f168) (by kernel_rfl) (by kernel_rfl) rfl (by kernel_rfl) (by simp [Tryz.f168]) (fun hok => ?_)
  by_cases h0 : s.length = 0
  · have : s = [] := List.eq_nil_of_length_eq_zero h0
    subst this
    simp -implicitDefEqProofs
    rfl
  have hp : 0 < s.length := by omega
  rw [labelB_get hp]
  have g1 : ((s.length : Int) < 1) = False := eq_false (by omega)
  by_cases h63 : s.length ≤ 63
  rotate_left
  · have g2 : (63 < (s.length : Int)) = True := eq_true (by omega)
    have g2n : (63 < s.length) = True := eq_true (by omega)
    have h63' : decide (s.length ≤ 63) = false := by simp; omega
    rw [h63', Bool.false_and]
    simp -implicitDefEqProofs [g1, g2, g2n, hp]
  have g2 : (63 < (s.length : Int)) = False := eq_false (by omega)
  have g2n : (63 < s.length) = False := eq_false (by omega)
  have hw : IntKind.i64.wrap ((s.length : Int) - 1) = ((s.length - 1 : Nat) : Int) := by rw [wrapS _ (by omega)]; omega
  have hlast : s.length - 1 < s.length := by omega
  have h63' : decide (s.length ≤ 63) = true := by simp; omega
  rw [h63', Bool.true_and]
  by_cases a0 : s[0] = 45
  · have e0 : ((s[0].toNat : Int) = 45) = True := eq_true ((u8_int 45 (by omega)).2 a0)
    have e0' : decide (s[0] ≠ 45) = false := by simp [a0]
    rw [e0', Bool.false_and, Bool.false_and]
    simp -implicitDefEqProofs [g1, g2, g2n, hp, e0]
  have e0 : ((s[0].toNat : Int) = 45) = False := eq_false (fun h => a0 ((u8_int 45 (by omega)).1 h))
  have e0' : decide (s[0] ≠ 45) = true := by simp [a0]
  rw [e0', Bool.true_and]
  by_cases a1 : s[s.length - 1] = 45
  · have e1 : ((s[s.length - 1].toNat : Int) = 45) = True := eq_true ((u8_int 45 (by omega)).2 a1)
    have e1' : decide (s[s.length - 1] ≠ 45) = false := by simp [a1]
    rw [e1', Bool.false_and]
    simp -implicitDefEqProofs [g1, g2, g2n, hp, e0, e1, hw, hlast]
  have e1 : ((s[s.length - 1].toNat : Int) = 45) = False := eq_false (fun h => a1 ((u8_int 45 (by omega)).1 h))
  have e1' : decide (s[s.length - 1] ≠ 45) = true := by simp [a1]
  rw [e1', Bool.true_and]
  simp -implicitDefEqProofs [g1, g2, g2n, hp, e0, e1, hw, hlast]
  refine ALoopS.of Nat (fun i => [(0, .x (.one (.str s))), (26, .x (.one (.int .i64 s.length))), (27, .x (.one (.int .i64 i)))]) (Upto labC s) (fun i => s.length - i) 0 Upto.zero ?_ ?_
  · simp
  intro i hi
  by_cases hlt : i < s.length
  · have hlt' : ((i : Int) < (s.length : Int)) = True := eq_true (by omega)
    have hwr : IntKind.i64.wrap ((i : Int) + 1) = (i : Int) + 1 := wrapS _ (by omega)
    simp -implicitDefEqProofs [hlt, hlt']
    refine ACallK.of (address_isLetter s[i]) ?_
    simp -implicitDefEqProofs [hlt, hlt']
    refine ACallGS.of (fun _ => address_isDigit s[i]) rfl ?_
    cases b0 : letB s[i]
    · cases b1 : isDig s[i]
      · by_cases b2 : s[i] = 45
        · have e2 : ((s[i].toNat : Int) = 45) = True := eq_true ((u8_int 45 (by omega)).2 b2)
          simp -implicitDefEqProofs [hlt, hlt', e2, hwr]
          refine Again.of (i + 1) (hi.step hlt (by simp [labC, b2])) (by omega) (by simp [hwr])
        · have e2 : ((s[i].toNat : Int) = 45) = False := eq_false (fun h => b2 ((u8_int 45 (by omega)).1 h))
          have hb : labC s[i] = false := by simp [labC, b0, b1, b2]
          rw [all_bad hlt hb]
          simp -implicitDefEqProofs [hlt, hlt', e2, hwr]
      · simp -implicitDefEqProofs [hlt, hlt', hwr]
        refine Again.of (i + 1) (hi.step hlt (by simp [labC, b1])) (by omega) (by simp [hwr])
    · simp -implicitDefEqProofs [hlt, hlt', hwr]
      refine Again.of (i + 1) (hi.step hlt (by simp [labC, b0])) (by omega) (by simp [hwr])
  · have hlt' : ((i : Int) < (s.length : Int)) = False := eq_false (by omega)
    rw [hi.done hlt]
    simp -implicitDefEqProofs [hlt, hlt']
theorem ref1_isLabel (s : List UInt8) : ACalls Tryz.prog 183 [.one (.str s)] (.x (.one (.bool (labelB s)))) := by
  refine ACalls.of mixed (fn := Tryz.f183) (by kernel_rfl) (by kernel_rfl) rfl (by kernel_rfl) (by simp [Tryz.f183]) (fun hok => ?_)
  by_cases h0 : s.length = 0
  · have : s = [] := List.eq_nil_of_length_eq_zero h0
    subst this
    simp -implicitDefEqProofs
    rfl
  have hp : 0 < s.length := by omega
  have hs0 : ¬ s = [] := by rintro rfl; exact h0 rfl
  rw [labelB_get hp]
  have g1 : ((s.length : Int) < 1) = False := eq_false (by omega)
  by_cases h63 : s.length ≤ 63
  rotate_left
  · have g2 : (63 < (s.length : Int)) = True := eq_true (by omega)
    have g2n : (63 < s.length) = True := eq_true (by omega)
    have h63' : decide (s.length ≤ 63) = false := by simp; omega
    rw [h63', Bool.false_and]
    simp -implicitDefEqProofs [hs0, g1, g2, g2n, hp]
  have g2 : (63 < (s.length : Int)) = False := eq_false (by omega)
  have g2n : (63 < s.length) = False := eq_false (by omega)
  have hw : IntKind.i64.wrap ((s.length : Int) - 1) = ((s.length - 1 : Nat) : Int) := by rw [wrapS _ (by omega)]; omega
  have hlast : s.length - 1 < s.length := by omega
  have h63' : decide (s.length ≤ 63) = true := by simp; omega
  rw [h63', Bool.true_and]
  by_cases a0 : s[0] = 45
  · have e0 : ((s[0].toNat : Int) = 45) = True := eq_true ((u8_int 45 (by omega)).2 a0)
    have e0' : decide (s[0] ≠ 45) = false := by simp [a0]
    rw [e0', Bool.false_and, Bool.false_and]
    simp -implicitDefEqProofs [hs0, g1, g2, g2n, hp, e0]
  have e0 : ((s[0].toNat : Int) = 45) = False := eq_false (fun h => a0 ((u8_int 45 (by omega)).1 h))
  have e0' : decide (s[0] ≠ 45) = true := by simp [a0]
  rw [e0', Bool.true_and]
  by_cases a1 : s[s.length - 1] = 45
  · have e1 : ((s[s.length - 1].toNat : Int) = 45) = True := eq_true ((u8_int 45 (by omega)).2 a1)
    have e1' : decide (s[s.length - 1] ≠ 45) = false := by simp [a1]
    rw [e1', Bool.false_and]
    simp -implicitDefEqProofs [hs0, g1, g2, g2n, hp, e0, e1, hw, hlast]
  have e1 : ((s[s.length - 1].toNat : Int) = 45) = False := eq_false (fun h => a1 ((u8_int 45 (by omega)).1 h))
  have e1' : decide (s[s.length - 1] ≠ 45) = true := by simp [a1]
  rw [e1', Bool.true_and]
  simp -implicitDefEqProofs [hs0, g1, g2, g2n, hp, e0, e1, hw, hlast]
  refine ALoopS.of Nat (fun i => [(0, .x (.one (.str s))), (3, .x (.one (.int .i64 i)))]) (Upto labC s) (fun i => s.length - i) 0 Upto.zero ?_ ?_
  · simp
  intro i hi
  by_cases hlt : i < s.length
  · have hlt' : ((i : Int) < (s.length : Int)) = True := eq_true (by omega)
    have hwr : IntKind.i64.wrap ((i : Int) + 1) = (i : Int) + 1 := wrapS _ (by omega)
    simp -implicitDefEqProofs [hlt, hlt']
    refine ACallK.of (ref1_letter s[i]) ?_
    simp -implicitDefEqProofs [hlt, hlt']
    refine ACallGS.of (fun _ => ref1_digit s[i]) rfl ?_
    cases b0 : letB s[i]
    · cases b1 : isDig s[i]
      · by_cases b2 : s[i] = 45
        · have e2 : ((s[i].toNat : Int) = 45) = True := eq_true ((u8_int 45 (by omega)).2 b2)
          simp -implicitDefEqProofs [hlt, hlt', e2, hwr]
          refine Again.of (i + 1) (hi.step hlt (by simp [labC, b2])) (by omega) (by simp [hwr])
        · have e2 : ((s[i].toNat : Int) = 45) = False := eq_false (fun h => b2 ((u8_int 45 (by omega)).1 h))
          have hb : labC s[i] = false := by simp [labC, b0, b1, b2]
          rw [all_bad hlt hb]
          simp -implicitDefEqProofs [hlt, hlt', e2, hwr]
      · simp -implicitDefEqProofs [hlt, hlt', hwr]
        refine Again.of (i + 1) (hi.step hlt (by simp [labC, b1])) (by omega) (by simp [hwr])
    · simp -implicitDefEqProofs [hlt, hlt', hwr]
      refine Again.of (i + 1) (hi.step hlt (by simp [labC, b0])) (by omega) (by simp [hwr])
  · have hlt' : ((i : Int) < (s.length : Int)) = False := eq_false (by omega)
    rw [hi.done hlt]
    simp -implicitDefEqProofs [hlt, hlt']
end Go.Proofs.YtklnopamfncfgaaGreatDoor
namespace Go.Proofs.YtklnopamfncfgaaGreatDoor
open Go Go.Ab
set_option linter.unusedSectionVars false
variable [Amb]
set_option maxRecDepth 100000
set_option maxHeartbeats 4000000
theorem hostB_eq {s : List UInt8} (h : s.length ≤ 253) : hostB s = (splitC 46 s).all labelB := by
  unfold hostB; simp [h]
theorem hostB_long {s : List UInt8} (h : ¬ s.length ≤ 253) : hostB s = false := by
  unfold hostB; simp; omega
theorem address_isHost (s : List UInt8) : ACalls Tryz.prog 98 [.one (.str s)] (.x (.one (.bool (hostB s)))) := by
  refine ACalls.of mixed (fn := Tryz.f98) (by kernel_rfl) (by kernel_rfl) rfl (by kernel_rfl) (by simp [Tryz.f98]) (fun hok => ?_)
  by_cases h : s.length ≤ 253
  rotate_left
  · rw [hostB_long h]
    have g : (253 < (s.length : Int)) = True := eq_true (by omega)
    have g' : (253 < s.length) = True := eq_true (by omega)
    simp -implicitDefEqProofs [g, g']
  rw [hostB_eq h]
  have g : (253 < (s.length : Int)) = False := eq_false (by omega)
  have g' : (253 < s.length) = False := eq_false (by omega)
  simp -implicitDefEqProofs [g, g']
  refine ACallK.of (strings_Split1 s 46 (by omega)) ?_
  have hc := splitC_count 46 s
  generalize splitC 46 s = w at hc
  simp -implicitDefEqProofs
  refine ALoopS.of Nat (fun i => [(9, .x (strs w)), (10, .x (.one (.int .i64 w.length))), (11, .x (.one (.int .i64 i)))]) (Upto labelB w) (fun i => w.length - i) 0 Upto.zero ?_ ?_
  · simp
  intro i hi
  by_cases hlt : i < w.length
  · have hlt' : ((i : Int) < (w.length : Int)) = True := eq_true (by omega)
    have hwr : IntKind.i64.wrap ((i : Int) + 1) = (i : Int) + 1 := wrapS _ (by omega)
    simp -implicitDefEqProofs [hlt, hlt']
    refine ACallK.of (address_isLabel w[i]) ?_
    cases b : labelB w[i]
    · rw [all_bad hlt b]
      simp -implicitDefEqProofs
    · simp -implicitDefEqProofs
      refine Again.of (i + 1) (hi.step hlt b) (by omega) (by simp [hwr])
  · have hlt' : ((i : Int) < (w.length : Int)) = False := eq_false (by omega)
    rw [hi.done hlt]
    simp -implicitDefEqProofs [hlt, hlt']
theorem ref1_IsHost (s : List UInt8) : ACalls Tryz.prog 116 [.one (.str s)] (.x (.one (.bool (hostB s)))) := by
  refine ACalls.of mixed (fn := Tryz.f116) (by kernel_rfl) (by kernel_rfl) rfl (by kernel_rfl) (by simp [Tryz.f116]) (fun hok => ?_)
  by_cases h : s.length ≤ 253
  rotate_left
  · rw [hostB_long h]
    have g : (253 < (s.length : Int)) = True := eq_true (by omega)
    have g' : (253 < s.length) = True := eq_true (by omega)
    simp -implicitDefEqProofs [g, g']
  rw [hostB_eq h]
  have g : (253 < (s.length : Int)) = False := eq_false (by omega)
  have g' : (253 < s.length) = False := eq_false (by omega)
  simp -implicitDefEqProofs [g, g']
  refine ACallK.of (strings_Split1 s 46 (by omega)) ?_
  have hc := splitC_count 46 s
  generalize splitC 46 s = w at hc
  simp -implicitDefEqProofs
  refine ALoopS.of Nat (fun i => [(3, .x (strs w)), (4, .x (.one (.int .i64 i)))]) (Upto labelB w) (fun i => w.length - i) 0 Upto.zero ?_ ?_
  · simp
  intro i hi
  by_cases hlt : i < w.length
  · have hlt' : ((i : Int) < (w.length : Int)) = True := eq_true (by omega)
    have hwr : IntKind.i64.wrap ((i : Int) + 1) = (i : Int) + 1 := wrapS _ (by omega)
    simp -implicitDefEqProofs [hlt, hlt']
    refine ACallK.of (ref1_isLabel w[i]) ?_
    cases b : labelB w[i]
    · rw [all_bad hlt b]
      simp -implicitDefEqProofs
    · simp -implicitDefEqProofs
      refine Again.of (i + 1) (hi.step hlt b) (by omega) (by simp [hwr])
  · have hlt' : ((i : Int) < (w.length : Int)) = False := eq_false (by omega)
    rw [hi.done hlt]
    simp -implicitDefEqProofs [hlt, hlt']
theorem decV_le {s : List UInt8} (h : s.all isDig = true) (h2 : s.length ≤ 5) : decV s < 100000 := by
  have := decV_lt s h
  have : 10 ^ s.length ≤ 10 ^ 5 := Nat.pow_le_pow_right (by omega) h2
  omega
theorem decV_take {s : List UInt8} {i : Nat} (h : i < s.length) : decV (s.take (i + 1)) = decV (s.take i) * 10 + (s[i].toNat - 48) := by
  rw [List.take_add_one, List.getElem?_eq_getElem h]
  exact decV_snoc _ _
abbrev digCt : List UInt8 := [48, 49, 50, 51, 52, 53, 54, 55, 56, 57]
theorem digCt_dig (b : UInt8) : digCt.contains b = isDig b := by
  have : ∀ b : UInt8, digCt.contains b = isDig b := u8_all (by decide +kernel)
  exact this b
theorem trim_digt (s : List UInt8) : (Lib.trimS s digCt = []) ↔ s.all isDig = true := by
  rw [trimS_nil]
  have : (fun b => digCt.contains b) = isDig := funext digCt_dig
  rw [this]
theorem address_portOf (s : List UInt8) : ACalls Tryz.prog 99 [.one (.str s)] (.x (.one (.int .i64 (portV s)))) := by
  refine ACalls.of mixed (fn := Tryz.f99) (by kernel_rfl) (by kernel_rfl) rfl (by kernel_rfl) (by simp [Tryz.f99]) (fun hok => ?_)
  by_cases h0 : s.length = 0
  · have : s = [] := List.eq_nil_of_length_eq_zero h0
    subst this
    simp -implicitDefEqProofs
    refine ACallGS.of (fun h => by cases h) (r := .x (.one (.str []))) rfl ?_
    simp -implicitDefEqProofs
    rfl
  have g1 : ((s.length : Int) < 1) = False := eq_false (by omega)
  by_cases h5 : s.length ≤ 5
  rotate_left
  · have g2 : (5 < (s.length : Int)) = True := eq_true (by omega)
    have g2n : (5 < s.length) = True := eq_true (by omega)
    have hv : portV s = 0 := by unfold portV; rw [if_neg (fun h => h5 h.2.1)]
    rw [hv]
    simp -implicitDefEqProofs [g1, g2, g2n]
    refine ACallGS.of (fun h => by simp at h) (r := .x (.one (.str []))) rfl ?_
    simp -implicitDefEqProofs [g1, g2, g2n]
  have g2 : (5 < (s.length : Int)) = False := eq_false (by omega)
  have g2n : (5 < s.length) = False := eq_false (by omega)
  simp -implicitDefEqProofs [g1, g2, g2n]
  refine ACallGS.of (fun _ => strings_Trim s digCt (by decide) (by decide)) rfl ?_
  by_cases hd : s.all isDig = true
  rotate_left
  · have ht : ¬ Lib.trimS s digCt = [] := fun h => hd ((trim_digt s).1 h)
    have hv : portV s = 0 := by unfold portV; rw [if_neg (fun h => hd h.2.2.1)]
    rw [hv]
    simp -implicitDefEqProofs [g1, g2, g2n, ht]
  have ht := (trim_digt s).2 hd
  have hlt := decV_le hd h5
  have hm := fun i => Nat.le_trans (Nat.le_of_lt_succ (Nat.lt_succ_of_lt (decV_lt (s.take i) (by rw [List.all_eq_true] at hd ⊢; exact fun x hx => hd x (List.mem_of_mem_take hx))))) (Nat.pow_le_pow_right (show 1 ≤ 10 by omega) (show (s.take i).length ≤ 5 by rw [List.length_take]; omega))
  simp -implicitDefEqProofs [g1, g2, g2n, ht]
  refine ALoopS.of Nat (fun i => [(0, .x (.one (.str s))), (3, .x (.one (.int .i64 (decV (s.take i))))), (19, .x (.one (.int .i64 s.length))), (20, .x (.one (.int .i64 i)))]) (fun i => i ≤ s.length) (fun i => s.length - i) 0 (Nat.zero_le _) ?_ ?_
  · simp [decV]
  intro i hi
  by_cases hlt : i < s.length
  · have hlt' : ((i : Int) < (s.length : Int)) = True := eq_true (by omega)
    have hwr : IntKind.i64.wrap ((i : Int) + 1) = (i : Int) + 1 := wrapS _ (by omega)
    have hdi : isDig s[i] = true := List.all_eq_true.1 hd _ (List.getElem_mem hlt)
    simp only [isDig, Bool.and_eq_true, decide_eq_true_eq] at hdi
    have hmi := hm i
    have hst := decV_take hlt
    have w1 : IntKind.i64.wrap (10 * (decV (s.take i) : Int)) = 10 * (decV (s.take i) : Int) := wrapS _ (by omega)
    have w2 : IntKind.u8.wrap ((s[i].toNat : Int) - 48) = ((s[i].toNat - 48 : Nat) : Int) := by simp [IntKind.wrap, IntKind.signed, IntKind.bits]; omega
    have w3 : IntKind.i64.wrap ((s[i].toNat - 48 : Nat) : Int) = ((s[i].toNat - 48 : Nat) : Int) := wrapS _ (by omega)
    have w4 : IntKind.i64.wrap (10 * (decV (s.take i) : Int) + ((s[i].toNat - 48 : Nat) : Int)) = ((decV (s.take (i + 1)) : Nat) : Int) := by rw [wrapS _ (by omega), hst]; omega
    simp -implicitDefEqProofs [hlt, hlt', w1, w2, w3, w4]
    refine Again.of (i + 1) hlt (by omega) (by simp [hwr])
  · have hlt' : ((i : Int) < (s.length : Int)) = False := eq_false (by omega)
    rw [show s.take i = s from List.take_of_length_le (by omega)]
    by_cases hb : decV s ≤ 65535
    · have g3 : (65535 < (decV s : Int)) = False := eq_false (by omega)
      have g3n : (65535 < decV s) = False := eq_false (by omega)
      have hv : portV s = decV s := by unfold portV; rw [if_pos ⟨by omega, h5, hd, hb⟩]
      rw [hv]
      simp -implicitDefEqProofs [hlt, hlt', g3, g3n]
    · have g3 : (65535 < (decV s : Int)) = True := eq_true (by omega)
      have g3n : (65535 < decV s) = True := eq_true (by omega)
      have hv : portV s = 0 := by unfold portV; rw [if_neg (fun h => hb h.2.2.2)]
      rw [hv]
      simp -implicitDefEqProofs [hlt, hlt', g3, g3n]
theorem ref1_isPort (s : List UInt8) : ACalls Tryz.prog 117 [.one (.str s)] (.x (.one (.bool (decide (portV s ≠ 0))))) := by
  refine ACalls.of mixed (fn := Tryz.f117) (by kernel_rfl) (by kernel_rfl) rfl (by kernel_rfl) (by simp [Tryz.f117]) (fun hok => ?_)
  by_cases h0 : s.length = 0
  · have : s = [] := List.eq_nil_of_length_eq_zero h0
    subst this
    simp -implicitDefEqProofs
    rfl
  have hs0 : ¬ s = [] := by rintro rfl; exact h0 rfl
  by_cases h5 : s.length ≤ 5
  rotate_left
  · have g2 : (5 < (s.length : Int)) = True := eq_true (by omega)
    have g2n : (5 < s.length) = True := eq_true (by omega)
    have hv : portV s = 0 := by unfold portV; rw [if_neg (fun h => h5 h.2.1)]
    rw [hv]
    simp -implicitDefEqProofs [hs0, g2, g2n]
  have g2 : (5 < (s.length : Int)) = False := eq_false (by omega)
  have g2n : (5 < s.length) = False := eq_false (by omega)
  simp -implicitDefEqProofs [hs0, g2, g2n]
  refine ALoopS.of Nat (fun i => [(0, .x (.one (.str s))), (3, .x (.one (.int .i64 i)))]) (Upto isDig s) (fun i => s.length - i) 0 Upto.zero ?_ ?_
  · simp
  intro i hi
  by_cases hlt : i < s.length
  · have hlt' : ((i : Int) < (s.length : Int)) = True := eq_true (by omega)
    have hwr : IntKind.i64.wrap ((i : Int) + 1) = (i : Int) + 1 := wrapS _ (by omega)
    simp -implicitDefEqProofs [hlt, hlt']
    refine ACallK.of (ref1_digit s[i]) ?_
    cases b : isDig s[i]
    · have hv : portV s = 0 := by unfold portV; rw [if_neg (fun h => by have := h.2.2.1; rw [all_bad hlt b] at this; cases this)]
      rw [hv]
      simp -implicitDefEqProofs
    · simp -implicitDefEqProofs
      refine Again.of (i + 1) (hi.step hlt b) (by omega) (by simp [hwr])
  · have hlt' : ((i : Int) < (s.length : Int)) = False := eq_false (by omega)
    have hd := hi.done hlt
    simp -implicitDefEqProofs [hlt, hlt']
    refine ACallK.of (strconv_Atoi1 s _ (by omega) (atoi_eq hd hs0)) ?_
    have hlt5 := decV_le hd h5
    have hv : portV s = if decV s ≤ 65535 then decV s else 0 := by
      unfold portV
      by_cases hb : decV s ≤ 65535
      · rw [if_pos ⟨by omega, h5, hd, hb⟩, if_pos hb]
      · rw [if_neg (fun h => hb h.2.2.2), if_neg hb]
    by_cases hb : decV s ≤ 65535
    · rw [hv, if_pos hb]
      have g3 : ((decV s : Int) ≤ 65535) = True := eq_true (by omega)
      by_cases hz : decV s = 0
      · have g4 : (1 ≤ (decV s : Int)) = False := eq_false (by omega)
        simp -implicitDefEqProofs [g3, g4, hz]
      · have g4 : (1 ≤ (decV s : Int)) = True := eq_true (by omega)
        simp -implicitDefEqProofs [g3, g4, hz]
    · rw [hv, if_neg hb]
      have g3 : ((decV s : Int) ≤ 65535) = False := eq_false (by omega)
      have g4 : (1 ≤ (decV s : Int)) = True := eq_true (by omega)
      simp -implicitDefEqProofs [g3, g4]
end Go.Proofs.YtklnopamfncfgaaGreatDoor
namespace Go.Proofs.YtklnopamfncfgaaGreatDoor
open Go Go.Ab
set_option linter.unusedSectionVars false
variable [Amb]
set_option maxRecDepth 100000
set_option maxHeartbeats 4000000
def atByte (s : List UInt8) (c : UInt8) : Int := if c ∈ s then ((befC c s).length : Int) else -1
theorem atByte_in {s : List UInt8} {c : UInt8} (h : s.contains c = true) : 0 ≤ atByte s c := by
  unfold atByte; rw [if_pos (by simpa using h)]; omega
theorem atByte_no {s : List UInt8} {c : UInt8} (h : s.contains c = false) : atByte s c = -1 := by
  unfold atByte; rw [if_neg (by intro hm; rw [List.contains_iff_mem.2 hm] at h; cases h)]
theorem strings_IndexByte (s : List UInt8) (c : UInt8) : ACalls Tryz.prog 62 [.one (.str s), byteX c] (.x (.one (.int .i64 (atByte s c)))) := by
  unfold atByte
  rw [← index_byte]
  refine ACalls.ofKit [.string ⟨s.toArray⟩, .int .u8 c.toNat] _ (callable_of Tryz.f62 (by kernel_rfl) (by kernel_rfl) rfl) rfl (fun _ _ => repR_int _ _) (fun _ w => ?_)
  refine (Any.strings_IndexByte { layn160 with } ⟨s.toArray⟩ c.toNat w).mono ?_
  rintro e w' ⟨rfl, rfl⟩
  have : (c.toNat : Int).toNat.toUInt8 = c := by simp
  rw [this]
  exact ⟨rfl, RowKit.Below.refl _ _⟩
structure RowAt (w s : List UInt8) (i : Nat) : Prop where
  le : i ≤ s.length
  eq : rowEndL w s = (i + (rowEndL w (s.drop i)).1, (rowEndL w (s.drop i)).2)
theorem RowAt.zero (w s : List UInt8) : RowAt w s 0 := ⟨Nat.zero_le _, by simp⟩
theorem RowAt.step {w s : List UInt8} {i : Nat} (h : RowAt w s i) (hlt : i < s.length) (h1 : w.contains s[i] = false) (h2 : rowC s[i] = true) (h3 : s[i] = 37 → hex2 (s.drop (i + 1)) = true) : RowAt w s (i + 1) := by
  refine ⟨hlt, ?_⟩
  rw [h.eq, List.drop_eq_getElem_cons hlt, rowEndL_cons h1 h2 h3]
  simp only
  congr 1; omega
theorem RowAt.hit {w s : List UInt8} {i : Nat} (h : RowAt w s i) (hlt : i < s.length) (h1 : w.contains s[i] = true) : rowEndL w s = (i, true) := by
  rw [h.eq, List.drop_eq_getElem_cons hlt, rowEndL, if_pos h1]; rfl
theorem RowAt.bad {w s : List UInt8} {i : Nat} (h : RowAt w s i) (hlt : i < s.length) (h1 : w.contains s[i] = false) (h2 : rowC s[i] = false ∨ (s[i] = 37 ∧ hex2 (s.drop (i + 1)) = false)) : rowEndL w s = (i, false) := by
  rw [h.eq, List.drop_eq_getElem_cons hlt, rowEndL, if_neg (by rw [h1]; decide), if_pos h2]; rfl
theorem RowAt.done {w s : List UInt8} {i : Nat} (h : RowAt w s i) (hge : ¬ i < s.length) : rowEndL w s = (s.length, true) := by
  have : i = s.length := by have := h.le; omega
  rw [h.eq, this, List.drop_length]; rfl
theorem hex2_at (s : List UInt8) (i : Nat) : hex2 (s.drop (i + 1)) = if h : i + 2 < s.length then hexC s[i + 1] && hexC s[i + 2] else false := by
  by_cases h : i + 2 < s.length
  · rw [dif_pos h, List.drop_eq_getElem_cons (by omega), List.drop_eq_getElem_cons (by omega)]; rfl
  · rw [dif_neg h]
    by_cases h1 : i + 1 < s.length
    · rw [List.drop_eq_getElem_cons h1, List.drop_eq_nil_of_le (by omega)]; rfl
    · rw [List.drop_eq_nil_of_le (by omega)]; rfl
theorem RowAt.three {w s : List UInt8} {i : Nat} (hw : ∀ c, w.contains c = true → hexC c = false) (h : RowAt w s i) (hlt : i + 2 < s.length) (h1 : w.contains (s[i]'(by omega)) = false) (h2 : rowC (s[i]'(by omega)) = true) (a : hexC (s[i + 1]'(by omega)) = true) (b : hexC s[i + 2] = true) : RowAt w s (i + 3) := by
  have hx : ∀ c, hexC c = true → w.contains c = false := fun c hc => by
    cases hq : w.contains c with
    | false => rfl
    | true => rw [hw c hq] at hc; cases hc
  have s1 := h.step (by omega) h1 h2 (fun _ => by rw [hex2_at, dif_pos hlt, a, b]; rfl)
  have s2 := s1.step (by omega) (hx _ a) (hexC_row a).1 (fun e => absurd e (hexC_row a).2.1)
  exact s2.step (by omega) (hx _ b) (hexC_row b).1 (fun e => absurd e (hexC_row b).2.1)
theorem rowC_split (c : UInt8) : rowC c = true ↔ (¬ c.toNat < 33 ∧ ¬ 126 < c.toNat) ∧ badCs.contains c = false := by
  unfold rowC
  cases badCs.contains c <;> simp
theorem u8_37 {c : UInt8} : ((c.toNat : Int) = 37) ↔ c = 37 := u8_int 37 (by omega)
theorem address_rowEnd (s w : List UInt8) (hs : s.length ≤ 4000000000000000) (hw : ∀ c, w.contains c = true → hexC c = false) : ACalls Tryz.prog 169 [.one (.str s), .one (.str w)] (.tup [.one (.int .i64 (rowEndL w s).1), .one (.bool (rowEndL w s).2)]) := by
  refine ACalls.of mixed (fn := Tryz.f169) (by kernel_rfl) (by kernel_rfl) rfl (by kernel_rfl) (by simp [Tryz.f169]) (fun hok => ?_)
  obtain ⟨R, eR⟩ : ∃ R, R = rowEndL w s := ⟨_, rfl⟩
  rw [← eR]
  simp -implicitDefEqProofs
  refine ALoopS.of Nat (fun i => [(0, .x (.one (.str s))), (1, .x (.one (.str w))), (6, .x (.one (.int .i64 i)))]) (RowAt w s) (fun i => s.length - i) 0 (RowAt.zero w s) ?_ ?_
  · simp
  intro i hi
  by_cases hlt : i < s.length
  rotate_left
  · have hlt' : ((i : Int) < (s.length : Int)) = False := eq_false (by omega)
    rw [hi.done hlt] at eR
    subst eR
    simp -implicitDefEqProofs [hlt, hlt']
  have hlt' : ((i : Int) < (s.length : Int)) = True := eq_true (by omega)
  have hwr : IntKind.i64.wrap ((i : Int) + 1) = (i : Int) + 1 := wrapS _ (by omega)
  simp -implicitDefEqProofs [hlt, hlt']
  refine ACallK.of (strings_IndexByte w s[i]) ?_
  cases hin : w.contains s[i]
  rotate_left
  · have g : (0 ≤ atByte w s[i]) = True := eq_true (atByte_in hin)
    rw [hi.hit hlt hin] at eR
    subst eR
    simp -implicitDefEqProofs [g]
  have hno := atByte_no hin
  simp -implicitDefEqProofs [hno]
  by_cases hr : rowC s[i] = true
  rotate_left
  · have hr' : rowC s[i] = false := by simpa using hr
    rw [hi.bad hlt hin (.inl hr')] at eR
    subst eR
    by_cases c1 : s[i].toNat < 33
    · have c1' : ((s[i].toNat : Int) < 33) = True := eq_true (by omega)
      simp -implicitDefEqProofs [c1', c1]
      refine ACallGS.of (fun h => by cases h) (r := .x (.one (.int .i64 0))) rfl ?_
      simp -implicitDefEqProofs [c1', c1]
    · have c1' : ((s[i].toNat : Int) < 33) = False := eq_false (by omega)
      by_cases c2 : 126 < s[i].toNat
      · have c2' : (126 < (s[i].toNat : Int)) = True := eq_true (by omega)
        simp -implicitDefEqProofs [c1', c1, c2', c2]
        refine ACallGS.of (fun h => by cases h) (r := .x (.one (.int .i64 0))) rfl ?_
        simp -implicitDefEqProofs [c1', c1, c2', c2]
      · have c2' : (126 < (s[i].toNat : Int)) = False := eq_false (by omega)
        have hb : badCs.contains s[i] = true := by
          cases hb : badCs.contains s[i] with
          | true => rfl
          | false => exact absurd ((rowC_split _).2 ⟨⟨c1, c2⟩, hb⟩) hr
        have g : (0 ≤ atByte [34, 35, 60, 62, 92, 94, 123, 124, 125, 96] s[i]) = True := eq_true (atByte_in hb)
        simp -implicitDefEqProofs [c1', c1, c2', c2]
        refine ACallGS.of (fun _ => strings_IndexByte [34, 35, 60, 62, 92, 94, 123, 124, 125, 96] s[i]) rfl ?_
        simp -implicitDefEqProofs [g]
  obtain ⟨⟨c1, c2⟩, hb⟩ := (rowC_split _).1 hr
  have c1' : ((s[i].toNat : Int) < 33) = False := eq_false (by omega)
  have c2' : (126 < (s[i].toNat : Int)) = False := eq_false (by omega)
  have hb0 : atByte [34, 35, 60, 62, 92, 94, 123, 124, 125, 96] s[i] = -1 := atByte_no hb
  simp -implicitDefEqProofs [c1', c1, c2', c2]
  refine ACallGS.of (fun _ => strings_IndexByte [34, 35, 60, 62, 92, 94, 123, 124, 125, 96] s[i]) rfl ?_
  by_cases h37 : s[i] = 37
  rotate_left
  · have e : ((s[i].toNat : Int) = 37) = False := eq_false (fun h => h37 (u8_37.1 h))
    simp -implicitDefEqProofs [hb0, c1', c2', e]
    refine Again.of (i + 1) (hi.step hlt hin hr (fun e => absurd e h37)) (by omega) (by simp [hwr])
  have e : ((s[i].toNat : Int) = 37) = True := eq_true (u8_37.2 h37)
  have w2 : IntKind.i64.wrap ((i : Int) + 2) = (i : Int) + 2 := wrapS _ (by omega)
  by_cases h2 : i + 2 < s.length
  rotate_left
  · have g2 : ((s.length : Int) ≤ (i : Int) + 2) = True := eq_true (by omega)
    rw [hi.bad hlt hin (.inr ⟨h37, by rw [hex2_at, dif_neg h2]⟩)] at eR
    subst eR
    simp -implicitDefEqProofs [hb0, c1', c2', e, w2, g2]
    refine ACallGS.of (fun h => by cases h) (r := .x (.one (.bool false))) rfl ?_
    simp -implicitDefEqProofs [g2]
    refine ACallGS.of (fun h => by cases h) (r := .x (.one (.bool false))) rfl ?_
    simp -implicitDefEqProofs [g2]
  have g2 : ((s.length : Int) ≤ (i : Int) + 2) = False := eq_false (by omega)
  have q1 : i + 1 < s.length := by omega
  have q1' : ((i : Int) + 1 < (s.length : Int)) = True := eq_true (by omega)
  have q2' : ((i : Int) + 2 < (s.length : Int)) = True := eq_true (by omega)
  have p1 : (0 ≤ (i : Int) + 1) = True := eq_true (by omega)
  have p2 : (0 ≤ (i : Int) + 2) = True := eq_true (by omega)
  have n1 : ((i : Int) + 1).toNat = i + 1 := by omega
  have n2 : ((i : Int) + 2).toNat = i + 2 := by omega
  simp -implicitDefEqProofs [hb0, c1', c2', e, w2, hwr, g2, q1, q1', q2', h2, p1, p2, n1, n2]
  refine ACallGS.of (fun _ => address_isHex s[i + 1]) rfl ?_
  cases x1 : hexC s[i + 1]
  · rw [hi.bad hlt hin (.inr ⟨h37, by rw [hex2_at, dif_pos h2, x1]; rfl⟩)] at eR
    subst eR
    simp -implicitDefEqProofs [w2, hwr, g2, q1, q1', q2', h2, p1, p2, n1, n2]
    refine ACallGS.of (fun h => by cases h) (r := .x (.one (.bool false))) rfl ?_
    simp -implicitDefEqProofs
  · simp -implicitDefEqProofs [w2, hwr, g2, q1, q1', q2', h2, p1, p2, n1, n2]
    refine ACallGS.of (fun _ => address_isHex s[i + 2]) rfl ?_
    cases x2 : hexC s[i + 2]
    · rw [hi.bad hlt hin (.inr ⟨h37, by rw [hex2_at, dif_pos h2, x2]; simp⟩)] at eR
      subst eR
      simp -implicitDefEqProofs [w2, hwr, g2]
    · have w3 : IntKind.i64.wrap ((i : Int) + 2 + 1) = (i : Int) + 3 := by rw [wrapS _ (by omega)]; omega
      simp -implicitDefEqProofs [w2, hwr, g2]
      refine Again.of (i + 3) (hi.three hw h2 hin hr x1 x2) (by omega) (by simp [w3])
end Go.Proofs.YtklnopamfncfgaaGreatDoor
namespace Go.Proofs.YtklnopamfncfgaaGreatDoor
open Go Go.Ab
set_option linter.unusedSectionVars false
variable [Amb]
set_option maxRecDepth 100000
set_option maxHeartbeats 4000000
theorem address_IsRow (s w : List UInt8) (hs : s.length ≤ 4000000000000000) (hw : ∀ c, w.contains c = true → hexC c = false) : ACalls Tryz.prog 100 [.one (.str s), .one (.str w)] (.x (.one (.bool (rowB w s)))) := by
  refine ACalls.of mixed (fn := Tryz.f100) (by kernel_rfl) (by kernel_rfl) rfl (by kernel_rfl) (by simp [Tryz.f100]) (fun hok => ?_)
  simp -implicitDefEqProofs
  refine ACallK.of (address_rowEnd s w hs hw) ?_
  unfold rowB
  cases h : (rowEndL w s).2
  · simp -implicitDefEqProofs
  · simp -implicitDefEqProofs
    rw [Bool.eq_iff_iff]; simp
    omega
theorem ref1_rowByte (c : UInt8) : ACalls Tryz.prog 226 [byteX c] (.x (.one (.bool (rowC c)))) := by
  refine ACalls.of mixed (fn := Tryz.f226) (by kernel_rfl) (by kernel_rfl) rfl (by kernel_rfl) (by simp [Tryz.f226]) (fun hok => ?_)
  by_cases c1 : 33 ≤ c.toNat
  rotate_left
  · have c1' : (33 ≤ (c.toNat : Int)) = False := eq_false (by omega)
    have hr : rowC c = false := by unfold rowC; simp [c1]
    rw [hr]
    simp -implicitDefEqProofs [c1', c1]
    refine ACallGS.of (fun h => by cases h) (r := .x (.one (.int .i64 0))) rfl ?_
    simp -implicitDefEqProofs [c1', c1]
  have c1' : (33 ≤ (c.toNat : Int)) = True := eq_true (by omega)
  by_cases c2 : c.toNat ≤ 126
  rotate_left
  · have c2' : ((c.toNat : Int) ≤ 126) = False := eq_false (by omega)
    have hr : rowC c = false := by unfold rowC; simp [c2]
    rw [hr]
    simp -implicitDefEqProofs [c1', c1, c2', c2]
    refine ACallGS.of (fun h => by cases h) (r := .x (.one (.int .i64 0))) rfl ?_
    simp -implicitDefEqProofs [c1', c1, c2', c2]
  have c2' : ((c.toNat : Int) ≤ 126) = True := eq_true (by omega)
  by_cases c3 : c = 96
  · have c3' : ((c.toNat : Int) = 96) = True := eq_true ((u8_int 96 (by omega)).2 c3)
    have c3n : ((c.toNat : Int) != 96) = false := by rw [bne_eq_false_iff_eq]; exact (u8_int 96 (by omega)).2 c3
    have hr : rowC c = false := by subst c3; decide
    rw [hr]
    simp -implicitDefEqProofs [c1', c1, c2', c2, c3', c3n]
    refine ACallGS.of (fun h => by cases h) (r := .x (.one (.int .i64 0))) rfl ?_
    simp -implicitDefEqProofs [c1', c1, c2', c2, c3', c3n]
  have c3' : ((c.toNat : Int) = 96) = False := eq_false (fun h => c3 ((u8_int 96 (by omega)).1 h))
  have hr : rowC c = !([34, 35, 60, 62, 92, 94, 123, 124, 125] : List UInt8).contains c := by
    have hb : badCs.contains c = ([34, 35, 60, 62, 92, 94, 123, 124, 125] : List UInt8).contains c := by
      unfold badCs; simp [c3]
    unfold rowC
    rw [hb]
    simp [c1, c2]
  rw [hr]
  simp -implicitDefEqProofs [c1', c1, c2', c2, c3']
  refine ACallGS.of (fun _ => strings_IndexByte [34, 35, 60, 62, 92, 94, 123, 124, 125] c) rfl ?_
  cases hin : ([34, 35, 60, 62, 92, 94, 123, 124, 125] : List UInt8).contains c
  · have g : atByte [34, 35, 60, 62, 92, 94, 123, 124, 125] c = -1 := atByte_no hin
    simp -implicitDefEqProofs [g, c3']
  · have g : (atByte [34, 35, 60, 62, 92, 94, 123, 124, 125] c < 0) = False := eq_false (by have := atByte_in hin; omega)
    simp -implicitDefEqProofs [g]
def badI (w s : List UInt8) : Int := if rowB w s = true then -1 else (rowEndL w s).1
theorem badI_of {w s : List UInt8} {i : Nat} {b : Bool} (h : rowEndL w s = (i, b)) (hi : i < s.length) : badI w s = i := by
  unfold badI rowB
  rw [h, if_neg (by simp; omega)]
theorem badI_no {w s : List UInt8} (h : rowEndL w s = (s.length, true)) : badI w s = -1 := by
  unfold badI rowB
  rw [h, if_pos (by simp)]
theorem single_contains {c d : UInt8} : ([c] : List UInt8).contains d = decide (d = c) := by
  by_cases h : d = c <;> simp [h]
theorem ref1_rowBad (s : List UInt8) (c : UInt8) (hs : s.length ≤ 4000000000000000) : ACalls Tryz.prog 185 [.one (.str s), byteX c] (.x (.one (.int .i64 (badI [c] s)))) := by
  refine ACalls.of mixed (fn := Tryz.f185) (by kernel_rfl) (by kernel_rfl) rfl (by kernel_rfl) (by simp [Tryz.f185]) (fun hok => ?_)
  obtain ⟨R, eR⟩ : ∃ R, R = badI [c] s := ⟨_, rfl⟩
  rw [← eR]
  simp -implicitDefEqProofs
  refine ALoopS.of Nat (fun i => [(0, .x (.one (.str s))), (1, .x (byteX c)), (5, .x (.one (.int .i64 i)))]) (RowAt [c] s) (fun i => s.length - i) 0 (RowAt.zero [c] s) ?_ ?_
  · simp
  intro i hi
  by_cases hlt : i < s.length
  rotate_left
  · have hlt' : ((i : Int) < (s.length : Int)) = False := eq_false (by omega)
    rw [badI_no (hi.done hlt)] at eR
    subst eR
    simp -implicitDefEqProofs [hlt, hlt']
  have hlt' : ((i : Int) < (s.length : Int)) = True := eq_true (by omega)
  have hwr : IntKind.i64.wrap ((i : Int) + 1) = (i : Int) + 1 := wrapS _ (by omega)
  simp -implicitDefEqProofs [hlt, hlt']
  refine ACallK.of (ref1_rowByte s[i]) ?_
  by_cases hc : s[i] = c
  · have e : ((s[i].toNat : Int) = (c.toNat : Int)) = True := eq_true (by rw [hc])
    have e2 : (s[i].toNat = c.toNat) = True := eq_true (by rw [hc])
    rw [badI_of (hi.hit hlt (by rw [single_contains]; simp [hc])) hlt] at eR
    subst eR
    simp -implicitDefEqProofs [e, e2, hlt, hlt']
  have e : ((s[i].toNat : Int) = (c.toNat : Int)) = False := eq_false (fun h => hc (by rw [← UInt8.toNat_inj]; omega))
  have e2 : (s[i].toNat = c.toNat) = False := eq_false (fun h => hc (UInt8.toNat_inj.1 h))
  have hin : ([c] : List UInt8).contains s[i] = false := by rw [single_contains]; simp [hc]
  cases hr : rowC s[i]
  · rw [badI_of (hi.bad hlt hin (.inl hr)) hlt] at eR
    subst eR
    simp -implicitDefEqProofs [e, e2]
  by_cases h37 : s[i] = 37
  rotate_left
  · have f : ((s[i].toNat : Int) = 37) = False := eq_false (fun h => h37 (u8_37.1 h))
    have fb : ((s[i].toNat : Int) == 37) = false := by simpa using f
    simp -implicitDefEqProofs [e, e2, f, fb, hlt, hlt']
    refine ACallGS.of (fun h => by cases h) (r := .x (.one (.bool false))) rfl ?_
    simp -implicitDefEqProofs [e, e2, f, fb, hlt, hlt']
    refine ACallGS.of (fun h => by cases h) (r := .x (.one (.bool false))) rfl ?_
    simp -implicitDefEqProofs [e, e2, f, fb, hlt, hlt']
    refine Again.of (i + 1) (hi.step hlt hin hr (fun e => absurd e h37)) (by omega) (by simp [hwr])
  have f : ((s[i].toNat : Int) = 37) = True := eq_true (u8_37.2 h37)
  have fb : ((s[i].toNat : Int) == 37) = true := by simpa using f
  have w2 : IntKind.i64.wrap ((i : Int) + 2) = (i : Int) + 2 := wrapS _ (by omega)
  by_cases h2 : i + 2 < s.length
  rotate_left
  · have g2 : ((s.length : Int) ≤ (i : Int) + 2) = True := eq_true (by omega)
    rw [badI_of (hi.bad hlt hin (.inr ⟨h37, by rw [hex2_at, dif_neg h2]⟩)) hlt] at eR
    subst eR
    simp -implicitDefEqProofs [e, e2, f, fb, w2, g2, hlt, hlt']
    refine ACallGS.of (fun h => by cases h) (r := .x (.one (.bool false))) rfl ?_
    simp -implicitDefEqProofs [f, fb, g2, hr]
    refine ACallGS.of (fun h => by cases h) (r := .x (.one (.bool false))) rfl ?_
    simp -implicitDefEqProofs [f, fb, g2, hr]
  have g2 : ((s.length : Int) ≤ (i : Int) + 2) = False := eq_false (by omega)
  have q1 : i + 1 < s.length := by omega
  have q1' : ((i : Int) + 1 < (s.length : Int)) = True := eq_true (by omega)
  have q2' : ((i : Int) + 2 < (s.length : Int)) = True := eq_true (by omega)
  have p1 : (0 ≤ (i : Int) + 1) = True := eq_true (by omega)
  have p2 : (0 ≤ (i : Int) + 2) = True := eq_true (by omega)
  have n1 : ((i : Int) + 1).toNat = i + 1 := by omega
  have n2 : ((i : Int) + 2).toNat = i + 2 := by omega
  simp -implicitDefEqProofs [e, e2, f, fb, w2, hwr, g2, hlt, hlt', q1, q1', q2', h2, p1, p2, n1, n2]
  refine ACallGS.of (fun _ => ref1_hex s[i + 1]) rfl ?_
  cases x1 : hexC s[i + 1]
  · rw [badI_of (hi.bad hlt hin (.inr ⟨h37, by rw [hex2_at, dif_pos h2, x1]; rfl⟩)) hlt] at eR
    subst eR
    simp -implicitDefEqProofs [f, fb, w2, hwr, g2, q1, q1', q2', h2, p1, p2, n1, n2]
    refine ACallGS.of (fun h => by cases h) (r := .x (.one (.bool false))) rfl ?_
    simp -implicitDefEqProofs
  · simp -implicitDefEqProofs [w2, hwr, g2, q1, q1', q2', h2, p1, p2, n1, n2]
    refine ACallGS.of (fun _ => ref1_hex s[i + 2]) rfl ?_
    cases x2 : hexC s[i + 2]
    · rw [badI_of (hi.bad hlt hin (.inr ⟨h37, by rw [hex2_at, dif_pos h2, x2]; simp⟩)) hlt] at eR
      subst eR
      simp -implicitDefEqProofs [f, fb, w2, hwr, g2]
    · simp -implicitDefEqProofs [w2, hwr, g2]
      refine Again.of (i + 1) (hi.step hlt hin hr (fun _ => by rw [hex2_at, dif_pos h2, x1, x2]; rfl)) (by omega) (by simp [hwr])
theorem rowEndL_zero : ∀ s : List UInt8, (rowEndL [0] s).1 = (rowEndL [] s).1 ∧ rowB [0] s = rowB [] s
  | [] => ⟨rfl, rfl⟩
  | d :: r => by
    have ih := rowEndL_zero r
    by_cases h0 : d = 0
    · subst h0
      have h1 : rowC 0 = false := by decide
      have e1 : rowEndL [0] (0 :: r) = (0, true) := by rw [rowEndL, if_pos (by decide)]
      have e2 : rowEndL [] (0 :: r) = (0, false) := by rw [rowEndL, if_neg (by decide), if_pos (.inl h1)]
      unfold rowB
      rw [e1, e2]
      exact ⟨rfl, by simp⟩
    · by_cases hb : rowC d = false ∨ (d = 37 ∧ hex2 r = false)
      · have e1 : rowEndL [0] (d :: r) = (0, false) := by rw [rowEndL, if_neg (by rw [single_contains]; simp [h0]), if_pos hb]
        have e2 : rowEndL [] (d :: r) = (0, false) := by rw [rowEndL, if_neg (by simp), if_pos hb]
        unfold rowB
        rw [e1, e2]
        exact ⟨rfl, rfl⟩
      · have e1 : rowEndL [0] (d :: r) = ((rowEndL [0] r).1 + 1, (rowEndL [0] r).2) := by rw [rowEndL, if_neg (by rw [single_contains]; simp [h0]), if_neg hb]
        have e2 : rowEndL [] (d :: r) = ((rowEndL [] r).1 + 1, (rowEndL [] r).2) := by rw [rowEndL, if_neg (by simp), if_neg hb]
        unfold rowB at ih ⊢
        rw [e1, e2]
        refine ⟨by simp only; rw [ih.1], ?_⟩
        have := ih.2
        simp only [List.length_cons, Nat.add_right_cancel_iff]
        exact this
theorem badI_neg {w s : List UInt8} : decide (badI w s < 0) = rowB w s := by
  unfold badI
  cases rowB w s
  · simp
  · simp
theorem ref1_IsRow (s : List UInt8) (hs : s.length ≤ 4000000000000000) : ACalls Tryz.prog 119 [.one (.str s)] (.x (.one (.bool (rowB [] s)))) := by
  refine ACalls.of mixed (fn := Tryz.f119) (by kernel_rfl) (by kernel_rfl) rfl (by kernel_rfl) (by simp [Tryz.f119]) (fun hok => ?_)
  simp -implicitDefEqProofs
  refine ACallK.of (ref1_rowBad s 0 hs) ?_
  have := badI_neg (w := [0]) (s := s)
  rw [(rowEndL_zero s).2] at this
  simp -implicitDefEqProofs [this]
theorem ref1_IsPath (s : List UInt8) (hs : s.length ≤ 4000000000000000) : ACalls Tryz.prog 118 [.one (.str s)] (.x (.one (.bool (pathB s)))) := by
  refine ACalls.of mixed (fn := Tryz.f118) (by kernel_rfl) (by kernel_rfl) rfl (by kernel_rfl) (by simp [Tryz.f118]) (fun hok => ?_)
  unfold pathB
  cases s with
  | nil =>
    simp -implicitDefEqProofs
    refine ACallGS.of (fun h => by cases h) (r := .x (.one (.int .i64 0))) rfl ?_
    simp -implicitDefEqProofs
  | cons a r =>
    obtain ⟨s, es⟩ : ∃ s, s = a :: r := ⟨_, rfl⟩
    have hne : ¬ s = [] := by rw [es]; simp
    have hp : 0 < s.length := by rw [es]; simp
    have hd : s.head? = some s[0] := by rw [List.head?_eq_getElem?, List.getElem?_eq_getElem hp]
    rw [← es] at hs ⊢
    rw [hd]
    have hb := badI_neg (w := [63]) (s := s)
    by_cases h47 : s[0] = 47
    · have f : ((s[0].toNat : Int) = 47) = True := eq_true ((u8_int 47 (by omega)).2 h47)
      have fb : ((s[0].toNat : Int) == 47) = true := by simpa using f
      simp -implicitDefEqProofs [hne, hp, f, fb]
      refine ACallGS.of (fun _ => ref1_rowBad s 63 hs) rfl ?_
      simp -implicitDefEqProofs [hne, hp, f, fb, hb, h47]
    · have f : ((s[0].toNat : Int) = 47) = False := eq_false (fun h => h47 ((u8_int 47 (by omega)).1 h))
      have fb : ((s[0].toNat : Int) == 47) = false := by simpa using f
      simp -implicitDefEqProofs [hne, hp, f, fb]
      refine ACallGS.of (fun h => by cases h) (r := .x (.one (.int .i64 0))) rfl ?_
      simp -implicitDefEqProofs [hne, hp, f, fb, h47]
theorem ref1_isScheme (s : List UInt8) : ACalls Tryz.prog 115 [.one (.str s)] (.x (.one (.bool (schemeB s)))) := by
  refine ACalls.of mixed (fn := Tryz.f115) (by kernel_rfl) (by kernel_rfl) rfl (by kernel_rfl) (by simp [Tryz.f115]) (fun hok => ?_)
  simp -implicitDefEqProofs
  refine ACallK.of (ref1_Small s) ?_
  unfold schemeB httpL httpsL
  by_cases h : smallL s = [104, 116, 116, 112]
  · simp -implicitDefEqProofs [h]
    refine ACallGS.of (fun h => by cases h) (r := .x (.one (.str []))) rfl ?_
    simp -implicitDefEqProofs [h]
  · simp -implicitDefEqProofs [h]
    refine ACallGS.of (fun _ => ref1_Small s) rfl ?_
    simp -implicitDefEqProofs [h]
    have h' : (smallL s == [104, 116, 116, 112]) = false := by simpa using h
    rw [h', Bool.false_or, Bool.eq_iff_iff]
    simp
end Go.Proofs.YtklnopamfncfgaaGreatDoor
