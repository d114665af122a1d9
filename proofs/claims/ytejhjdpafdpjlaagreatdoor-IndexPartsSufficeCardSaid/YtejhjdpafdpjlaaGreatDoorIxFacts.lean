/- A part of the proof: lemmas and contracts of functions. -/
import Derived.Test.YtejhjdpafdpjlaaGreatDoorChecked
import Derived.KernelRfl
import Derived.Test.YtejhjdpafdpjlaaGreatDoorAbJ4
namespace Go.Proofs.YtejhjdpafdpjlaaGreatDoor
open Go Go.Ab
@[simp] theorem ix_tk_2 : tk Tryz.prog 2 = TK.one := by kernel_rfl
@[simp] theorem ix_sliceT_2 : sliceT Tryz.prog 2 = none := by kernel_rfl
@[simp] theorem ix_isStringT_2 : isStringT Tryz.prog 2 = false := by kernel_rfl
@[simp] theorem ix_isSliceT_2 : isSliceT Tryz.prog 2 = false := by kernel_rfl
@[simp] theorem ix_mapT_2 : mapT Tryz.prog 2 = none := by kernel_rfl
@[simp] theorem ix_zeroX_2 : zeroX Tryz.prog 2 = some
  (XV.one (CV.int IntKind.i64 0)) := by kernel_rfl
@[simp] theorem ix_zeroOf_2 : zeroOf Tryz.prog 2 = some [CV.int IntKind.i64 0] := by kernel_rfl
@[simp] theorem ix_rowT_2 : rowT Tryz.prog 2 = none := by kernel_rfl
@[simp] theorem ix_bytesT_2 : bytesT Tryz.prog 2 = some 8 := by kernel_rfl
@[simp] theorem ix_buildT_2 : buildT Tryz.prog 2 = none := by kernel_rfl
@[simp] theorem ix_eqT_2 : eqT Tryz.prog 2 = none := by kernel_rfl
@[simp] theorem ix_OneOk_2 : OneOk Tryz.prog 2 = true := by kernel_rfl
@[simp] theorem ix_intT_2 : intT Tryz.prog 2 = some IntKind.i64 := by kernel_rfl
@[simp] theorem ix_byteT_2 : byteT Tryz.prog 2 = false := by kernel_rfl
@[simp] theorem ix_byteSliceT_2 : byteSliceT Tryz.prog 2 = false := by kernel_rfl
@[simp] theorem ix_tk_3 : tk Tryz.prog 3 = TK.one := by kernel_rfl
@[simp] theorem ix_sliceT_3 : sliceT Tryz.prog 3 = none := by kernel_rfl
@[simp] theorem ix_isStringT_3 : isStringT Tryz.prog 3 = false := by kernel_rfl
@[simp] theorem ix_isSliceT_3 : isSliceT Tryz.prog 3 = false := by kernel_rfl
@[simp] theorem ix_mapT_3 : mapT Tryz.prog 3 = none := by kernel_rfl
@[simp] theorem ix_zeroX_3 : zeroX Tryz.prog 3 = some
  (XV.one (CV.int IntKind.i64 0)) := by kernel_rfl
@[simp] theorem ix_zeroOf_3 : zeroOf Tryz.prog 3 = some [CV.int IntKind.i64 0] := by kernel_rfl
@[simp] theorem ix_rowT_3 : rowT Tryz.prog 3 = none := by kernel_rfl
@[simp] theorem ix_bytesT_3 : bytesT Tryz.prog 3 = some 8 := by kernel_rfl
@[simp] theorem ix_buildT_3 : buildT Tryz.prog 3 = none := by kernel_rfl
@[simp] theorem ix_eqT_3 : eqT Tryz.prog 3 = none := by kernel_rfl
@[simp] theorem ix_OneOk_3 : OneOk Tryz.prog 3 = true := by kernel_rfl
@[simp] theorem ix_intT_3 : intT Tryz.prog 3 = some IntKind.i64 := by kernel_rfl
@[simp] theorem ix_byteT_3 : byteT Tryz.prog 3 = false := by kernel_rfl
@[simp] theorem ix_byteSliceT_3 : byteSliceT Tryz.prog 3 = false := by kernel_rfl
@[simp] theorem ix_tk_4 : tk Tryz.prog 4 = TK.one := by kernel_rfl
@[simp] theorem ix_sliceT_4 : sliceT Tryz.prog 4 = none := by kernel_rfl
@[simp] theorem ix_isStringT_4 : isStringT Tryz.prog 4 = false := by kernel_rfl
@[simp] theorem ix_isSliceT_4 : isSliceT Tryz.prog 4 = false := by kernel_rfl
@[simp] theorem ix_mapT_4 : mapT Tryz.prog 4 = none := by kernel_rfl
@[simp] theorem ix_zeroX_4 : zeroX Tryz.prog 4 = some (XV.one (CV.bool false)) := by kernel_rfl
@[simp] theorem ix_zeroOf_4 : zeroOf Tryz.prog 4 = some [CV.bool false] := by kernel_rfl
@[simp] theorem ix_rowT_4 : rowT Tryz.prog 4 = none := by kernel_rfl
@[simp] theorem ix_bytesT_4 : bytesT Tryz.prog 4 = some 1 := by kernel_rfl
@[simp] theorem ix_buildT_4 : buildT Tryz.prog 4 = none := by kernel_rfl
@[simp] theorem ix_eqT_4 : eqT Tryz.prog 4 = none := by kernel_rfl
@[simp] theorem ix_OneOk_4 : OneOk Tryz.prog 4 = true := by kernel_rfl
@[simp] theorem ix_intT_4 : intT Tryz.prog 4 = none := by kernel_rfl
@[simp] theorem ix_byteT_4 : byteT Tryz.prog 4 = false := by kernel_rfl
@[simp] theorem ix_byteSliceT_4 : byteSliceT Tryz.prog 4 = false := by kernel_rfl
@[simp] theorem ix_tk_5 : tk Tryz.prog 5 = TK.one := by kernel_rfl
@[simp] theorem ix_sliceT_5 : sliceT Tryz.prog 5 = none := by kernel_rfl
@[simp] theorem ix_isStringT_5 : isStringT Tryz.prog 5 = false := by kernel_rfl
@[simp] theorem ix_isSliceT_5 : isSliceT Tryz.prog 5 = false := by kernel_rfl
@[simp] theorem ix_mapT_5 : mapT Tryz.prog 5 = none := by kernel_rfl
@[simp] theorem ix_zeroX_5 : zeroX Tryz.prog 5 = some
  (XV.one (CV.int IntKind.u8 0)) := by kernel_rfl
@[simp] theorem ix_zeroOf_5 : zeroOf Tryz.prog 5 = some [CV.int IntKind.u8 0] := by kernel_rfl
@[simp] theorem ix_rowT_5 : rowT Tryz.prog 5 = none := by kernel_rfl
@[simp] theorem ix_bytesT_5 : bytesT Tryz.prog 5 = some 1 := by kernel_rfl
@[simp] theorem ix_buildT_5 : buildT Tryz.prog 5 = none := by kernel_rfl
@[simp] theorem ix_eqT_5 : eqT Tryz.prog 5 = none := by kernel_rfl
@[simp] theorem ix_OneOk_5 : OneOk Tryz.prog 5 = true := by kernel_rfl
@[simp] theorem ix_intT_5 : intT Tryz.prog 5 = some IntKind.u8 := by kernel_rfl
@[simp] theorem ix_byteT_5 : byteT Tryz.prog 5 = true := by kernel_rfl
@[simp] theorem ix_byteSliceT_5 : byteSliceT Tryz.prog 5 = false := by kernel_rfl
@[simp] theorem ix_tk_9 : tk Tryz.prog 9 = TK.one := by kernel_rfl
@[simp] theorem ix_sliceT_9 : sliceT Tryz.prog 9 = none := by kernel_rfl
@[simp] theorem ix_isStringT_9 : isStringT Tryz.prog 9 = true := by kernel_rfl
@[simp] theorem ix_isSliceT_9 : isSliceT Tryz.prog 9 = false := by kernel_rfl
@[simp] theorem ix_mapT_9 : mapT Tryz.prog 9 = none := by kernel_rfl
@[simp] theorem ix_zeroX_9 : zeroX Tryz.prog 9 = some (XV.one (CV.str [])) := by kernel_rfl
@[simp] theorem ix_zeroOf_9 : zeroOf Tryz.prog 9 = some [CV.str []] := by kernel_rfl
@[simp] theorem ix_rowT_9 : rowT Tryz.prog 9 = none := by kernel_rfl
@[simp] theorem ix_bytesT_9 : bytesT Tryz.prog 9 = some 16 := by kernel_rfl
@[simp] theorem ix_buildT_9 : buildT Tryz.prog 9 = none := by kernel_rfl
@[simp] theorem ix_eqT_9 : eqT Tryz.prog 9 = none := by kernel_rfl
@[simp] theorem ix_OneOk_9 : OneOk Tryz.prog 9 = true := by kernel_rfl
@[simp] theorem ix_intT_9 : intT Tryz.prog 9 = none := by kernel_rfl
@[simp] theorem ix_byteT_9 : byteT Tryz.prog 9 = false := by kernel_rfl
@[simp] theorem ix_byteSliceT_9 : byteSliceT Tryz.prog 9 = false := by kernel_rfl
@[simp] theorem ix_tk_13 : tk Tryz.prog 13 = TK.agg 2 := by kernel_rfl
@[simp] theorem ix_sliceT_13 : sliceT Tryz.prog 13 = none := by kernel_rfl
@[simp] theorem ix_isStringT_13 : isStringT Tryz.prog 13 = false := by kernel_rfl
@[simp] theorem ix_isSliceT_13 : isSliceT Tryz.prog 13 = false := by kernel_rfl
@[simp] theorem ix_mapT_13 : mapT Tryz.prog 13 = none := by kernel_rfl
@[simp] theorem ix_zeroX_13 : zeroX Tryz.prog 13 = some
  (XV.agg [CV.str [], CV.int IntKind.u64 0]) := by kernel_rfl
@[simp] theorem ix_zeroOf_13 : zeroOf Tryz.prog 13 = some
  [CV.str [], CV.int IntKind.u64 0] := by kernel_rfl
@[simp] theorem ix_rowT_13 : rowT Tryz.prog 13 = none := by kernel_rfl
@[simp] theorem ix_bytesT_13 : bytesT Tryz.prog 13 = some 24 := by kernel_rfl
@[simp] theorem ix_buildT_13 : buildT Tryz.prog 13 = some
  ([CV.str [], CV.int IntKind.u64 0], [(0, 1), (1, 1)]) := by kernel_rfl
@[simp] theorem ix_eqT_13 : eqT Tryz.prog 13 = none := by kernel_rfl
@[simp] theorem ix_OneOk_13 : OneOk Tryz.prog 13 = true := by kernel_rfl
@[simp] theorem ix_intT_13 : intT Tryz.prog 13 = none := by kernel_rfl
@[simp] theorem ix_byteT_13 : byteT Tryz.prog 13 = false := by kernel_rfl
@[simp] theorem ix_byteSliceT_13 : byteSliceT Tryz.prog 13 = false := by kernel_rfl
@[simp] theorem ix_fieldAt_13_0 : fieldAt Tryz.prog 13 0 = some (0, TK.one) := by kernel_rfl
@[simp] theorem ix_fieldAt_13_1 : fieldAt Tryz.prog 13 1 = some (1, TK.one) := by kernel_rfl
@[simp] theorem ix_tk_22 : tk Tryz.prog 22 = TK.one := by kernel_rfl
@[simp] theorem ix_sliceT_22 : sliceT Tryz.prog 22 = some (30, 9) := by kernel_rfl
@[simp] theorem ix_isStringT_22 : isStringT Tryz.prog 22 = false := by kernel_rfl
@[simp] theorem ix_isSliceT_22 : isSliceT Tryz.prog 22 = true := by kernel_rfl
@[simp] theorem ix_mapT_22 : mapT Tryz.prog 22 = none := by kernel_rfl
@[simp] theorem ix_zeroX_22 : zeroX Tryz.prog 22 = some (XV.one CV.nil) := by kernel_rfl
@[simp] theorem ix_zeroOf_22 : zeroOf Tryz.prog 22 = some [CV.nil] := by kernel_rfl
@[simp] theorem ix_rowT_22 : rowT Tryz.prog 22 = some
  (30, 9,
    [CV.str [], CV.int IntKind.i64 0, CV.int IntKind.i64 0, CV.str [], CV.str [], CV.str [],
      CV.int IntKind.i64 0, CV.int IntKind.i64 0, CV.bool false]) := by kernel_rfl
@[simp] theorem ix_bytesT_22 : bytesT Tryz.prog 22 = some 24 := by kernel_rfl
@[simp] theorem ix_buildT_22 : buildT Tryz.prog 22 = none := by kernel_rfl
@[simp] theorem ix_eqT_22 : eqT Tryz.prog 22 = none := by kernel_rfl
@[simp] theorem ix_OneOk_22 : OneOk Tryz.prog 22 = true := by kernel_rfl
@[simp] theorem ix_intT_22 : intT Tryz.prog 22 = none := by kernel_rfl
@[simp] theorem ix_byteT_22 : byteT Tryz.prog 22 = false := by kernel_rfl
@[simp] theorem ix_byteSliceT_22 : byteSliceT Tryz.prog 22 = false := by kernel_rfl
@[simp] theorem ix_tk_23 : tk Tryz.prog 23 = TK.one := by kernel_rfl
@[simp] theorem ix_sliceT_23 : sliceT Tryz.prog 23 = none := by kernel_rfl
@[simp] theorem ix_isStringT_23 : isStringT Tryz.prog 23 = false := by kernel_rfl
@[simp] theorem ix_isSliceT_23 : isSliceT Tryz.prog 23 = false := by kernel_rfl
@[simp] theorem ix_mapT_23 : mapT Tryz.prog 23 = none := by kernel_rfl
@[simp] theorem ix_zeroX_23 : zeroX Tryz.prog 23 = some
  (XV.one (CV.int IntKind.i64 0)) := by kernel_rfl
@[simp] theorem ix_zeroOf_23 : zeroOf Tryz.prog 23 = some [CV.int IntKind.i64 0] := by kernel_rfl
@[simp] theorem ix_rowT_23 : rowT Tryz.prog 23 = none := by kernel_rfl
@[simp] theorem ix_bytesT_23 : bytesT Tryz.prog 23 = some 8 := by kernel_rfl
@[simp] theorem ix_buildT_23 : buildT Tryz.prog 23 = none := by kernel_rfl
@[simp] theorem ix_eqT_23 : eqT Tryz.prog 23 = none := by kernel_rfl
@[simp] theorem ix_OneOk_23 : OneOk Tryz.prog 23 = true := by kernel_rfl
@[simp] theorem ix_intT_23 : intT Tryz.prog 23 = some IntKind.i64 := by kernel_rfl
@[simp] theorem ix_byteT_23 : byteT Tryz.prog 23 = false := by kernel_rfl
@[simp] theorem ix_byteSliceT_23 : byteSliceT Tryz.prog 23 = false := by kernel_rfl
@[simp] theorem ix_tk_27 : tk Tryz.prog 27 = TK.agg 2 := by kernel_rfl
@[simp] theorem ix_sliceT_27 : sliceT Tryz.prog 27 = none := by kernel_rfl
@[simp] theorem ix_isStringT_27 : isStringT Tryz.prog 27 = false := by kernel_rfl
@[simp] theorem ix_isSliceT_27 : isSliceT Tryz.prog 27 = false := by kernel_rfl
@[simp] theorem ix_mapT_27 : mapT Tryz.prog 27 = none := by kernel_rfl
@[simp] theorem ix_zeroX_27 : zeroX Tryz.prog 27 = some
  (XV.agg [CV.int IntKind.i64 0, CV.int IntKind.i64 0]) := by kernel_rfl
@[simp] theorem ix_zeroOf_27 : zeroOf Tryz.prog 27 = some
  [CV.int IntKind.i64 0, CV.int IntKind.i64 0] := by kernel_rfl
@[simp] theorem ix_rowT_27 : rowT Tryz.prog 27 = none := by kernel_rfl
@[simp] theorem ix_bytesT_27 : bytesT Tryz.prog 27 = some 16 := by kernel_rfl
@[simp] theorem ix_buildT_27 : buildT Tryz.prog 27 = some
  ([CV.int IntKind.i64 0, CV.int IntKind.i64 0], [(0, 1), (1, 1)]) := by kernel_rfl
@[simp] theorem ix_eqT_27 : eqT Tryz.prog 27 = some [BK.i, BK.i] := by kernel_rfl
@[simp] theorem ix_OneOk_27 : OneOk Tryz.prog 27 = true := by kernel_rfl
@[simp] theorem ix_intT_27 : intT Tryz.prog 27 = none := by kernel_rfl
@[simp] theorem ix_byteT_27 : byteT Tryz.prog 27 = false := by kernel_rfl
@[simp] theorem ix_byteSliceT_27 : byteSliceT Tryz.prog 27 = false := by kernel_rfl
@[simp] theorem ix_fieldAt_27_0 : fieldAt Tryz.prog 27 0 = some (0, TK.one) := by kernel_rfl
@[simp] theorem ix_fieldAt_27_1 : fieldAt Tryz.prog 27 1 = some (1, TK.one) := by kernel_rfl
@[simp] theorem ix_tk_28 : tk Tryz.prog 28 = TK.agg 2 := by kernel_rfl
@[simp] theorem ix_sliceT_28 : sliceT Tryz.prog 28 = none := by kernel_rfl
@[simp] theorem ix_isStringT_28 : isStringT Tryz.prog 28 = false := by kernel_rfl
@[simp] theorem ix_isSliceT_28 : isSliceT Tryz.prog 28 = false := by kernel_rfl
@[simp] theorem ix_mapT_28 : mapT Tryz.prog 28 = none := by kernel_rfl
@[simp] theorem ix_zeroX_28 : zeroX Tryz.prog 28 = some
  (XV.agg [CV.int IntKind.i64 0, CV.int IntKind.i64 0]) := by kernel_rfl
@[simp] theorem ix_zeroOf_28 : zeroOf Tryz.prog 28 = some
  [CV.int IntKind.i64 0, CV.int IntKind.i64 0] := by kernel_rfl
@[simp] theorem ix_rowT_28 : rowT Tryz.prog 28 = none := by kernel_rfl
@[simp] theorem ix_bytesT_28 : bytesT Tryz.prog 28 = some 16 := by kernel_rfl
@[simp] theorem ix_buildT_28 : buildT Tryz.prog 28 = some
  ([CV.int IntKind.i64 0, CV.int IntKind.i64 0], [(0, 1), (1, 1)]) := by kernel_rfl
@[simp] theorem ix_eqT_28 : eqT Tryz.prog 28 = some [BK.i, BK.i] := by kernel_rfl
@[simp] theorem ix_OneOk_28 : OneOk Tryz.prog 28 = true := by kernel_rfl
@[simp] theorem ix_intT_28 : intT Tryz.prog 28 = none := by kernel_rfl
@[simp] theorem ix_byteT_28 : byteT Tryz.prog 28 = false := by kernel_rfl
@[simp] theorem ix_byteSliceT_28 : byteSliceT Tryz.prog 28 = false := by kernel_rfl
@[simp] theorem ix_fieldAt_28_0 : fieldAt Tryz.prog 28 0 = some (0, TK.one) := by kernel_rfl
@[simp] theorem ix_fieldAt_28_1 : fieldAt Tryz.prog 28 1 = some (1, TK.one) := by kernel_rfl
@[simp] theorem ix_tk_29 : tk Tryz.prog 29 = TK.agg 9 := by kernel_rfl
@[simp] theorem ix_sliceT_29 : sliceT Tryz.prog 29 = none := by kernel_rfl
@[simp] theorem ix_isStringT_29 : isStringT Tryz.prog 29 = false := by kernel_rfl
@[simp] theorem ix_isSliceT_29 : isSliceT Tryz.prog 29 = false := by kernel_rfl
@[simp] theorem ix_mapT_29 : mapT Tryz.prog 29 = none := by kernel_rfl
@[simp] theorem ix_zeroX_29 : zeroX Tryz.prog 29 = some
  (XV.agg
    [CV.str [], CV.int IntKind.i64 0, CV.int IntKind.i64 0, CV.str [], CV.str [], CV.str [],
      CV.int IntKind.i64 0, CV.int IntKind.i64 0, CV.bool false]) := by kernel_rfl
@[simp] theorem ix_zeroOf_29 : zeroOf Tryz.prog 29 = some
  [CV.str [], CV.int IntKind.i64 0, CV.int IntKind.i64 0, CV.str [], CV.str [], CV.str [],
    CV.int IntKind.i64 0, CV.int IntKind.i64 0, CV.bool false] := by kernel_rfl
@[simp] theorem ix_rowT_29 : rowT Tryz.prog 29 = none := by kernel_rfl
@[simp] theorem ix_bytesT_29 : bytesT Tryz.prog 29 = some 104 := by kernel_rfl
@[simp] theorem ix_buildT_29 : buildT Tryz.prog 29 = some
  ([CV.str [], CV.int IntKind.i64 0, CV.int IntKind.i64 0, CV.str [], CV.str [], CV.str [],
      CV.int IntKind.i64 0, CV.int IntKind.i64 0, CV.bool false],
    [(0, 1), (1, 1), (2, 1), (3, 1), (4, 1), (5, 1), (6, 2), (8, 1)]) := by kernel_rfl
@[simp] theorem ix_eqT_29 : eqT Tryz.prog 29 = some
  [BK.s, BK.i, BK.i, BK.s, BK.s, BK.s, BK.i, BK.i, BK.b] := by kernel_rfl
@[simp] theorem ix_OneOk_29 : OneOk Tryz.prog 29 = true := by kernel_rfl
@[simp] theorem ix_intT_29 : intT Tryz.prog 29 = none := by kernel_rfl
@[simp] theorem ix_byteT_29 : byteT Tryz.prog 29 = false := by kernel_rfl
@[simp] theorem ix_byteSliceT_29 : byteSliceT Tryz.prog 29 = false := by kernel_rfl
@[simp] theorem ix_fieldAt_29_0 : fieldAt Tryz.prog 29 0 = some (0, TK.one) := by kernel_rfl
@[simp] theorem ix_fieldAt_29_1 : fieldAt Tryz.prog 29 1 = some (1, TK.one) := by kernel_rfl
@[simp] theorem ix_fieldAt_29_2 : fieldAt Tryz.prog 29 2 = some (2, TK.one) := by kernel_rfl
@[simp] theorem ix_fieldAt_29_3 : fieldAt Tryz.prog 29 3 = some (3, TK.one) := by kernel_rfl
@[simp] theorem ix_fieldAt_29_4 : fieldAt Tryz.prog 29 4 = some (4, TK.one) := by kernel_rfl
@[simp] theorem ix_fieldAt_29_5 : fieldAt Tryz.prog 29 5 = some (5, TK.one) := by kernel_rfl
@[simp] theorem ix_fieldAt_29_6 : fieldAt Tryz.prog 29 6 = some (6, TK.agg 2) := by kernel_rfl
@[simp] theorem ix_fieldAt_29_7 : fieldAt Tryz.prog 29 7 = some (8, TK.one) := by kernel_rfl
@[simp] theorem ix_tk_30 : tk Tryz.prog 30 = TK.agg 9 := by kernel_rfl
@[simp] theorem ix_sliceT_30 : sliceT Tryz.prog 30 = none := by kernel_rfl
@[simp] theorem ix_isStringT_30 : isStringT Tryz.prog 30 = false := by kernel_rfl
@[simp] theorem ix_isSliceT_30 : isSliceT Tryz.prog 30 = false := by kernel_rfl
@[simp] theorem ix_mapT_30 : mapT Tryz.prog 30 = none := by kernel_rfl
@[simp] theorem ix_zeroX_30 : zeroX Tryz.prog 30 = some
  (XV.agg
    [CV.str [], CV.int IntKind.i64 0, CV.int IntKind.i64 0, CV.str [], CV.str [], CV.str [],
      CV.int IntKind.i64 0, CV.int IntKind.i64 0, CV.bool false]) := by kernel_rfl
@[simp] theorem ix_zeroOf_30 : zeroOf Tryz.prog 30 = some
  [CV.str [], CV.int IntKind.i64 0, CV.int IntKind.i64 0, CV.str [], CV.str [], CV.str [],
    CV.int IntKind.i64 0, CV.int IntKind.i64 0, CV.bool false] := by kernel_rfl
@[simp] theorem ix_rowT_30 : rowT Tryz.prog 30 = none := by kernel_rfl
@[simp] theorem ix_bytesT_30 : bytesT Tryz.prog 30 = some 104 := by kernel_rfl
@[simp] theorem ix_buildT_30 : buildT Tryz.prog 30 = some
  ([CV.str [], CV.int IntKind.i64 0, CV.int IntKind.i64 0, CV.str [], CV.str [], CV.str [],
      CV.int IntKind.i64 0, CV.int IntKind.i64 0, CV.bool false],
    [(0, 1), (1, 1), (2, 1), (3, 1), (4, 1), (5, 1), (6, 2), (8, 1)]) := by kernel_rfl
@[simp] theorem ix_eqT_30 : eqT Tryz.prog 30 = some
  [BK.s, BK.i, BK.i, BK.s, BK.s, BK.s, BK.i, BK.i, BK.b] := by kernel_rfl
@[simp] theorem ix_OneOk_30 : OneOk Tryz.prog 30 = true := by kernel_rfl
@[simp] theorem ix_intT_30 : intT Tryz.prog 30 = none := by kernel_rfl
@[simp] theorem ix_byteT_30 : byteT Tryz.prog 30 = false := by kernel_rfl
@[simp] theorem ix_byteSliceT_30 : byteSliceT Tryz.prog 30 = false := by kernel_rfl
@[simp] theorem ix_fieldAt_30_0 : fieldAt Tryz.prog 30 0 = some (0, TK.one) := by kernel_rfl
@[simp] theorem ix_fieldAt_30_1 : fieldAt Tryz.prog 30 1 = some (1, TK.one) := by kernel_rfl
@[simp] theorem ix_fieldAt_30_2 : fieldAt Tryz.prog 30 2 = some (2, TK.one) := by kernel_rfl
@[simp] theorem ix_fieldAt_30_3 : fieldAt Tryz.prog 30 3 = some (3, TK.one) := by kernel_rfl
@[simp] theorem ix_fieldAt_30_4 : fieldAt Tryz.prog 30 4 = some (4, TK.one) := by kernel_rfl
@[simp] theorem ix_fieldAt_30_5 : fieldAt Tryz.prog 30 5 = some (5, TK.one) := by kernel_rfl
@[simp] theorem ix_fieldAt_30_6 : fieldAt Tryz.prog 30 6 = some (6, TK.agg 2) := by kernel_rfl
@[simp] theorem ix_fieldAt_30_7 : fieldAt Tryz.prog 30 7 = some (8, TK.one) := by kernel_rfl
@[simp] theorem ix_tk_32 : tk Tryz.prog 32 = TK.one := by kernel_rfl
@[simp] theorem ix_sliceT_32 : sliceT Tryz.prog 32 = some (37, 5) := by kernel_rfl
@[simp] theorem ix_isStringT_32 : isStringT Tryz.prog 32 = false := by kernel_rfl
@[simp] theorem ix_isSliceT_32 : isSliceT Tryz.prog 32 = true := by kernel_rfl
@[simp] theorem ix_mapT_32 : mapT Tryz.prog 32 = none := by kernel_rfl
@[simp] theorem ix_zeroX_32 : zeroX Tryz.prog 32 = some (XV.one CV.nil) := by kernel_rfl
@[simp] theorem ix_zeroOf_32 : zeroOf Tryz.prog 32 = some [CV.nil] := by kernel_rfl
@[simp] theorem ix_rowT_32 : rowT Tryz.prog 32 = some
  (37, 5,
    [CV.str [], CV.int IntKind.i64 0, CV.int IntKind.i64 0, CV.int IntKind.i64 0,
      CV.int IntKind.i64 0]) := by kernel_rfl
@[simp] theorem ix_bytesT_32 : bytesT Tryz.prog 32 = some 24 := by kernel_rfl
@[simp] theorem ix_buildT_32 : buildT Tryz.prog 32 = none := by kernel_rfl
@[simp] theorem ix_eqT_32 : eqT Tryz.prog 32 = none := by kernel_rfl
@[simp] theorem ix_OneOk_32 : OneOk Tryz.prog 32 = true := by kernel_rfl
@[simp] theorem ix_intT_32 : intT Tryz.prog 32 = none := by kernel_rfl
@[simp] theorem ix_byteT_32 : byteT Tryz.prog 32 = false := by kernel_rfl
@[simp] theorem ix_byteSliceT_32 : byteSliceT Tryz.prog 32 = false := by kernel_rfl
@[simp] theorem ix_tk_36 : tk Tryz.prog 36 = TK.agg 5 := by kernel_rfl
@[simp] theorem ix_sliceT_36 : sliceT Tryz.prog 36 = none := by kernel_rfl
@[simp] theorem ix_isStringT_36 : isStringT Tryz.prog 36 = false := by kernel_rfl
@[simp] theorem ix_isSliceT_36 : isSliceT Tryz.prog 36 = false := by kernel_rfl
@[simp] theorem ix_mapT_36 : mapT Tryz.prog 36 = none := by kernel_rfl
@[simp] theorem ix_zeroX_36 : zeroX Tryz.prog 36 = some
  (XV.agg
    [CV.str [], CV.int IntKind.i64 0, CV.int IntKind.i64 0, CV.int IntKind.i64 0,
      CV.int IntKind.i64 0]) := by kernel_rfl
@[simp] theorem ix_zeroOf_36 : zeroOf Tryz.prog 36 = some
  [CV.str [], CV.int IntKind.i64 0, CV.int IntKind.i64 0, CV.int IntKind.i64 0,
    CV.int IntKind.i64 0] := by kernel_rfl
@[simp] theorem ix_rowT_36 : rowT Tryz.prog 36 = none := by kernel_rfl
@[simp] theorem ix_bytesT_36 : bytesT Tryz.prog 36 = some 48 := by kernel_rfl
@[simp] theorem ix_buildT_36 : buildT Tryz.prog 36 = some
  ([CV.str [], CV.int IntKind.i64 0, CV.int IntKind.i64 0, CV.int IntKind.i64 0,
      CV.int IntKind.i64 0],
    [(0, 1), (1, 1), (2, 1), (3, 1), (4, 1)]) := by kernel_rfl
@[simp] theorem ix_eqT_36 : eqT Tryz.prog 36 = some [BK.s, BK.i, BK.i, BK.i, BK.i] := by kernel_rfl
@[simp] theorem ix_OneOk_36 : OneOk Tryz.prog 36 = true := by kernel_rfl
@[simp] theorem ix_intT_36 : intT Tryz.prog 36 = none := by kernel_rfl
@[simp] theorem ix_byteT_36 : byteT Tryz.prog 36 = false := by kernel_rfl
@[simp] theorem ix_byteSliceT_36 : byteSliceT Tryz.prog 36 = false := by kernel_rfl
@[simp] theorem ix_fieldAt_36_0 : fieldAt Tryz.prog 36 0 = some (0, TK.one) := by kernel_rfl
@[simp] theorem ix_fieldAt_36_1 : fieldAt Tryz.prog 36 1 = some (1, TK.one) := by kernel_rfl
@[simp] theorem ix_fieldAt_36_2 : fieldAt Tryz.prog 36 2 = some (2, TK.one) := by kernel_rfl
@[simp] theorem ix_fieldAt_36_3 : fieldAt Tryz.prog 36 3 = some (3, TK.one) := by kernel_rfl
@[simp] theorem ix_fieldAt_36_4 : fieldAt Tryz.prog 36 4 = some (4, TK.one) := by kernel_rfl
@[simp] theorem ix_tk_37 : tk Tryz.prog 37 = TK.agg 5 := by kernel_rfl
@[simp] theorem ix_sliceT_37 : sliceT Tryz.prog 37 = none := by kernel_rfl
@[simp] theorem ix_isStringT_37 : isStringT Tryz.prog 37 = false := by kernel_rfl
@[simp] theorem ix_isSliceT_37 : isSliceT Tryz.prog 37 = false := by kernel_rfl
@[simp] theorem ix_mapT_37 : mapT Tryz.prog 37 = none := by kernel_rfl
@[simp] theorem ix_zeroX_37 : zeroX Tryz.prog 37 = some
  (XV.agg
    [CV.str [], CV.int IntKind.i64 0, CV.int IntKind.i64 0, CV.int IntKind.i64 0,
      CV.int IntKind.i64 0]) := by kernel_rfl
@[simp] theorem ix_zeroOf_37 : zeroOf Tryz.prog 37 = some
  [CV.str [], CV.int IntKind.i64 0, CV.int IntKind.i64 0, CV.int IntKind.i64 0,
    CV.int IntKind.i64 0] := by kernel_rfl
@[simp] theorem ix_rowT_37 : rowT Tryz.prog 37 = none := by kernel_rfl
@[simp] theorem ix_bytesT_37 : bytesT Tryz.prog 37 = some 48 := by kernel_rfl
@[simp] theorem ix_buildT_37 : buildT Tryz.prog 37 = some
  ([CV.str [], CV.int IntKind.i64 0, CV.int IntKind.i64 0, CV.int IntKind.i64 0,
      CV.int IntKind.i64 0],
    [(0, 1), (1, 1), (2, 1), (3, 1), (4, 1)]) := by kernel_rfl
@[simp] theorem ix_eqT_37 : eqT Tryz.prog 37 = some [BK.s, BK.i, BK.i, BK.i, BK.i] := by kernel_rfl
@[simp] theorem ix_OneOk_37 : OneOk Tryz.prog 37 = true := by kernel_rfl
@[simp] theorem ix_intT_37 : intT Tryz.prog 37 = none := by kernel_rfl
@[simp] theorem ix_byteT_37 : byteT Tryz.prog 37 = false := by kernel_rfl
@[simp] theorem ix_byteSliceT_37 : byteSliceT Tryz.prog 37 = false := by kernel_rfl
@[simp] theorem ix_fieldAt_37_0 : fieldAt Tryz.prog 37 0 = some (0, TK.one) := by kernel_rfl
@[simp] theorem ix_fieldAt_37_1 : fieldAt Tryz.prog 37 1 = some (1, TK.one) := by kernel_rfl
@[simp] theorem ix_fieldAt_37_2 : fieldAt Tryz.prog 37 2 = some (2, TK.one) := by kernel_rfl
@[simp] theorem ix_fieldAt_37_3 : fieldAt Tryz.prog 37 3 = some (3, TK.one) := by kernel_rfl
@[simp] theorem ix_fieldAt_37_4 : fieldAt Tryz.prog 37 4 = some (4, TK.one) := by kernel_rfl
@[simp] theorem ix_tk_46 : tk Tryz.prog 46 = TK.one := by kernel_rfl
@[simp] theorem ix_sliceT_46 : sliceT Tryz.prog 46 = some (71, 5) := by kernel_rfl
@[simp] theorem ix_isStringT_46 : isStringT Tryz.prog 46 = false := by kernel_rfl
@[simp] theorem ix_isSliceT_46 : isSliceT Tryz.prog 46 = true := by kernel_rfl
@[simp] theorem ix_mapT_46 : mapT Tryz.prog 46 = none := by kernel_rfl
@[simp] theorem ix_zeroX_46 : zeroX Tryz.prog 46 = some (XV.one CV.nil) := by kernel_rfl
@[simp] theorem ix_zeroOf_46 : zeroOf Tryz.prog 46 = some [CV.nil] := by kernel_rfl
@[simp] theorem ix_rowT_46 : rowT Tryz.prog 46 = some
  (71, 5,
    [CV.str [], CV.int IntKind.i64 0, CV.int IntKind.i64 0, CV.int IntKind.i64 0,
      CV.int IntKind.i64 0]) := by kernel_rfl
@[simp] theorem ix_bytesT_46 : bytesT Tryz.prog 46 = some 24 := by kernel_rfl
@[simp] theorem ix_buildT_46 : buildT Tryz.prog 46 = none := by kernel_rfl
@[simp] theorem ix_eqT_46 : eqT Tryz.prog 46 = none := by kernel_rfl
@[simp] theorem ix_OneOk_46 : OneOk Tryz.prog 46 = true := by kernel_rfl
@[simp] theorem ix_intT_46 : intT Tryz.prog 46 = none := by kernel_rfl
@[simp] theorem ix_byteT_46 : byteT Tryz.prog 46 = false := by kernel_rfl
@[simp] theorem ix_byteSliceT_46 : byteSliceT Tryz.prog 46 = false := by kernel_rfl
@[simp] theorem ix_tk_60 : tk Tryz.prog 60 = TK.one := by kernel_rfl
@[simp] theorem ix_sliceT_60 : sliceT Tryz.prog 60 = none := by kernel_rfl
@[simp] theorem ix_isStringT_60 : isStringT Tryz.prog 60 = false := by kernel_rfl
@[simp] theorem ix_isSliceT_60 : isSliceT Tryz.prog 60 = false := by kernel_rfl
@[simp] theorem ix_mapT_60 : mapT Tryz.prog 60 = some (KK.s, 4) := by kernel_rfl
@[simp] theorem ix_zeroX_60 : zeroX Tryz.prog 60 = some (XV.one (CV.atom (Value.map none))) := by kernel_rfl
@[simp] theorem ix_zeroOf_60 : zeroOf Tryz.prog 60 = some [CV.atom (Value.map none)] := by kernel_rfl
@[simp] theorem ix_rowT_60 : rowT Tryz.prog 60 = none := by kernel_rfl
@[simp] theorem ix_bytesT_60 : bytesT Tryz.prog 60 = some 8 := by kernel_rfl
@[simp] theorem ix_buildT_60 : buildT Tryz.prog 60 = none := by kernel_rfl
@[simp] theorem ix_eqT_60 : eqT Tryz.prog 60 = none := by kernel_rfl
@[simp] theorem ix_OneOk_60 : OneOk Tryz.prog 60 = true := by kernel_rfl
@[simp] theorem ix_intT_60 : intT Tryz.prog 60 = none := by kernel_rfl
@[simp] theorem ix_byteT_60 : byteT Tryz.prog 60 = false := by kernel_rfl
@[simp] theorem ix_byteSliceT_60 : byteSliceT Tryz.prog 60 = false := by kernel_rfl
@[simp] theorem ix_tk_66 : tk Tryz.prog 66 = TK.one := by kernel_rfl
@[simp] theorem ix_sliceT_66 : sliceT Tryz.prog 66 = some (9, 1) := by kernel_rfl
@[simp] theorem ix_isStringT_66 : isStringT Tryz.prog 66 = false := by kernel_rfl
@[simp] theorem ix_isSliceT_66 : isSliceT Tryz.prog 66 = true := by kernel_rfl
@[simp] theorem ix_mapT_66 : mapT Tryz.prog 66 = none := by kernel_rfl
@[simp] theorem ix_zeroX_66 : zeroX Tryz.prog 66 = some (XV.one CV.nil) := by kernel_rfl
@[simp] theorem ix_zeroOf_66 : zeroOf Tryz.prog 66 = some [CV.nil] := by kernel_rfl
@[simp] theorem ix_rowT_66 : rowT Tryz.prog 66 = some (9, 1, [CV.str []]) := by kernel_rfl
@[simp] theorem ix_bytesT_66 : bytesT Tryz.prog 66 = some 24 := by kernel_rfl
@[simp] theorem ix_buildT_66 : buildT Tryz.prog 66 = none := by kernel_rfl
@[simp] theorem ix_eqT_66 : eqT Tryz.prog 66 = none := by kernel_rfl
@[simp] theorem ix_OneOk_66 : OneOk Tryz.prog 66 = true := by kernel_rfl
@[simp] theorem ix_intT_66 : intT Tryz.prog 66 = none := by kernel_rfl
@[simp] theorem ix_byteT_66 : byteT Tryz.prog 66 = false := by kernel_rfl
@[simp] theorem ix_byteSliceT_66 : byteSliceT Tryz.prog 66 = false := by kernel_rfl
@[simp] theorem ix_tk_70 : tk Tryz.prog 70 = TK.agg 5 := by kernel_rfl
@[simp] theorem ix_sliceT_70 : sliceT Tryz.prog 70 = none := by kernel_rfl
@[simp] theorem ix_isStringT_70 : isStringT Tryz.prog 70 = false := by kernel_rfl
@[simp] theorem ix_isSliceT_70 : isSliceT Tryz.prog 70 = false := by kernel_rfl
@[simp] theorem ix_mapT_70 : mapT Tryz.prog 70 = none := by kernel_rfl
@[simp] theorem ix_zeroX_70 : zeroX Tryz.prog 70 = some
  (XV.agg
    [CV.str [], CV.int IntKind.i64 0, CV.int IntKind.i64 0, CV.int IntKind.i64 0,
      CV.int IntKind.i64 0]) := by kernel_rfl
@[simp] theorem ix_zeroOf_70 : zeroOf Tryz.prog 70 = some
  [CV.str [], CV.int IntKind.i64 0, CV.int IntKind.i64 0, CV.int IntKind.i64 0,
    CV.int IntKind.i64 0] := by kernel_rfl
@[simp] theorem ix_rowT_70 : rowT Tryz.prog 70 = none := by kernel_rfl
@[simp] theorem ix_bytesT_70 : bytesT Tryz.prog 70 = some 48 := by kernel_rfl
@[simp] theorem ix_buildT_70 : buildT Tryz.prog 70 = some
  ([CV.str [], CV.int IntKind.i64 0, CV.int IntKind.i64 0, CV.int IntKind.i64 0,
      CV.int IntKind.i64 0],
    [(0, 1), (1, 1), (2, 2), (4, 1)]) := by kernel_rfl
@[simp] theorem ix_eqT_70 : eqT Tryz.prog 70 = some [BK.s, BK.i, BK.i, BK.i, BK.i] := by kernel_rfl
@[simp] theorem ix_OneOk_70 : OneOk Tryz.prog 70 = true := by kernel_rfl
@[simp] theorem ix_intT_70 : intT Tryz.prog 70 = none := by kernel_rfl
@[simp] theorem ix_byteT_70 : byteT Tryz.prog 70 = false := by kernel_rfl
@[simp] theorem ix_byteSliceT_70 : byteSliceT Tryz.prog 70 = false := by kernel_rfl
@[simp] theorem ix_fieldAt_70_0 : fieldAt Tryz.prog 70 0 = some (0, TK.one) := by kernel_rfl
@[simp] theorem ix_fieldAt_70_1 : fieldAt Tryz.prog 70 1 = some (1, TK.one) := by kernel_rfl
@[simp] theorem ix_fieldAt_70_2 : fieldAt Tryz.prog 70 2 = some (2, TK.agg 2) := by kernel_rfl
@[simp] theorem ix_fieldAt_70_3 : fieldAt Tryz.prog 70 3 = some (4, TK.one) := by kernel_rfl
@[simp] theorem ix_tk_71 : tk Tryz.prog 71 = TK.agg 5 := by kernel_rfl
@[simp] theorem ix_sliceT_71 : sliceT Tryz.prog 71 = none := by kernel_rfl
@[simp] theorem ix_isStringT_71 : isStringT Tryz.prog 71 = false := by kernel_rfl
@[simp] theorem ix_isSliceT_71 : isSliceT Tryz.prog 71 = false := by kernel_rfl
@[simp] theorem ix_mapT_71 : mapT Tryz.prog 71 = none := by kernel_rfl
@[simp] theorem ix_zeroX_71 : zeroX Tryz.prog 71 = some
  (XV.agg
    [CV.str [], CV.int IntKind.i64 0, CV.int IntKind.i64 0, CV.int IntKind.i64 0,
      CV.int IntKind.i64 0]) := by kernel_rfl
@[simp] theorem ix_zeroOf_71 : zeroOf Tryz.prog 71 = some
  [CV.str [], CV.int IntKind.i64 0, CV.int IntKind.i64 0, CV.int IntKind.i64 0,
    CV.int IntKind.i64 0] := by kernel_rfl
@[simp] theorem ix_rowT_71 : rowT Tryz.prog 71 = none := by kernel_rfl
@[simp] theorem ix_bytesT_71 : bytesT Tryz.prog 71 = some 48 := by kernel_rfl
@[simp] theorem ix_buildT_71 : buildT Tryz.prog 71 = some
  ([CV.str [], CV.int IntKind.i64 0, CV.int IntKind.i64 0, CV.int IntKind.i64 0,
      CV.int IntKind.i64 0],
    [(0, 1), (1, 1), (2, 2), (4, 1)]) := by kernel_rfl
@[simp] theorem ix_eqT_71 : eqT Tryz.prog 71 = some [BK.s, BK.i, BK.i, BK.i, BK.i] := by kernel_rfl
@[simp] theorem ix_OneOk_71 : OneOk Tryz.prog 71 = true := by kernel_rfl
@[simp] theorem ix_intT_71 : intT Tryz.prog 71 = none := by kernel_rfl
@[simp] theorem ix_byteT_71 : byteT Tryz.prog 71 = false := by kernel_rfl
@[simp] theorem ix_byteSliceT_71 : byteSliceT Tryz.prog 71 = false := by kernel_rfl
@[simp] theorem ix_fieldAt_71_0 : fieldAt Tryz.prog 71 0 = some (0, TK.one) := by kernel_rfl
@[simp] theorem ix_fieldAt_71_1 : fieldAt Tryz.prog 71 1 = some (1, TK.one) := by kernel_rfl
@[simp] theorem ix_fieldAt_71_2 : fieldAt Tryz.prog 71 2 = some (2, TK.agg 2) := by kernel_rfl
@[simp] theorem ix_fieldAt_71_3 : fieldAt Tryz.prog 71 3 = some (4, TK.one) := by kernel_rfl
@[simp] theorem ix_tk_79 : tk Tryz.prog 79 = TK.agg 6 := by kernel_rfl
@[simp] theorem ix_sliceT_79 : sliceT Tryz.prog 79 = none := by kernel_rfl
@[simp] theorem ix_isStringT_79 : isStringT Tryz.prog 79 = false := by kernel_rfl
@[simp] theorem ix_isSliceT_79 : isSliceT Tryz.prog 79 = false := by kernel_rfl
@[simp] theorem ix_mapT_79 : mapT Tryz.prog 79 = none := by kernel_rfl
@[simp] theorem ix_zeroX_79 : zeroX Tryz.prog 79 = some
  (XV.agg
    [CV.int IntKind.i64 0, CV.int IntKind.i64 0, CV.int IntKind.i64 0,
      CV.int IntKind.i64 0, CV.int IntKind.i64 0,
      CV.int IntKind.i64 0]) := by kernel_rfl
@[simp] theorem ix_zeroOf_79 : zeroOf Tryz.prog 79 = some
  [CV.int IntKind.i64 0, CV.int IntKind.i64 0, CV.int IntKind.i64 0,
    CV.int IntKind.i64 0, CV.int IntKind.i64 0,
    CV.int IntKind.i64 0] := by kernel_rfl
@[simp] theorem ix_rowT_79 : rowT Tryz.prog 79 = none := by kernel_rfl
@[simp] theorem ix_bytesT_79 : bytesT Tryz.prog 79 = some 48 := by kernel_rfl
@[simp] theorem ix_buildT_79 : buildT Tryz.prog 79 = some
  ([CV.int IntKind.i64 0, CV.int IntKind.i64 0, CV.int IntKind.i64 0,
      CV.int IntKind.i64 0, CV.int IntKind.i64 0, CV.int IntKind.i64 0],
    [(0, 1), (1, 1), (2, 1), (3, 1), (4, 1), (5, 1)]) := by kernel_rfl
@[simp] theorem ix_eqT_79 : eqT Tryz.prog 79 = some [BK.i, BK.i, BK.i, BK.i, BK.i, BK.i] := by kernel_rfl
@[simp] theorem ix_OneOk_79 : OneOk Tryz.prog 79 = true := by kernel_rfl
@[simp] theorem ix_intT_79 : intT Tryz.prog 79 = none := by kernel_rfl
@[simp] theorem ix_byteT_79 : byteT Tryz.prog 79 = false := by kernel_rfl
@[simp] theorem ix_byteSliceT_79 : byteSliceT Tryz.prog 79 = false := by kernel_rfl
@[simp] theorem ix_fieldAt_79_0 : fieldAt Tryz.prog 79 0 = some (0, TK.one) := by kernel_rfl
@[simp] theorem ix_fieldAt_79_1 : fieldAt Tryz.prog 79 1 = some (1, TK.one) := by kernel_rfl
@[simp] theorem ix_fieldAt_79_2 : fieldAt Tryz.prog 79 2 = some (2, TK.one) := by kernel_rfl
@[simp] theorem ix_fieldAt_79_3 : fieldAt Tryz.prog 79 3 = some (3, TK.one) := by kernel_rfl
@[simp] theorem ix_fieldAt_79_4 : fieldAt Tryz.prog 79 4 = some (4, TK.one) := by kernel_rfl
@[simp] theorem ix_fieldAt_79_5 : fieldAt Tryz.prog 79 5 = some (5, TK.one) := by kernel_rfl
@[simp] theorem ix_tk_80 : tk Tryz.prog 80 = TK.agg 6 := by kernel_rfl
@[simp] theorem ix_sliceT_80 : sliceT Tryz.prog 80 = none := by kernel_rfl
@[simp] theorem ix_isStringT_80 : isStringT Tryz.prog 80 = false := by kernel_rfl
@[simp] theorem ix_isSliceT_80 : isSliceT Tryz.prog 80 = false := by kernel_rfl
@[simp] theorem ix_mapT_80 : mapT Tryz.prog 80 = none := by kernel_rfl
@[simp] theorem ix_zeroX_80 : zeroX Tryz.prog 80 = some
  (XV.agg
    [CV.int IntKind.i64 0, CV.int IntKind.i64 0, CV.int IntKind.i64 0,
      CV.int IntKind.i64 0, CV.int IntKind.i64 0,
      CV.int IntKind.i64 0]) := by kernel_rfl
@[simp] theorem ix_zeroOf_80 : zeroOf Tryz.prog 80 = some
  [CV.int IntKind.i64 0, CV.int IntKind.i64 0, CV.int IntKind.i64 0,
    CV.int IntKind.i64 0, CV.int IntKind.i64 0,
    CV.int IntKind.i64 0] := by kernel_rfl
@[simp] theorem ix_rowT_80 : rowT Tryz.prog 80 = none := by kernel_rfl
@[simp] theorem ix_bytesT_80 : bytesT Tryz.prog 80 = some 48 := by kernel_rfl
@[simp] theorem ix_buildT_80 : buildT Tryz.prog 80 = some
  ([CV.int IntKind.i64 0, CV.int IntKind.i64 0, CV.int IntKind.i64 0,
      CV.int IntKind.i64 0, CV.int IntKind.i64 0, CV.int IntKind.i64 0],
    [(0, 1), (1, 1), (2, 1), (3, 1), (4, 1), (5, 1)]) := by kernel_rfl
@[simp] theorem ix_eqT_80 : eqT Tryz.prog 80 = some [BK.i, BK.i, BK.i, BK.i, BK.i, BK.i] := by kernel_rfl
@[simp] theorem ix_OneOk_80 : OneOk Tryz.prog 80 = true := by kernel_rfl
@[simp] theorem ix_intT_80 : intT Tryz.prog 80 = none := by kernel_rfl
@[simp] theorem ix_byteT_80 : byteT Tryz.prog 80 = false := by kernel_rfl
@[simp] theorem ix_byteSliceT_80 : byteSliceT Tryz.prog 80 = false := by kernel_rfl
@[simp] theorem ix_fieldAt_80_0 : fieldAt Tryz.prog 80 0 = some (0, TK.one) := by kernel_rfl
@[simp] theorem ix_fieldAt_80_1 : fieldAt Tryz.prog 80 1 = some (1, TK.one) := by kernel_rfl
@[simp] theorem ix_fieldAt_80_2 : fieldAt Tryz.prog 80 2 = some (2, TK.one) := by kernel_rfl
@[simp] theorem ix_fieldAt_80_3 : fieldAt Tryz.prog 80 3 = some (3, TK.one) := by kernel_rfl
@[simp] theorem ix_fieldAt_80_4 : fieldAt Tryz.prog 80 4 = some (4, TK.one) := by kernel_rfl
@[simp] theorem ix_fieldAt_80_5 : fieldAt Tryz.prog 80 5 = some (5, TK.one) := by kernel_rfl
@[simp] theorem ix_tk_83 : tk Tryz.prog 83 = TK.one := by kernel_rfl
@[simp] theorem ix_sliceT_83 : sliceT Tryz.prog 83 = some (3, 1) := by kernel_rfl
@[simp] theorem ix_isStringT_83 : isStringT Tryz.prog 83 = false := by kernel_rfl
@[simp] theorem ix_isSliceT_83 : isSliceT Tryz.prog 83 = true := by kernel_rfl
@[simp] theorem ix_mapT_83 : mapT Tryz.prog 83 = none := by kernel_rfl
@[simp] theorem ix_zeroX_83 : zeroX Tryz.prog 83 = some (XV.one CV.nil) := by kernel_rfl
@[simp] theorem ix_zeroOf_83 : zeroOf Tryz.prog 83 = some [CV.nil] := by kernel_rfl
@[simp] theorem ix_rowT_83 : rowT Tryz.prog 83 = some
  (3, 1, [CV.int IntKind.i64 0]) := by kernel_rfl
@[simp] theorem ix_bytesT_83 : bytesT Tryz.prog 83 = some 24 := by kernel_rfl
@[simp] theorem ix_buildT_83 : buildT Tryz.prog 83 = none := by kernel_rfl
@[simp] theorem ix_eqT_83 : eqT Tryz.prog 83 = none := by kernel_rfl
@[simp] theorem ix_OneOk_83 : OneOk Tryz.prog 83 = true := by kernel_rfl
@[simp] theorem ix_intT_83 : intT Tryz.prog 83 = none := by kernel_rfl
@[simp] theorem ix_byteT_83 : byteT Tryz.prog 83 = false := by kernel_rfl
@[simp] theorem ix_byteSliceT_83 : byteSliceT Tryz.prog 83 = false := by kernel_rfl
@[simp] theorem ix_tk_94 : tk Tryz.prog 94 = TK.one := by kernel_rfl
@[simp] theorem ix_sliceT_94 : sliceT Tryz.prog 94 = some (5, 1) := by kernel_rfl
@[simp] theorem ix_isStringT_94 : isStringT Tryz.prog 94 = false := by kernel_rfl
@[simp] theorem ix_isSliceT_94 : isSliceT Tryz.prog 94 = true := by kernel_rfl
@[simp] theorem ix_mapT_94 : mapT Tryz.prog 94 = none := by kernel_rfl
@[simp] theorem ix_zeroX_94 : zeroX Tryz.prog 94 = some (XV.one CV.nil) := by kernel_rfl
@[simp] theorem ix_zeroOf_94 : zeroOf Tryz.prog 94 = some [CV.nil] := by kernel_rfl
@[simp] theorem ix_rowT_94 : rowT Tryz.prog 94 = some
  (5, 1, [CV.int IntKind.u8 0]) := by kernel_rfl
@[simp] theorem ix_bytesT_94 : bytesT Tryz.prog 94 = some 24 := by kernel_rfl
@[simp] theorem ix_buildT_94 : buildT Tryz.prog 94 = none := by kernel_rfl
@[simp] theorem ix_eqT_94 : eqT Tryz.prog 94 = none := by kernel_rfl
@[simp] theorem ix_OneOk_94 : OneOk Tryz.prog 94 = true := by kernel_rfl
@[simp] theorem ix_intT_94 : intT Tryz.prog 94 = none := by kernel_rfl
@[simp] theorem ix_byteT_94 : byteT Tryz.prog 94 = false := by kernel_rfl
@[simp] theorem ix_byteSliceT_94 : byteSliceT Tryz.prog 94 = true := by kernel_rfl
@[simp] theorem ix_tk_109 : tk Tryz.prog 109 = TK.one := by kernel_rfl
@[simp] theorem ix_sliceT_109 : sliceT Tryz.prog 109 = none := by kernel_rfl
@[simp] theorem ix_isStringT_109 : isStringT Tryz.prog 109 = false := by kernel_rfl
@[simp] theorem ix_isSliceT_109 : isSliceT Tryz.prog 109 = false := by kernel_rfl
@[simp] theorem ix_mapT_109 : mapT Tryz.prog 109 = none := by kernel_rfl
@[simp] theorem ix_zeroX_109 : zeroX Tryz.prog 109 = some
  (XV.one (CV.int IntKind.u64 0)) := by kernel_rfl
@[simp] theorem ix_zeroOf_109 : zeroOf Tryz.prog 109 = some
  [CV.int IntKind.u64 0] := by kernel_rfl
@[simp] theorem ix_rowT_109 : rowT Tryz.prog 109 = none := by kernel_rfl
@[simp] theorem ix_bytesT_109 : bytesT Tryz.prog 109 = some 8 := by kernel_rfl
@[simp] theorem ix_buildT_109 : buildT Tryz.prog 109 = none := by kernel_rfl
@[simp] theorem ix_eqT_109 : eqT Tryz.prog 109 = none := by kernel_rfl
@[simp] theorem ix_OneOk_109 : OneOk Tryz.prog 109 = true := by kernel_rfl
@[simp] theorem ix_intT_109 : intT Tryz.prog 109 = some IntKind.u64 := by kernel_rfl
@[simp] theorem ix_byteT_109 : byteT Tryz.prog 109 = false := by kernel_rfl
@[simp] theorem ix_byteSliceT_109 : byteSliceT Tryz.prog 109 = false := by kernel_rfl
@[simp] theorem ix_tk_139 : tk Tryz.prog 139 = TK.one := by kernel_rfl
@[simp] theorem ix_sliceT_139 : sliceT Tryz.prog 139 = none := by kernel_rfl
@[simp] theorem ix_isStringT_139 : isStringT Tryz.prog 139 = false := by kernel_rfl
@[simp] theorem ix_isSliceT_139 : isSliceT Tryz.prog 139 = false := by kernel_rfl
@[simp] theorem ix_mapT_139 : mapT Tryz.prog 139 = none := by kernel_rfl
@[simp] theorem ix_zeroX_139 : zeroX Tryz.prog 139 = some
  (XV.one (CV.int IntKind.u64 0)) := by kernel_rfl
@[simp] theorem ix_zeroOf_139 : zeroOf Tryz.prog 139 = some
  [CV.int IntKind.u64 0] := by kernel_rfl
@[simp] theorem ix_rowT_139 : rowT Tryz.prog 139 = none := by kernel_rfl
@[simp] theorem ix_bytesT_139 : bytesT Tryz.prog 139 = some 8 := by kernel_rfl
@[simp] theorem ix_buildT_139 : buildT Tryz.prog 139 = none := by kernel_rfl
@[simp] theorem ix_eqT_139 : eqT Tryz.prog 139 = none := by kernel_rfl
@[simp] theorem ix_OneOk_139 : OneOk Tryz.prog 139 = true := by kernel_rfl
@[simp] theorem ix_intT_139 : intT Tryz.prog 139 = some IntKind.u64 := by kernel_rfl
@[simp] theorem ix_byteT_139 : byteT Tryz.prog 139 = false := by kernel_rfl
@[simp] theorem ix_byteSliceT_139 : byteSliceT Tryz.prog 139 = false := by kernel_rfl
@[simp] theorem ix_tk_165 : tk Tryz.prog 165 = TK.agg 2 := by kernel_rfl
@[simp] theorem ix_sliceT_165 : sliceT Tryz.prog 165 = none := by kernel_rfl
@[simp] theorem ix_isStringT_165 : isStringT Tryz.prog 165 = false := by kernel_rfl
@[simp] theorem ix_isSliceT_165 : isSliceT Tryz.prog 165 = false := by kernel_rfl
@[simp] theorem ix_mapT_165 : mapT Tryz.prog 165 = none := by kernel_rfl
@[simp] theorem ix_zeroX_165 : zeroX Tryz.prog 165 = some
  (XV.agg [CV.int IntKind.u8 0, CV.int IntKind.u8 0]) := by kernel_rfl
@[simp] theorem ix_zeroOf_165 : zeroOf Tryz.prog 165 = some
  [CV.int IntKind.u8 0, CV.int IntKind.u8 0] := by kernel_rfl
@[simp] theorem ix_rowT_165 : rowT Tryz.prog 165 = none := by kernel_rfl
@[simp] theorem ix_bytesT_165 : bytesT Tryz.prog 165 = some 2 := by kernel_rfl
@[simp] theorem ix_buildT_165 : buildT Tryz.prog 165 = some
  ([CV.int IntKind.u8 0, CV.int IntKind.u8 0], [(0, 1), (1, 1)]) := by kernel_rfl
@[simp] theorem ix_eqT_165 : eqT Tryz.prog 165 = some [BK.i, BK.i] := by kernel_rfl
@[simp] theorem ix_OneOk_165 : OneOk Tryz.prog 165 = true := by kernel_rfl
@[simp] theorem ix_intT_165 : intT Tryz.prog 165 = none := by kernel_rfl
@[simp] theorem ix_byteT_165 : byteT Tryz.prog 165 = false := by kernel_rfl
@[simp] theorem ix_byteSliceT_165 : byteSliceT Tryz.prog 165 = false := by kernel_rfl
@[simp] theorem ix_fieldAt_165_0 : fieldAt Tryz.prog 165 0 = some (0, TK.one) := by kernel_rfl
@[simp] theorem ix_fieldAt_165_1 : fieldAt Tryz.prog 165 1 = some (1, TK.one) := by kernel_rfl
@[simp] theorem ix_tk_172 : tk Tryz.prog 172 = TK.agg 1 := by kernel_rfl
@[simp] theorem ix_sliceT_172 : sliceT Tryz.prog 172 = none := by kernel_rfl
@[simp] theorem ix_isStringT_172 : isStringT Tryz.prog 172 = false := by kernel_rfl
@[simp] theorem ix_isSliceT_172 : isSliceT Tryz.prog 172 = false := by kernel_rfl
@[simp] theorem ix_mapT_172 : mapT Tryz.prog 172 = none := by kernel_rfl
@[simp] theorem ix_zeroX_172 : zeroX Tryz.prog 172 = some (XV.agg [CV.str []]) := by kernel_rfl
@[simp] theorem ix_zeroOf_172 : zeroOf Tryz.prog 172 = some [CV.str []] := by kernel_rfl
@[simp] theorem ix_rowT_172 : rowT Tryz.prog 172 = none := by kernel_rfl
@[simp] theorem ix_bytesT_172 : bytesT Tryz.prog 172 = some 16 := by kernel_rfl
@[simp] theorem ix_buildT_172 : buildT Tryz.prog 172 = some ([CV.str []], [(0, 1)]) := by kernel_rfl
@[simp] theorem ix_eqT_172 : eqT Tryz.prog 172 = some [BK.s] := by kernel_rfl
@[simp] theorem ix_OneOk_172 : OneOk Tryz.prog 172 = true := by kernel_rfl
@[simp] theorem ix_intT_172 : intT Tryz.prog 172 = none := by kernel_rfl
@[simp] theorem ix_byteT_172 : byteT Tryz.prog 172 = false := by kernel_rfl
@[simp] theorem ix_byteSliceT_172 : byteSliceT Tryz.prog 172 = false := by kernel_rfl
@[simp] theorem ix_fieldAt_172_0 : fieldAt Tryz.prog 172 0 = some (0, TK.one) := by kernel_rfl
end Go.Proofs.YtejhjdpafdpjlaaGreatDoor
