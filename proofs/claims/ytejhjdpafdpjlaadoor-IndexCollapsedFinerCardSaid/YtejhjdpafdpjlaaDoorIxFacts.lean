/- A part of the proof: lemmas and contracts of functions. -/
import Derived.Test.YtejhjdpafdpjlaaDoorChecked
import Derived.KernelRfl
import Derived.Test.YtejhjdpafdpjlaaDoorAbJ4
namespace Go.Proofs.YtejhjdpafdpjlaaDoor
open Go Go.Ab
@[simp] theorem ix_tk_2 : tk Tryd.prog 2 = TK.one := by kernel_rfl
@[simp] theorem ix_sliceT_2 : sliceT Tryd.prog 2 = none := by kernel_rfl
@[simp] theorem ix_isStringT_2 : isStringT Tryd.prog 2 = false := by kernel_rfl
@[simp] theorem ix_isSliceT_2 : isSliceT Tryd.prog 2 = false := by kernel_rfl
@[simp] theorem ix_mapT_2 : mapT Tryd.prog 2 = none := by kernel_rfl
@[simp] theorem ix_zeroX_2 : zeroX Tryd.prog 2 = some
  (XV.one (CV.int IntKind.i64 0)) := by kernel_rfl
@[simp] theorem ix_zeroOf_2 : zeroOf Tryd.prog 2 = some [CV.int IntKind.i64 0] := by kernel_rfl
@[simp] theorem ix_rowT_2 : rowT Tryd.prog 2 = none := by kernel_rfl
@[simp] theorem ix_bytesT_2 : bytesT Tryd.prog 2 = some 8 := by kernel_rfl
@[simp] theorem ix_buildT_2 : buildT Tryd.prog 2 = none := by kernel_rfl
@[simp] theorem ix_eqT_2 : eqT Tryd.prog 2 = none := by kernel_rfl
@[simp] theorem ix_OneOk_2 : OneOk Tryd.prog 2 = true := by kernel_rfl
@[simp] theorem ix_intT_2 : intT Tryd.prog 2 = some IntKind.i64 := by kernel_rfl
@[simp] theorem ix_byteT_2 : byteT Tryd.prog 2 = false := by kernel_rfl
@[simp] theorem ix_byteSliceT_2 : byteSliceT Tryd.prog 2 = false := by kernel_rfl
@[simp] theorem ix_tk_3 : tk Tryd.prog 3 = TK.one := by kernel_rfl
@[simp] theorem ix_sliceT_3 : sliceT Tryd.prog 3 = none := by kernel_rfl
@[simp] theorem ix_isStringT_3 : isStringT Tryd.prog 3 = false := by kernel_rfl
@[simp] theorem ix_isSliceT_3 : isSliceT Tryd.prog 3 = false := by kernel_rfl
@[simp] theorem ix_mapT_3 : mapT Tryd.prog 3 = none := by kernel_rfl
@[simp] theorem ix_zeroX_3 : zeroX Tryd.prog 3 = some
  (XV.one (CV.int IntKind.i64 0)) := by kernel_rfl
@[simp] theorem ix_zeroOf_3 : zeroOf Tryd.prog 3 = some [CV.int IntKind.i64 0] := by kernel_rfl
@[simp] theorem ix_rowT_3 : rowT Tryd.prog 3 = none := by kernel_rfl
@[simp] theorem ix_bytesT_3 : bytesT Tryd.prog 3 = some 8 := by kernel_rfl
@[simp] theorem ix_buildT_3 : buildT Tryd.prog 3 = none := by kernel_rfl
@[simp] theorem ix_eqT_3 : eqT Tryd.prog 3 = none := by kernel_rfl
@[simp] theorem ix_OneOk_3 : OneOk Tryd.prog 3 = true := by kernel_rfl
@[simp] theorem ix_intT_3 : intT Tryd.prog 3 = some IntKind.i64 := by kernel_rfl
@[simp] theorem ix_byteT_3 : byteT Tryd.prog 3 = false := by kernel_rfl
@[simp] theorem ix_byteSliceT_3 : byteSliceT Tryd.prog 3 = false := by kernel_rfl
@[simp] theorem ix_tk_4 : tk Tryd.prog 4 = TK.one := by kernel_rfl
@[simp] theorem ix_sliceT_4 : sliceT Tryd.prog 4 = none := by kernel_rfl
@[simp] theorem ix_isStringT_4 : isStringT Tryd.prog 4 = false := by kernel_rfl
@[simp] theorem ix_isSliceT_4 : isSliceT Tryd.prog 4 = false := by kernel_rfl
@[simp] theorem ix_mapT_4 : mapT Tryd.prog 4 = none := by kernel_rfl
@[simp] theorem ix_zeroX_4 : zeroX Tryd.prog 4 = some (XV.one (CV.bool false)) := by kernel_rfl
@[simp] theorem ix_zeroOf_4 : zeroOf Tryd.prog 4 = some [CV.bool false] := by kernel_rfl
@[simp] theorem ix_rowT_4 : rowT Tryd.prog 4 = none := by kernel_rfl
@[simp] theorem ix_bytesT_4 : bytesT Tryd.prog 4 = some 1 := by kernel_rfl
@[simp] theorem ix_buildT_4 : buildT Tryd.prog 4 = none := by kernel_rfl
@[simp] theorem ix_eqT_4 : eqT Tryd.prog 4 = none := by kernel_rfl
@[simp] theorem ix_OneOk_4 : OneOk Tryd.prog 4 = true := by kernel_rfl
@[simp] theorem ix_intT_4 : intT Tryd.prog 4 = none := by kernel_rfl
@[simp] theorem ix_byteT_4 : byteT Tryd.prog 4 = false := by kernel_rfl
@[simp] theorem ix_byteSliceT_4 : byteSliceT Tryd.prog 4 = false := by kernel_rfl
@[simp] theorem ix_tk_5 : tk Tryd.prog 5 = TK.one := by kernel_rfl
@[simp] theorem ix_sliceT_5 : sliceT Tryd.prog 5 = none := by kernel_rfl
@[simp] theorem ix_isStringT_5 : isStringT Tryd.prog 5 = false := by kernel_rfl
@[simp] theorem ix_isSliceT_5 : isSliceT Tryd.prog 5 = false := by kernel_rfl
@[simp] theorem ix_mapT_5 : mapT Tryd.prog 5 = none := by kernel_rfl
@[simp] theorem ix_zeroX_5 : zeroX Tryd.prog 5 = some
  (XV.one (CV.int IntKind.u8 0)) := by kernel_rfl
@[simp] theorem ix_zeroOf_5 : zeroOf Tryd.prog 5 = some [CV.int IntKind.u8 0] := by kernel_rfl
@[simp] theorem ix_rowT_5 : rowT Tryd.prog 5 = none := by kernel_rfl
@[simp] theorem ix_bytesT_5 : bytesT Tryd.prog 5 = some 1 := by kernel_rfl
@[simp] theorem ix_buildT_5 : buildT Tryd.prog 5 = none := by kernel_rfl
@[simp] theorem ix_eqT_5 : eqT Tryd.prog 5 = none := by kernel_rfl
@[simp] theorem ix_OneOk_5 : OneOk Tryd.prog 5 = true := by kernel_rfl
@[simp] theorem ix_intT_5 : intT Tryd.prog 5 = some IntKind.u8 := by kernel_rfl
@[simp] theorem ix_byteT_5 : byteT Tryd.prog 5 = true := by kernel_rfl
@[simp] theorem ix_byteSliceT_5 : byteSliceT Tryd.prog 5 = false := by kernel_rfl
@[simp] theorem ix_tk_9 : tk Tryd.prog 9 = TK.one := by kernel_rfl
@[simp] theorem ix_sliceT_9 : sliceT Tryd.prog 9 = none := by kernel_rfl
@[simp] theorem ix_isStringT_9 : isStringT Tryd.prog 9 = true := by kernel_rfl
@[simp] theorem ix_isSliceT_9 : isSliceT Tryd.prog 9 = false := by kernel_rfl
@[simp] theorem ix_mapT_9 : mapT Tryd.prog 9 = none := by kernel_rfl
@[simp] theorem ix_zeroX_9 : zeroX Tryd.prog 9 = some (XV.one (CV.str [])) := by kernel_rfl
@[simp] theorem ix_zeroOf_9 : zeroOf Tryd.prog 9 = some [CV.str []] := by kernel_rfl
@[simp] theorem ix_rowT_9 : rowT Tryd.prog 9 = none := by kernel_rfl
@[simp] theorem ix_bytesT_9 : bytesT Tryd.prog 9 = some 16 := by kernel_rfl
@[simp] theorem ix_buildT_9 : buildT Tryd.prog 9 = none := by kernel_rfl
@[simp] theorem ix_eqT_9 : eqT Tryd.prog 9 = none := by kernel_rfl
@[simp] theorem ix_OneOk_9 : OneOk Tryd.prog 9 = true := by kernel_rfl
@[simp] theorem ix_intT_9 : intT Tryd.prog 9 = none := by kernel_rfl
@[simp] theorem ix_byteT_9 : byteT Tryd.prog 9 = false := by kernel_rfl
@[simp] theorem ix_byteSliceT_9 : byteSliceT Tryd.prog 9 = false := by kernel_rfl
@[simp] theorem ix_tk_13 : tk Tryd.prog 13 = TK.agg 2 := by kernel_rfl
@[simp] theorem ix_sliceT_13 : sliceT Tryd.prog 13 = none := by kernel_rfl
@[simp] theorem ix_isStringT_13 : isStringT Tryd.prog 13 = false := by kernel_rfl
@[simp] theorem ix_isSliceT_13 : isSliceT Tryd.prog 13 = false := by kernel_rfl
@[simp] theorem ix_mapT_13 : mapT Tryd.prog 13 = none := by kernel_rfl
@[simp] theorem ix_zeroX_13 : zeroX Tryd.prog 13 = some
  (XV.agg [CV.str [], CV.int IntKind.u64 0]) := by kernel_rfl
@[simp] theorem ix_zeroOf_13 : zeroOf Tryd.prog 13 = some
  [CV.str [], CV.int IntKind.u64 0] := by kernel_rfl
@[simp] theorem ix_rowT_13 : rowT Tryd.prog 13 = none := by kernel_rfl
@[simp] theorem ix_bytesT_13 : bytesT Tryd.prog 13 = some 24 := by kernel_rfl
@[simp] theorem ix_buildT_13 : buildT Tryd.prog 13 = some
  ([CV.str [], CV.int IntKind.u64 0], [(0, 1), (1, 1)]) := by kernel_rfl
@[simp] theorem ix_eqT_13 : eqT Tryd.prog 13 = none := by kernel_rfl
@[simp] theorem ix_OneOk_13 : OneOk Tryd.prog 13 = true := by kernel_rfl
@[simp] theorem ix_intT_13 : intT Tryd.prog 13 = none := by kernel_rfl
@[simp] theorem ix_byteT_13 : byteT Tryd.prog 13 = false := by kernel_rfl
@[simp] theorem ix_byteSliceT_13 : byteSliceT Tryd.prog 13 = false := by kernel_rfl
@[simp] theorem ix_fieldAt_13_0 : fieldAt Tryd.prog 13 0 = some (0, TK.one) := by kernel_rfl
@[simp] theorem ix_fieldAt_13_1 : fieldAt Tryd.prog 13 1 = some (1, TK.one) := by kernel_rfl
@[simp] theorem ix_tk_22 : tk Tryd.prog 22 = TK.one := by kernel_rfl
@[simp] theorem ix_sliceT_22 : sliceT Tryd.prog 22 = some (40, 9) := by kernel_rfl
@[simp] theorem ix_isStringT_22 : isStringT Tryd.prog 22 = false := by kernel_rfl
@[simp] theorem ix_isSliceT_22 : isSliceT Tryd.prog 22 = true := by kernel_rfl
@[simp] theorem ix_mapT_22 : mapT Tryd.prog 22 = none := by kernel_rfl
@[simp] theorem ix_zeroX_22 : zeroX Tryd.prog 22 = some (XV.one CV.nil) := by kernel_rfl
@[simp] theorem ix_zeroOf_22 : zeroOf Tryd.prog 22 = some [CV.nil] := by kernel_rfl
@[simp] theorem ix_rowT_22 : rowT Tryd.prog 22 = some
  (40, 9,
    [CV.str [], CV.int IntKind.i64 0, CV.int IntKind.i64 0, CV.str [], CV.str [], CV.str [],
      CV.int IntKind.i64 0, CV.int IntKind.i64 0, CV.bool false]) := by kernel_rfl
@[simp] theorem ix_bytesT_22 : bytesT Tryd.prog 22 = some 24 := by kernel_rfl
@[simp] theorem ix_buildT_22 : buildT Tryd.prog 22 = none := by kernel_rfl
@[simp] theorem ix_eqT_22 : eqT Tryd.prog 22 = none := by kernel_rfl
@[simp] theorem ix_OneOk_22 : OneOk Tryd.prog 22 = true := by kernel_rfl
@[simp] theorem ix_intT_22 : intT Tryd.prog 22 = none := by kernel_rfl
@[simp] theorem ix_byteT_22 : byteT Tryd.prog 22 = false := by kernel_rfl
@[simp] theorem ix_byteSliceT_22 : byteSliceT Tryd.prog 22 = false := by kernel_rfl
@[simp] theorem ix_tk_23 : tk Tryd.prog 23 = TK.one := by kernel_rfl
@[simp] theorem ix_sliceT_23 : sliceT Tryd.prog 23 = some (33, 5) := by kernel_rfl
@[simp] theorem ix_isStringT_23 : isStringT Tryd.prog 23 = false := by kernel_rfl
@[simp] theorem ix_isSliceT_23 : isSliceT Tryd.prog 23 = true := by kernel_rfl
@[simp] theorem ix_mapT_23 : mapT Tryd.prog 23 = none := by kernel_rfl
@[simp] theorem ix_zeroX_23 : zeroX Tryd.prog 23 = some (XV.one CV.nil) := by kernel_rfl
@[simp] theorem ix_zeroOf_23 : zeroOf Tryd.prog 23 = some [CV.nil] := by kernel_rfl
@[simp] theorem ix_rowT_23 : rowT Tryd.prog 23 = some
  (33, 5,
    [CV.str [], CV.int IntKind.i64 0, CV.int IntKind.i64 0, CV.int IntKind.i64 0,
      CV.int IntKind.i64 0]) := by kernel_rfl
@[simp] theorem ix_bytesT_23 : bytesT Tryd.prog 23 = some 24 := by kernel_rfl
@[simp] theorem ix_buildT_23 : buildT Tryd.prog 23 = none := by kernel_rfl
@[simp] theorem ix_eqT_23 : eqT Tryd.prog 23 = none := by kernel_rfl
@[simp] theorem ix_OneOk_23 : OneOk Tryd.prog 23 = true := by kernel_rfl
@[simp] theorem ix_intT_23 : intT Tryd.prog 23 = none := by kernel_rfl
@[simp] theorem ix_byteT_23 : byteT Tryd.prog 23 = false := by kernel_rfl
@[simp] theorem ix_byteSliceT_23 : byteSliceT Tryd.prog 23 = false := by kernel_rfl
@[simp] theorem ix_tk_24 : tk Tryd.prog 24 = TK.one := by kernel_rfl
@[simp] theorem ix_sliceT_24 : sliceT Tryd.prog 24 = none := by kernel_rfl
@[simp] theorem ix_isStringT_24 : isStringT Tryd.prog 24 = false := by kernel_rfl
@[simp] theorem ix_isSliceT_24 : isSliceT Tryd.prog 24 = false := by kernel_rfl
@[simp] theorem ix_mapT_24 : mapT Tryd.prog 24 = none := by kernel_rfl
@[simp] theorem ix_zeroX_24 : zeroX Tryd.prog 24 = some
  (XV.one (CV.int IntKind.i64 0)) := by kernel_rfl
@[simp] theorem ix_zeroOf_24 : zeroOf Tryd.prog 24 = some [CV.int IntKind.i64 0] := by kernel_rfl
@[simp] theorem ix_rowT_24 : rowT Tryd.prog 24 = none := by kernel_rfl
@[simp] theorem ix_bytesT_24 : bytesT Tryd.prog 24 = some 8 := by kernel_rfl
@[simp] theorem ix_buildT_24 : buildT Tryd.prog 24 = none := by kernel_rfl
@[simp] theorem ix_eqT_24 : eqT Tryd.prog 24 = none := by kernel_rfl
@[simp] theorem ix_OneOk_24 : OneOk Tryd.prog 24 = true := by kernel_rfl
@[simp] theorem ix_intT_24 : intT Tryd.prog 24 = some IntKind.i64 := by kernel_rfl
@[simp] theorem ix_byteT_24 : byteT Tryd.prog 24 = false := by kernel_rfl
@[simp] theorem ix_byteSliceT_24 : byteSliceT Tryd.prog 24 = false := by kernel_rfl
@[simp] theorem ix_tk_27 : tk Tryd.prog 27 = TK.agg 2 := by kernel_rfl
@[simp] theorem ix_sliceT_27 : sliceT Tryd.prog 27 = none := by kernel_rfl
@[simp] theorem ix_isStringT_27 : isStringT Tryd.prog 27 = false := by kernel_rfl
@[simp] theorem ix_isSliceT_27 : isSliceT Tryd.prog 27 = false := by kernel_rfl
@[simp] theorem ix_mapT_27 : mapT Tryd.prog 27 = none := by kernel_rfl
@[simp] theorem ix_zeroX_27 : zeroX Tryd.prog 27 = some
  (XV.agg [CV.int IntKind.i64 0, CV.int IntKind.i64 0]) := by kernel_rfl
@[simp] theorem ix_zeroOf_27 : zeroOf Tryd.prog 27 = some
  [CV.int IntKind.i64 0, CV.int IntKind.i64 0] := by kernel_rfl
@[simp] theorem ix_rowT_27 : rowT Tryd.prog 27 = none := by kernel_rfl
@[simp] theorem ix_bytesT_27 : bytesT Tryd.prog 27 = some 16 := by kernel_rfl
@[simp] theorem ix_buildT_27 : buildT Tryd.prog 27 = some
  ([CV.int IntKind.i64 0, CV.int IntKind.i64 0], [(0, 1), (1, 1)]) := by kernel_rfl
@[simp] theorem ix_eqT_27 : eqT Tryd.prog 27 = some [BK.i, BK.i] := by kernel_rfl
@[simp] theorem ix_OneOk_27 : OneOk Tryd.prog 27 = true := by kernel_rfl
@[simp] theorem ix_intT_27 : intT Tryd.prog 27 = none := by kernel_rfl
@[simp] theorem ix_byteT_27 : byteT Tryd.prog 27 = false := by kernel_rfl
@[simp] theorem ix_byteSliceT_27 : byteSliceT Tryd.prog 27 = false := by kernel_rfl
@[simp] theorem ix_fieldAt_27_0 : fieldAt Tryd.prog 27 0 = some (0, TK.one) := by kernel_rfl
@[simp] theorem ix_fieldAt_27_1 : fieldAt Tryd.prog 27 1 = some (1, TK.one) := by kernel_rfl
@[simp] theorem ix_tk_28 : tk Tryd.prog 28 = TK.agg 2 := by kernel_rfl
@[simp] theorem ix_sliceT_28 : sliceT Tryd.prog 28 = none := by kernel_rfl
@[simp] theorem ix_isStringT_28 : isStringT Tryd.prog 28 = false := by kernel_rfl
@[simp] theorem ix_isSliceT_28 : isSliceT Tryd.prog 28 = false := by kernel_rfl
@[simp] theorem ix_mapT_28 : mapT Tryd.prog 28 = none := by kernel_rfl
@[simp] theorem ix_zeroX_28 : zeroX Tryd.prog 28 = some
  (XV.agg [CV.int IntKind.i64 0, CV.int IntKind.i64 0]) := by kernel_rfl
@[simp] theorem ix_zeroOf_28 : zeroOf Tryd.prog 28 = some
  [CV.int IntKind.i64 0, CV.int IntKind.i64 0] := by kernel_rfl
@[simp] theorem ix_rowT_28 : rowT Tryd.prog 28 = none := by kernel_rfl
@[simp] theorem ix_bytesT_28 : bytesT Tryd.prog 28 = some 16 := by kernel_rfl
@[simp] theorem ix_buildT_28 : buildT Tryd.prog 28 = some
  ([CV.int IntKind.i64 0, CV.int IntKind.i64 0], [(0, 1), (1, 1)]) := by kernel_rfl
@[simp] theorem ix_eqT_28 : eqT Tryd.prog 28 = some [BK.i, BK.i] := by kernel_rfl
@[simp] theorem ix_OneOk_28 : OneOk Tryd.prog 28 = true := by kernel_rfl
@[simp] theorem ix_intT_28 : intT Tryd.prog 28 = none := by kernel_rfl
@[simp] theorem ix_byteT_28 : byteT Tryd.prog 28 = false := by kernel_rfl
@[simp] theorem ix_byteSliceT_28 : byteSliceT Tryd.prog 28 = false := by kernel_rfl
@[simp] theorem ix_fieldAt_28_0 : fieldAt Tryd.prog 28 0 = some (0, TK.one) := by kernel_rfl
@[simp] theorem ix_fieldAt_28_1 : fieldAt Tryd.prog 28 1 = some (1, TK.one) := by kernel_rfl
@[simp] theorem ix_tk_32 : tk Tryd.prog 32 = TK.agg 5 := by kernel_rfl
@[simp] theorem ix_sliceT_32 : sliceT Tryd.prog 32 = none := by kernel_rfl
@[simp] theorem ix_isStringT_32 : isStringT Tryd.prog 32 = false := by kernel_rfl
@[simp] theorem ix_isSliceT_32 : isSliceT Tryd.prog 32 = false := by kernel_rfl
@[simp] theorem ix_mapT_32 : mapT Tryd.prog 32 = none := by kernel_rfl
@[simp] theorem ix_zeroX_32 : zeroX Tryd.prog 32 = some
  (XV.agg
    [CV.str [], CV.int IntKind.i64 0, CV.int IntKind.i64 0, CV.int IntKind.i64 0,
      CV.int IntKind.i64 0]) := by kernel_rfl
@[simp] theorem ix_zeroOf_32 : zeroOf Tryd.prog 32 = some
  [CV.str [], CV.int IntKind.i64 0, CV.int IntKind.i64 0, CV.int IntKind.i64 0,
    CV.int IntKind.i64 0] := by kernel_rfl
@[simp] theorem ix_rowT_32 : rowT Tryd.prog 32 = none := by kernel_rfl
@[simp] theorem ix_bytesT_32 : bytesT Tryd.prog 32 = some 48 := by kernel_rfl
@[simp] theorem ix_buildT_32 : buildT Tryd.prog 32 = some
  ([CV.str [], CV.int IntKind.i64 0, CV.int IntKind.i64 0, CV.int IntKind.i64 0,
      CV.int IntKind.i64 0],
    [(0, 1), (1, 1), (2, 2), (4, 1)]) := by kernel_rfl
@[simp] theorem ix_eqT_32 : eqT Tryd.prog 32 = some [BK.s, BK.i, BK.i, BK.i, BK.i] := by kernel_rfl
@[simp] theorem ix_OneOk_32 : OneOk Tryd.prog 32 = true := by kernel_rfl
@[simp] theorem ix_intT_32 : intT Tryd.prog 32 = none := by kernel_rfl
@[simp] theorem ix_byteT_32 : byteT Tryd.prog 32 = false := by kernel_rfl
@[simp] theorem ix_byteSliceT_32 : byteSliceT Tryd.prog 32 = false := by kernel_rfl
@[simp] theorem ix_fieldAt_32_0 : fieldAt Tryd.prog 32 0 = some (0, TK.one) := by kernel_rfl
@[simp] theorem ix_fieldAt_32_1 : fieldAt Tryd.prog 32 1 = some (1, TK.one) := by kernel_rfl
@[simp] theorem ix_fieldAt_32_2 : fieldAt Tryd.prog 32 2 = some (2, TK.agg 2) := by kernel_rfl
@[simp] theorem ix_fieldAt_32_3 : fieldAt Tryd.prog 32 3 = some (4, TK.one) := by kernel_rfl
@[simp] theorem ix_tk_33 : tk Tryd.prog 33 = TK.agg 5 := by kernel_rfl
@[simp] theorem ix_sliceT_33 : sliceT Tryd.prog 33 = none := by kernel_rfl
@[simp] theorem ix_isStringT_33 : isStringT Tryd.prog 33 = false := by kernel_rfl
@[simp] theorem ix_isSliceT_33 : isSliceT Tryd.prog 33 = false := by kernel_rfl
@[simp] theorem ix_mapT_33 : mapT Tryd.prog 33 = none := by kernel_rfl
@[simp] theorem ix_zeroX_33 : zeroX Tryd.prog 33 = some
  (XV.agg
    [CV.str [], CV.int IntKind.i64 0, CV.int IntKind.i64 0, CV.int IntKind.i64 0,
      CV.int IntKind.i64 0]) := by kernel_rfl
@[simp] theorem ix_zeroOf_33 : zeroOf Tryd.prog 33 = some
  [CV.str [], CV.int IntKind.i64 0, CV.int IntKind.i64 0, CV.int IntKind.i64 0,
    CV.int IntKind.i64 0] := by kernel_rfl
@[simp] theorem ix_rowT_33 : rowT Tryd.prog 33 = none := by kernel_rfl
@[simp] theorem ix_bytesT_33 : bytesT Tryd.prog 33 = some 48 := by kernel_rfl
@[simp] theorem ix_buildT_33 : buildT Tryd.prog 33 = some
  ([CV.str [], CV.int IntKind.i64 0, CV.int IntKind.i64 0, CV.int IntKind.i64 0,
      CV.int IntKind.i64 0],
    [(0, 1), (1, 1), (2, 2), (4, 1)]) := by kernel_rfl
@[simp] theorem ix_eqT_33 : eqT Tryd.prog 33 = some [BK.s, BK.i, BK.i, BK.i, BK.i] := by kernel_rfl
@[simp] theorem ix_OneOk_33 : OneOk Tryd.prog 33 = true := by kernel_rfl
@[simp] theorem ix_intT_33 : intT Tryd.prog 33 = none := by kernel_rfl
@[simp] theorem ix_byteT_33 : byteT Tryd.prog 33 = false := by kernel_rfl
@[simp] theorem ix_byteSliceT_33 : byteSliceT Tryd.prog 33 = false := by kernel_rfl
@[simp] theorem ix_fieldAt_33_0 : fieldAt Tryd.prog 33 0 = some (0, TK.one) := by kernel_rfl
@[simp] theorem ix_fieldAt_33_1 : fieldAt Tryd.prog 33 1 = some (1, TK.one) := by kernel_rfl
@[simp] theorem ix_fieldAt_33_2 : fieldAt Tryd.prog 33 2 = some (2, TK.agg 2) := by kernel_rfl
@[simp] theorem ix_fieldAt_33_3 : fieldAt Tryd.prog 33 3 = some (4, TK.one) := by kernel_rfl
@[simp] theorem ix_tk_39 : tk Tryd.prog 39 = TK.agg 9 := by kernel_rfl
@[simp] theorem ix_sliceT_39 : sliceT Tryd.prog 39 = none := by kernel_rfl
@[simp] theorem ix_isStringT_39 : isStringT Tryd.prog 39 = false := by kernel_rfl
@[simp] theorem ix_isSliceT_39 : isSliceT Tryd.prog 39 = false := by kernel_rfl
@[simp] theorem ix_mapT_39 : mapT Tryd.prog 39 = none := by kernel_rfl
@[simp] theorem ix_zeroX_39 : zeroX Tryd.prog 39 = some
  (XV.agg
    [CV.str [], CV.int IntKind.i64 0, CV.int IntKind.i64 0, CV.str [], CV.str [], CV.str [],
      CV.int IntKind.i64 0, CV.int IntKind.i64 0, CV.bool false]) := by kernel_rfl
@[simp] theorem ix_zeroOf_39 : zeroOf Tryd.prog 39 = some
  [CV.str [], CV.int IntKind.i64 0, CV.int IntKind.i64 0, CV.str [], CV.str [], CV.str [],
    CV.int IntKind.i64 0, CV.int IntKind.i64 0, CV.bool false] := by kernel_rfl
@[simp] theorem ix_rowT_39 : rowT Tryd.prog 39 = none := by kernel_rfl
@[simp] theorem ix_bytesT_39 : bytesT Tryd.prog 39 = some 104 := by kernel_rfl
@[simp] theorem ix_buildT_39 : buildT Tryd.prog 39 = some
  ([CV.str [], CV.int IntKind.i64 0, CV.int IntKind.i64 0, CV.str [], CV.str [], CV.str [],
      CV.int IntKind.i64 0, CV.int IntKind.i64 0, CV.bool false],
    [(0, 1), (1, 1), (2, 1), (3, 1), (4, 1), (5, 1), (6, 2), (8, 1)]) := by kernel_rfl
@[simp] theorem ix_eqT_39 : eqT Tryd.prog 39 = some
  [BK.s, BK.i, BK.i, BK.s, BK.s, BK.s, BK.i, BK.i, BK.b] := by kernel_rfl
@[simp] theorem ix_OneOk_39 : OneOk Tryd.prog 39 = true := by kernel_rfl
@[simp] theorem ix_intT_39 : intT Tryd.prog 39 = none := by kernel_rfl
@[simp] theorem ix_byteT_39 : byteT Tryd.prog 39 = false := by kernel_rfl
@[simp] theorem ix_byteSliceT_39 : byteSliceT Tryd.prog 39 = false := by kernel_rfl
@[simp] theorem ix_fieldAt_39_0 : fieldAt Tryd.prog 39 0 = some (0, TK.one) := by kernel_rfl
@[simp] theorem ix_fieldAt_39_1 : fieldAt Tryd.prog 39 1 = some (1, TK.one) := by kernel_rfl
@[simp] theorem ix_fieldAt_39_2 : fieldAt Tryd.prog 39 2 = some (2, TK.one) := by kernel_rfl
@[simp] theorem ix_fieldAt_39_3 : fieldAt Tryd.prog 39 3 = some (3, TK.one) := by kernel_rfl
@[simp] theorem ix_fieldAt_39_4 : fieldAt Tryd.prog 39 4 = some (4, TK.one) := by kernel_rfl
@[simp] theorem ix_fieldAt_39_5 : fieldAt Tryd.prog 39 5 = some (5, TK.one) := by kernel_rfl
@[simp] theorem ix_fieldAt_39_6 : fieldAt Tryd.prog 39 6 = some (6, TK.agg 2) := by kernel_rfl
@[simp] theorem ix_fieldAt_39_7 : fieldAt Tryd.prog 39 7 = some (8, TK.one) := by kernel_rfl
@[simp] theorem ix_tk_40 : tk Tryd.prog 40 = TK.agg 9 := by kernel_rfl
@[simp] theorem ix_sliceT_40 : sliceT Tryd.prog 40 = none := by kernel_rfl
@[simp] theorem ix_isStringT_40 : isStringT Tryd.prog 40 = false := by kernel_rfl
@[simp] theorem ix_isSliceT_40 : isSliceT Tryd.prog 40 = false := by kernel_rfl
@[simp] theorem ix_mapT_40 : mapT Tryd.prog 40 = none := by kernel_rfl
@[simp] theorem ix_zeroX_40 : zeroX Tryd.prog 40 = some
  (XV.agg
    [CV.str [], CV.int IntKind.i64 0, CV.int IntKind.i64 0, CV.str [], CV.str [], CV.str [],
      CV.int IntKind.i64 0, CV.int IntKind.i64 0, CV.bool false]) := by kernel_rfl
@[simp] theorem ix_zeroOf_40 : zeroOf Tryd.prog 40 = some
  [CV.str [], CV.int IntKind.i64 0, CV.int IntKind.i64 0, CV.str [], CV.str [], CV.str [],
    CV.int IntKind.i64 0, CV.int IntKind.i64 0, CV.bool false] := by kernel_rfl
@[simp] theorem ix_rowT_40 : rowT Tryd.prog 40 = none := by kernel_rfl
@[simp] theorem ix_bytesT_40 : bytesT Tryd.prog 40 = some 104 := by kernel_rfl
@[simp] theorem ix_buildT_40 : buildT Tryd.prog 40 = some
  ([CV.str [], CV.int IntKind.i64 0, CV.int IntKind.i64 0, CV.str [], CV.str [], CV.str [],
      CV.int IntKind.i64 0, CV.int IntKind.i64 0, CV.bool false],
    [(0, 1), (1, 1), (2, 1), (3, 1), (4, 1), (5, 1), (6, 2), (8, 1)]) := by kernel_rfl
@[simp] theorem ix_eqT_40 : eqT Tryd.prog 40 = some
  [BK.s, BK.i, BK.i, BK.s, BK.s, BK.s, BK.i, BK.i, BK.b] := by kernel_rfl
@[simp] theorem ix_OneOk_40 : OneOk Tryd.prog 40 = true := by kernel_rfl
@[simp] theorem ix_intT_40 : intT Tryd.prog 40 = none := by kernel_rfl
@[simp] theorem ix_byteT_40 : byteT Tryd.prog 40 = false := by kernel_rfl
@[simp] theorem ix_byteSliceT_40 : byteSliceT Tryd.prog 40 = false := by kernel_rfl
@[simp] theorem ix_fieldAt_40_0 : fieldAt Tryd.prog 40 0 = some (0, TK.one) := by kernel_rfl
@[simp] theorem ix_fieldAt_40_1 : fieldAt Tryd.prog 40 1 = some (1, TK.one) := by kernel_rfl
@[simp] theorem ix_fieldAt_40_2 : fieldAt Tryd.prog 40 2 = some (2, TK.one) := by kernel_rfl
@[simp] theorem ix_fieldAt_40_3 : fieldAt Tryd.prog 40 3 = some (3, TK.one) := by kernel_rfl
@[simp] theorem ix_fieldAt_40_4 : fieldAt Tryd.prog 40 4 = some (4, TK.one) := by kernel_rfl
@[simp] theorem ix_fieldAt_40_5 : fieldAt Tryd.prog 40 5 = some (5, TK.one) := by kernel_rfl
@[simp] theorem ix_fieldAt_40_6 : fieldAt Tryd.prog 40 6 = some (6, TK.agg 2) := by kernel_rfl
@[simp] theorem ix_fieldAt_40_7 : fieldAt Tryd.prog 40 7 = some (8, TK.one) := by kernel_rfl
@[simp] theorem ix_tk_43 : tk Tryd.prog 43 = TK.one := by kernel_rfl
@[simp] theorem ix_sliceT_43 : sliceT Tryd.prog 43 = some (9, 1) := by kernel_rfl
@[simp] theorem ix_isStringT_43 : isStringT Tryd.prog 43 = false := by kernel_rfl
@[simp] theorem ix_isSliceT_43 : isSliceT Tryd.prog 43 = true := by kernel_rfl
@[simp] theorem ix_mapT_43 : mapT Tryd.prog 43 = none := by kernel_rfl
@[simp] theorem ix_zeroX_43 : zeroX Tryd.prog 43 = some (XV.one CV.nil) := by kernel_rfl
@[simp] theorem ix_zeroOf_43 : zeroOf Tryd.prog 43 = some [CV.nil] := by kernel_rfl
@[simp] theorem ix_rowT_43 : rowT Tryd.prog 43 = some (9, 1, [CV.str []]) := by kernel_rfl
@[simp] theorem ix_bytesT_43 : bytesT Tryd.prog 43 = some 24 := by kernel_rfl
@[simp] theorem ix_buildT_43 : buildT Tryd.prog 43 = none := by kernel_rfl
@[simp] theorem ix_eqT_43 : eqT Tryd.prog 43 = none := by kernel_rfl
@[simp] theorem ix_OneOk_43 : OneOk Tryd.prog 43 = true := by kernel_rfl
@[simp] theorem ix_intT_43 : intT Tryd.prog 43 = none := by kernel_rfl
@[simp] theorem ix_byteT_43 : byteT Tryd.prog 43 = false := by kernel_rfl
@[simp] theorem ix_byteSliceT_43 : byteSliceT Tryd.prog 43 = false := by kernel_rfl
@[simp] theorem ix_tk_55 : tk Tryd.prog 55 = TK.one := by kernel_rfl
@[simp] theorem ix_sliceT_55 : sliceT Tryd.prog 55 = some (59, 5) := by kernel_rfl
@[simp] theorem ix_isStringT_55 : isStringT Tryd.prog 55 = false := by kernel_rfl
@[simp] theorem ix_isSliceT_55 : isSliceT Tryd.prog 55 = true := by kernel_rfl
@[simp] theorem ix_mapT_55 : mapT Tryd.prog 55 = none := by kernel_rfl
@[simp] theorem ix_zeroX_55 : zeroX Tryd.prog 55 = some (XV.one CV.nil) := by kernel_rfl
@[simp] theorem ix_zeroOf_55 : zeroOf Tryd.prog 55 = some [CV.nil] := by kernel_rfl
@[simp] theorem ix_rowT_55 : rowT Tryd.prog 55 = some
  (59, 5,
    [CV.str [], CV.int IntKind.i64 0, CV.int IntKind.i64 0, CV.int IntKind.i64 0,
      CV.int IntKind.i64 0]) := by kernel_rfl
@[simp] theorem ix_bytesT_55 : bytesT Tryd.prog 55 = some 24 := by kernel_rfl
@[simp] theorem ix_buildT_55 : buildT Tryd.prog 55 = none := by kernel_rfl
@[simp] theorem ix_eqT_55 : eqT Tryd.prog 55 = none := by kernel_rfl
@[simp] theorem ix_OneOk_55 : OneOk Tryd.prog 55 = true := by kernel_rfl
@[simp] theorem ix_intT_55 : intT Tryd.prog 55 = none := by kernel_rfl
@[simp] theorem ix_byteT_55 : byteT Tryd.prog 55 = false := by kernel_rfl
@[simp] theorem ix_byteSliceT_55 : byteSliceT Tryd.prog 55 = false := by kernel_rfl
@[simp] theorem ix_tk_58 : tk Tryd.prog 58 = TK.agg 5 := by kernel_rfl
@[simp] theorem ix_sliceT_58 : sliceT Tryd.prog 58 = none := by kernel_rfl
@[simp] theorem ix_isStringT_58 : isStringT Tryd.prog 58 = false := by kernel_rfl
@[simp] theorem ix_isSliceT_58 : isSliceT Tryd.prog 58 = false := by kernel_rfl
@[simp] theorem ix_mapT_58 : mapT Tryd.prog 58 = none := by kernel_rfl
@[simp] theorem ix_zeroX_58 : zeroX Tryd.prog 58 = some
  (XV.agg
    [CV.str [], CV.int IntKind.i64 0, CV.int IntKind.i64 0, CV.int IntKind.i64 0,
      CV.int IntKind.i64 0]) := by kernel_rfl
@[simp] theorem ix_zeroOf_58 : zeroOf Tryd.prog 58 = some
  [CV.str [], CV.int IntKind.i64 0, CV.int IntKind.i64 0, CV.int IntKind.i64 0,
    CV.int IntKind.i64 0] := by kernel_rfl
@[simp] theorem ix_rowT_58 : rowT Tryd.prog 58 = none := by kernel_rfl
@[simp] theorem ix_bytesT_58 : bytesT Tryd.prog 58 = some 48 := by kernel_rfl
@[simp] theorem ix_buildT_58 : buildT Tryd.prog 58 = some
  ([CV.str [], CV.int IntKind.i64 0, CV.int IntKind.i64 0, CV.int IntKind.i64 0,
      CV.int IntKind.i64 0],
    [(0, 1), (1, 1), (2, 1), (3, 1), (4, 1)]) := by kernel_rfl
@[simp] theorem ix_eqT_58 : eqT Tryd.prog 58 = some [BK.s, BK.i, BK.i, BK.i, BK.i] := by kernel_rfl
@[simp] theorem ix_OneOk_58 : OneOk Tryd.prog 58 = true := by kernel_rfl
@[simp] theorem ix_intT_58 : intT Tryd.prog 58 = none := by kernel_rfl
@[simp] theorem ix_byteT_58 : byteT Tryd.prog 58 = false := by kernel_rfl
@[simp] theorem ix_byteSliceT_58 : byteSliceT Tryd.prog 58 = false := by kernel_rfl
@[simp] theorem ix_fieldAt_58_0 : fieldAt Tryd.prog 58 0 = some (0, TK.one) := by kernel_rfl
@[simp] theorem ix_fieldAt_58_1 : fieldAt Tryd.prog 58 1 = some (1, TK.one) := by kernel_rfl
@[simp] theorem ix_fieldAt_58_2 : fieldAt Tryd.prog 58 2 = some (2, TK.one) := by kernel_rfl
@[simp] theorem ix_fieldAt_58_3 : fieldAt Tryd.prog 58 3 = some (3, TK.one) := by kernel_rfl
@[simp] theorem ix_fieldAt_58_4 : fieldAt Tryd.prog 58 4 = some (4, TK.one) := by kernel_rfl
@[simp] theorem ix_tk_59 : tk Tryd.prog 59 = TK.agg 5 := by kernel_rfl
@[simp] theorem ix_sliceT_59 : sliceT Tryd.prog 59 = none := by kernel_rfl
@[simp] theorem ix_isStringT_59 : isStringT Tryd.prog 59 = false := by kernel_rfl
@[simp] theorem ix_isSliceT_59 : isSliceT Tryd.prog 59 = false := by kernel_rfl
@[simp] theorem ix_mapT_59 : mapT Tryd.prog 59 = none := by kernel_rfl
@[simp] theorem ix_zeroX_59 : zeroX Tryd.prog 59 = some
  (XV.agg
    [CV.str [], CV.int IntKind.i64 0, CV.int IntKind.i64 0, CV.int IntKind.i64 0,
      CV.int IntKind.i64 0]) := by kernel_rfl
@[simp] theorem ix_zeroOf_59 : zeroOf Tryd.prog 59 = some
  [CV.str [], CV.int IntKind.i64 0, CV.int IntKind.i64 0, CV.int IntKind.i64 0,
    CV.int IntKind.i64 0] := by kernel_rfl
@[simp] theorem ix_rowT_59 : rowT Tryd.prog 59 = none := by kernel_rfl
@[simp] theorem ix_bytesT_59 : bytesT Tryd.prog 59 = some 48 := by kernel_rfl
@[simp] theorem ix_buildT_59 : buildT Tryd.prog 59 = some
  ([CV.str [], CV.int IntKind.i64 0, CV.int IntKind.i64 0, CV.int IntKind.i64 0,
      CV.int IntKind.i64 0],
    [(0, 1), (1, 1), (2, 1), (3, 1), (4, 1)]) := by kernel_rfl
@[simp] theorem ix_eqT_59 : eqT Tryd.prog 59 = some [BK.s, BK.i, BK.i, BK.i, BK.i] := by kernel_rfl
@[simp] theorem ix_OneOk_59 : OneOk Tryd.prog 59 = true := by kernel_rfl
@[simp] theorem ix_intT_59 : intT Tryd.prog 59 = none := by kernel_rfl
@[simp] theorem ix_byteT_59 : byteT Tryd.prog 59 = false := by kernel_rfl
@[simp] theorem ix_byteSliceT_59 : byteSliceT Tryd.prog 59 = false := by kernel_rfl
@[simp] theorem ix_fieldAt_59_0 : fieldAt Tryd.prog 59 0 = some (0, TK.one) := by kernel_rfl
@[simp] theorem ix_fieldAt_59_1 : fieldAt Tryd.prog 59 1 = some (1, TK.one) := by kernel_rfl
@[simp] theorem ix_fieldAt_59_2 : fieldAt Tryd.prog 59 2 = some (2, TK.one) := by kernel_rfl
@[simp] theorem ix_fieldAt_59_3 : fieldAt Tryd.prog 59 3 = some (3, TK.one) := by kernel_rfl
@[simp] theorem ix_fieldAt_59_4 : fieldAt Tryd.prog 59 4 = some (4, TK.one) := by kernel_rfl
@[simp] theorem ix_tk_66 : tk Tryd.prog 66 = TK.one := by kernel_rfl
@[simp] theorem ix_sliceT_66 : sliceT Tryd.prog 66 = some (5, 1) := by kernel_rfl
@[simp] theorem ix_isStringT_66 : isStringT Tryd.prog 66 = false := by kernel_rfl
@[simp] theorem ix_isSliceT_66 : isSliceT Tryd.prog 66 = true := by kernel_rfl
@[simp] theorem ix_mapT_66 : mapT Tryd.prog 66 = none := by kernel_rfl
@[simp] theorem ix_zeroX_66 : zeroX Tryd.prog 66 = some (XV.one CV.nil) := by kernel_rfl
@[simp] theorem ix_zeroOf_66 : zeroOf Tryd.prog 66 = some [CV.nil] := by kernel_rfl
@[simp] theorem ix_rowT_66 : rowT Tryd.prog 66 = some
  (5, 1, [CV.int IntKind.u8 0]) := by kernel_rfl
@[simp] theorem ix_bytesT_66 : bytesT Tryd.prog 66 = some 24 := by kernel_rfl
@[simp] theorem ix_buildT_66 : buildT Tryd.prog 66 = none := by kernel_rfl
@[simp] theorem ix_eqT_66 : eqT Tryd.prog 66 = none := by kernel_rfl
@[simp] theorem ix_OneOk_66 : OneOk Tryd.prog 66 = true := by kernel_rfl
@[simp] theorem ix_intT_66 : intT Tryd.prog 66 = none := by kernel_rfl
@[simp] theorem ix_byteT_66 : byteT Tryd.prog 66 = false := by kernel_rfl
@[simp] theorem ix_byteSliceT_66 : byteSliceT Tryd.prog 66 = true := by kernel_rfl
@[simp] theorem ix_tk_79 : tk Tryd.prog 79 = TK.one := by kernel_rfl
@[simp] theorem ix_sliceT_79 : sliceT Tryd.prog 79 = none := by kernel_rfl
@[simp] theorem ix_isStringT_79 : isStringT Tryd.prog 79 = false := by kernel_rfl
@[simp] theorem ix_isSliceT_79 : isSliceT Tryd.prog 79 = false := by kernel_rfl
@[simp] theorem ix_mapT_79 : mapT Tryd.prog 79 = some (KK.s, 4) := by kernel_rfl
@[simp] theorem ix_zeroX_79 : zeroX Tryd.prog 79 = some (XV.one (CV.atom (Value.map none))) := by kernel_rfl
@[simp] theorem ix_zeroOf_79 : zeroOf Tryd.prog 79 = some [CV.atom (Value.map none)] := by kernel_rfl
@[simp] theorem ix_rowT_79 : rowT Tryd.prog 79 = none := by kernel_rfl
@[simp] theorem ix_bytesT_79 : bytesT Tryd.prog 79 = some 8 := by kernel_rfl
@[simp] theorem ix_buildT_79 : buildT Tryd.prog 79 = none := by kernel_rfl
@[simp] theorem ix_eqT_79 : eqT Tryd.prog 79 = none := by kernel_rfl
@[simp] theorem ix_OneOk_79 : OneOk Tryd.prog 79 = true := by kernel_rfl
@[simp] theorem ix_intT_79 : intT Tryd.prog 79 = none := by kernel_rfl
@[simp] theorem ix_byteT_79 : byteT Tryd.prog 79 = false := by kernel_rfl
@[simp] theorem ix_byteSliceT_79 : byteSliceT Tryd.prog 79 = false := by kernel_rfl
@[simp] theorem ix_tk_80 : tk Tryd.prog 80 = TK.agg 6 := by kernel_rfl
@[simp] theorem ix_sliceT_80 : sliceT Tryd.prog 80 = none := by kernel_rfl
@[simp] theorem ix_isStringT_80 : isStringT Tryd.prog 80 = false := by kernel_rfl
@[simp] theorem ix_isSliceT_80 : isSliceT Tryd.prog 80 = false := by kernel_rfl
@[simp] theorem ix_mapT_80 : mapT Tryd.prog 80 = none := by kernel_rfl
@[simp] theorem ix_zeroX_80 : zeroX Tryd.prog 80 = some
  (XV.agg
    [CV.int IntKind.i64 0, CV.int IntKind.i64 0, CV.int IntKind.i64 0,
      CV.int IntKind.i64 0, CV.int IntKind.i64 0,
      CV.int IntKind.i64 0]) := by kernel_rfl
@[simp] theorem ix_zeroOf_80 : zeroOf Tryd.prog 80 = some
  [CV.int IntKind.i64 0, CV.int IntKind.i64 0, CV.int IntKind.i64 0,
    CV.int IntKind.i64 0, CV.int IntKind.i64 0,
    CV.int IntKind.i64 0] := by kernel_rfl
@[simp] theorem ix_rowT_80 : rowT Tryd.prog 80 = none := by kernel_rfl
@[simp] theorem ix_bytesT_80 : bytesT Tryd.prog 80 = some 48 := by kernel_rfl
@[simp] theorem ix_buildT_80 : buildT Tryd.prog 80 = some
  ([CV.int IntKind.i64 0, CV.int IntKind.i64 0, CV.int IntKind.i64 0,
      CV.int IntKind.i64 0, CV.int IntKind.i64 0, CV.int IntKind.i64 0],
    [(0, 1), (1, 1), (2, 1), (3, 1), (4, 1), (5, 1)]) := by kernel_rfl
@[simp] theorem ix_eqT_80 : eqT Tryd.prog 80 = some [BK.i, BK.i, BK.i, BK.i, BK.i, BK.i] := by kernel_rfl
@[simp] theorem ix_OneOk_80 : OneOk Tryd.prog 80 = true := by kernel_rfl
@[simp] theorem ix_intT_80 : intT Tryd.prog 80 = none := by kernel_rfl
@[simp] theorem ix_byteT_80 : byteT Tryd.prog 80 = false := by kernel_rfl
@[simp] theorem ix_byteSliceT_80 : byteSliceT Tryd.prog 80 = false := by kernel_rfl
@[simp] theorem ix_fieldAt_80_0 : fieldAt Tryd.prog 80 0 = some (0, TK.one) := by kernel_rfl
@[simp] theorem ix_fieldAt_80_1 : fieldAt Tryd.prog 80 1 = some (1, TK.one) := by kernel_rfl
@[simp] theorem ix_fieldAt_80_2 : fieldAt Tryd.prog 80 2 = some (2, TK.one) := by kernel_rfl
@[simp] theorem ix_fieldAt_80_3 : fieldAt Tryd.prog 80 3 = some (3, TK.one) := by kernel_rfl
@[simp] theorem ix_fieldAt_80_4 : fieldAt Tryd.prog 80 4 = some (4, TK.one) := by kernel_rfl
@[simp] theorem ix_fieldAt_80_5 : fieldAt Tryd.prog 80 5 = some (5, TK.one) := by kernel_rfl
@[simp] theorem ix_tk_81 : tk Tryd.prog 81 = TK.agg 6 := by kernel_rfl
@[simp] theorem ix_sliceT_81 : sliceT Tryd.prog 81 = none := by kernel_rfl
@[simp] theorem ix_isStringT_81 : isStringT Tryd.prog 81 = false := by kernel_rfl
@[simp] theorem ix_isSliceT_81 : isSliceT Tryd.prog 81 = false := by kernel_rfl
@[simp] theorem ix_mapT_81 : mapT Tryd.prog 81 = none := by kernel_rfl
@[simp] theorem ix_zeroX_81 : zeroX Tryd.prog 81 = some
  (XV.agg
    [CV.int IntKind.i64 0, CV.int IntKind.i64 0, CV.int IntKind.i64 0,
      CV.int IntKind.i64 0, CV.int IntKind.i64 0,
      CV.int IntKind.i64 0]) := by kernel_rfl
@[simp] theorem ix_zeroOf_81 : zeroOf Tryd.prog 81 = some
  [CV.int IntKind.i64 0, CV.int IntKind.i64 0, CV.int IntKind.i64 0,
    CV.int IntKind.i64 0, CV.int IntKind.i64 0,
    CV.int IntKind.i64 0] := by kernel_rfl
@[simp] theorem ix_rowT_81 : rowT Tryd.prog 81 = none := by kernel_rfl
@[simp] theorem ix_bytesT_81 : bytesT Tryd.prog 81 = some 48 := by kernel_rfl
@[simp] theorem ix_buildT_81 : buildT Tryd.prog 81 = some
  ([CV.int IntKind.i64 0, CV.int IntKind.i64 0, CV.int IntKind.i64 0,
      CV.int IntKind.i64 0, CV.int IntKind.i64 0, CV.int IntKind.i64 0],
    [(0, 1), (1, 1), (2, 1), (3, 1), (4, 1), (5, 1)]) := by kernel_rfl
@[simp] theorem ix_eqT_81 : eqT Tryd.prog 81 = some [BK.i, BK.i, BK.i, BK.i, BK.i, BK.i] := by kernel_rfl
@[simp] theorem ix_OneOk_81 : OneOk Tryd.prog 81 = true := by kernel_rfl
@[simp] theorem ix_intT_81 : intT Tryd.prog 81 = none := by kernel_rfl
@[simp] theorem ix_byteT_81 : byteT Tryd.prog 81 = false := by kernel_rfl
@[simp] theorem ix_byteSliceT_81 : byteSliceT Tryd.prog 81 = false := by kernel_rfl
@[simp] theorem ix_fieldAt_81_0 : fieldAt Tryd.prog 81 0 = some (0, TK.one) := by kernel_rfl
@[simp] theorem ix_fieldAt_81_1 : fieldAt Tryd.prog 81 1 = some (1, TK.one) := by kernel_rfl
@[simp] theorem ix_fieldAt_81_2 : fieldAt Tryd.prog 81 2 = some (2, TK.one) := by kernel_rfl
@[simp] theorem ix_fieldAt_81_3 : fieldAt Tryd.prog 81 3 = some (3, TK.one) := by kernel_rfl
@[simp] theorem ix_fieldAt_81_4 : fieldAt Tryd.prog 81 4 = some (4, TK.one) := by kernel_rfl
@[simp] theorem ix_fieldAt_81_5 : fieldAt Tryd.prog 81 5 = some (5, TK.one) := by kernel_rfl
@[simp] theorem ix_tk_84 : tk Tryd.prog 84 = TK.one := by kernel_rfl
@[simp] theorem ix_sliceT_84 : sliceT Tryd.prog 84 = some (3, 1) := by kernel_rfl
@[simp] theorem ix_isStringT_84 : isStringT Tryd.prog 84 = false := by kernel_rfl
@[simp] theorem ix_isSliceT_84 : isSliceT Tryd.prog 84 = true := by kernel_rfl
@[simp] theorem ix_mapT_84 : mapT Tryd.prog 84 = none := by kernel_rfl
@[simp] theorem ix_zeroX_84 : zeroX Tryd.prog 84 = some (XV.one CV.nil) := by kernel_rfl
@[simp] theorem ix_zeroOf_84 : zeroOf Tryd.prog 84 = some [CV.nil] := by kernel_rfl
@[simp] theorem ix_rowT_84 : rowT Tryd.prog 84 = some
  (3, 1, [CV.int IntKind.i64 0]) := by kernel_rfl
@[simp] theorem ix_bytesT_84 : bytesT Tryd.prog 84 = some 24 := by kernel_rfl
@[simp] theorem ix_buildT_84 : buildT Tryd.prog 84 = none := by kernel_rfl
@[simp] theorem ix_eqT_84 : eqT Tryd.prog 84 = none := by kernel_rfl
@[simp] theorem ix_OneOk_84 : OneOk Tryd.prog 84 = true := by kernel_rfl
@[simp] theorem ix_intT_84 : intT Tryd.prog 84 = none := by kernel_rfl
@[simp] theorem ix_byteT_84 : byteT Tryd.prog 84 = false := by kernel_rfl
@[simp] theorem ix_byteSliceT_84 : byteSliceT Tryd.prog 84 = false := by kernel_rfl
@[simp] theorem ix_tk_104 : tk Tryd.prog 104 = TK.one := by kernel_rfl
@[simp] theorem ix_sliceT_104 : sliceT Tryd.prog 104 = none := by kernel_rfl
@[simp] theorem ix_isStringT_104 : isStringT Tryd.prog 104 = false := by kernel_rfl
@[simp] theorem ix_isSliceT_104 : isSliceT Tryd.prog 104 = false := by kernel_rfl
@[simp] theorem ix_mapT_104 : mapT Tryd.prog 104 = none := by kernel_rfl
@[simp] theorem ix_zeroX_104 : zeroX Tryd.prog 104 = some
  (XV.one (CV.int IntKind.u64 0)) := by kernel_rfl
@[simp] theorem ix_zeroOf_104 : zeroOf Tryd.prog 104 = some
  [CV.int IntKind.u64 0] := by kernel_rfl
@[simp] theorem ix_rowT_104 : rowT Tryd.prog 104 = none := by kernel_rfl
@[simp] theorem ix_bytesT_104 : bytesT Tryd.prog 104 = some 8 := by kernel_rfl
@[simp] theorem ix_buildT_104 : buildT Tryd.prog 104 = none := by kernel_rfl
@[simp] theorem ix_eqT_104 : eqT Tryd.prog 104 = none := by kernel_rfl
@[simp] theorem ix_OneOk_104 : OneOk Tryd.prog 104 = true := by kernel_rfl
@[simp] theorem ix_intT_104 : intT Tryd.prog 104 = some IntKind.u64 := by kernel_rfl
@[simp] theorem ix_byteT_104 : byteT Tryd.prog 104 = false := by kernel_rfl
@[simp] theorem ix_byteSliceT_104 : byteSliceT Tryd.prog 104 = false := by kernel_rfl
@[simp] theorem ix_tk_114 : tk Tryd.prog 114 = TK.one := by kernel_rfl
@[simp] theorem ix_sliceT_114 : sliceT Tryd.prog 114 = none := by kernel_rfl
@[simp] theorem ix_isStringT_114 : isStringT Tryd.prog 114 = false := by kernel_rfl
@[simp] theorem ix_isSliceT_114 : isSliceT Tryd.prog 114 = false := by kernel_rfl
@[simp] theorem ix_mapT_114 : mapT Tryd.prog 114 = none := by kernel_rfl
@[simp] theorem ix_zeroX_114 : zeroX Tryd.prog 114 = some
  (XV.one (CV.int IntKind.u64 0)) := by kernel_rfl
@[simp] theorem ix_zeroOf_114 : zeroOf Tryd.prog 114 = some
  [CV.int IntKind.u64 0] := by kernel_rfl
@[simp] theorem ix_rowT_114 : rowT Tryd.prog 114 = none := by kernel_rfl
@[simp] theorem ix_bytesT_114 : bytesT Tryd.prog 114 = some 8 := by kernel_rfl
@[simp] theorem ix_buildT_114 : buildT Tryd.prog 114 = none := by kernel_rfl
@[simp] theorem ix_eqT_114 : eqT Tryd.prog 114 = none := by kernel_rfl
@[simp] theorem ix_OneOk_114 : OneOk Tryd.prog 114 = true := by kernel_rfl
@[simp] theorem ix_intT_114 : intT Tryd.prog 114 = some IntKind.u64 := by kernel_rfl
@[simp] theorem ix_byteT_114 : byteT Tryd.prog 114 = false := by kernel_rfl
@[simp] theorem ix_byteSliceT_114 : byteSliceT Tryd.prog 114 = false := by kernel_rfl
@[simp] theorem ix_tk_131 : tk Tryd.prog 131 = TK.agg 2 := by kernel_rfl
@[simp] theorem ix_sliceT_131 : sliceT Tryd.prog 131 = none := by kernel_rfl
@[simp] theorem ix_isStringT_131 : isStringT Tryd.prog 131 = false := by kernel_rfl
@[simp] theorem ix_isSliceT_131 : isSliceT Tryd.prog 131 = false := by kernel_rfl
@[simp] theorem ix_mapT_131 : mapT Tryd.prog 131 = none := by kernel_rfl
@[simp] theorem ix_zeroX_131 : zeroX Tryd.prog 131 = some
  (XV.agg [CV.int IntKind.u8 0, CV.int IntKind.u8 0]) := by kernel_rfl
@[simp] theorem ix_zeroOf_131 : zeroOf Tryd.prog 131 = some
  [CV.int IntKind.u8 0, CV.int IntKind.u8 0] := by kernel_rfl
@[simp] theorem ix_rowT_131 : rowT Tryd.prog 131 = none := by kernel_rfl
@[simp] theorem ix_bytesT_131 : bytesT Tryd.prog 131 = some 2 := by kernel_rfl
@[simp] theorem ix_buildT_131 : buildT Tryd.prog 131 = some
  ([CV.int IntKind.u8 0, CV.int IntKind.u8 0], [(0, 1), (1, 1)]) := by kernel_rfl
@[simp] theorem ix_eqT_131 : eqT Tryd.prog 131 = some [BK.i, BK.i] := by kernel_rfl
@[simp] theorem ix_OneOk_131 : OneOk Tryd.prog 131 = true := by kernel_rfl
@[simp] theorem ix_intT_131 : intT Tryd.prog 131 = none := by kernel_rfl
@[simp] theorem ix_byteT_131 : byteT Tryd.prog 131 = false := by kernel_rfl
@[simp] theorem ix_byteSliceT_131 : byteSliceT Tryd.prog 131 = false := by kernel_rfl
@[simp] theorem ix_fieldAt_131_0 : fieldAt Tryd.prog 131 0 = some (0, TK.one) := by kernel_rfl
@[simp] theorem ix_fieldAt_131_1 : fieldAt Tryd.prog 131 1 = some (1, TK.one) := by kernel_rfl
end Go.Proofs.YtejhjdpafdpjlaaDoor
