/- A part of the proof: lemmas and contracts of functions. -/
import Derived.Test.YtdciogjhkckigaaDoorChecked
import Derived.KernelRfl
import Derived.Test.YtdciogjhkckigaaDoorAbSimp2
namespace Go.Proofs.YtdciogjhkckigaaDoor
open Go Go.Ab
@[simp] theorem ix_tk_3 : tk Tryd.prog 3 = TK.one := by kernel_rfl
@[simp] theorem ix_sliceT_3 : sliceT Tryd.prog 3 = none := by kernel_rfl
@[simp] theorem ix_isStringT_3 : isStringT Tryd.prog 3 = false := by kernel_rfl
@[simp] theorem ix_isSliceT_3 : isSliceT Tryd.prog 3 = false := by kernel_rfl
@[simp] theorem ix_mapT_3 : mapT Tryd.prog 3 = none := by kernel_rfl
@[simp] theorem ix_zeroX_3 : zeroX Tryd.prog 3 = some
  (XV.one (CV.int IntKind.i64 0)) := by kernel_rfl
@[simp] theorem ix_zeroOf_3 : zeroOf Tryd.prog 3 = some [CV.int IntKind.i64 0] := by kernel_rfl
@[simp] theorem ix_rowT_3 : rowT Tryd.prog 3 = none := by kernel_rfl
@[simp] theorem ix_bytesT_3 : bytesT Tryd.prog 3 = some 8 := by kernel_rfl
@[simp] theorem ix_buildT_3 : buildT Tryd.prog 3 = none := by kernel_rfl
@[simp] theorem ix_eqT_3 : eqT Tryd.prog 3 = none := by kernel_rfl
@[simp] theorem ix_OneOk_3 : OneOk Tryd.prog 3 = true := by kernel_rfl
@[simp] theorem ix_intT_3 : intT Tryd.prog 3 = some IntKind.i64 := by kernel_rfl
@[simp] theorem ix_tk_4 : tk Tryd.prog 4 = TK.one := by kernel_rfl
@[simp] theorem ix_sliceT_4 : sliceT Tryd.prog 4 = none := by kernel_rfl
@[simp] theorem ix_isStringT_4 : isStringT Tryd.prog 4 = false := by kernel_rfl
@[simp] theorem ix_isSliceT_4 : isSliceT Tryd.prog 4 = false := by kernel_rfl
@[simp] theorem ix_mapT_4 : mapT Tryd.prog 4 = none := by kernel_rfl
@[simp] theorem ix_zeroX_4 : zeroX Tryd.prog 4 = some (XV.one (CV.bool false)) := by kernel_rfl
@[simp] theorem ix_zeroOf_4 : zeroOf Tryd.prog 4 = some [CV.bool false] := by kernel_rfl
@[simp] theorem ix_rowT_4 : rowT Tryd.prog 4 = none := by kernel_rfl
@[simp] theorem ix_bytesT_4 : bytesT Tryd.prog 4 = some 1 := by kernel_rfl
@[simp] theorem ix_buildT_4 : buildT Tryd.prog 4 = none := by kernel_rfl
@[simp] theorem ix_eqT_4 : eqT Tryd.prog 4 = none := by kernel_rfl
@[simp] theorem ix_OneOk_4 : OneOk Tryd.prog 4 = true := by kernel_rfl
@[simp] theorem ix_intT_4 : intT Tryd.prog 4 = none := by kernel_rfl
@[simp] theorem ix_tk_5 : tk Tryd.prog 5 = TK.one := by kernel_rfl
@[simp] theorem ix_sliceT_5 : sliceT Tryd.prog 5 = none := by kernel_rfl
@[simp] theorem ix_isStringT_5 : isStringT Tryd.prog 5 = false := by kernel_rfl
@[simp] theorem ix_isSliceT_5 : isSliceT Tryd.prog 5 = false := by kernel_rfl
@[simp] theorem ix_mapT_5 : mapT Tryd.prog 5 = none := by kernel_rfl
@[simp] theorem ix_zeroX_5 : zeroX Tryd.prog 5 = some
  (XV.one (CV.int IntKind.u8 0)) := by kernel_rfl
@[simp] theorem ix_zeroOf_5 : zeroOf Tryd.prog 5 = some [CV.int IntKind.u8 0] := by kernel_rfl
@[simp] theorem ix_rowT_5 : rowT Tryd.prog 5 = none := by kernel_rfl
@[simp] theorem ix_bytesT_5 : bytesT Tryd.prog 5 = some 1 := by kernel_rfl
@[simp] theorem ix_buildT_5 : buildT Tryd.prog 5 = none := by kernel_rfl
@[simp] theorem ix_eqT_5 : eqT Tryd.prog 5 = none := by kernel_rfl
@[simp] theorem ix_OneOk_5 : OneOk Tryd.prog 5 = true := by kernel_rfl
@[simp] theorem ix_intT_5 : intT Tryd.prog 5 = some IntKind.u8 := by kernel_rfl
@[simp] theorem ix_tk_9 : tk Tryd.prog 9 = TK.one := by kernel_rfl
@[simp] theorem ix_sliceT_9 : sliceT Tryd.prog 9 = none := by kernel_rfl
@[simp] theorem ix_isStringT_9 : isStringT Tryd.prog 9 = true := by kernel_rfl
@[simp] theorem ix_isSliceT_9 : isSliceT Tryd.prog 9 = false := by kernel_rfl
@[simp] theorem ix_mapT_9 : mapT Tryd.prog 9 = none := by kernel_rfl
@[simp] theorem ix_zeroX_9 : zeroX Tryd.prog 9 = some (XV.one (CV.str [])) := by kernel_rfl
@[simp] theorem ix_zeroOf_9 : zeroOf Tryd.prog 9 = some [CV.str []] := by kernel_rfl
@[simp] theorem ix_rowT_9 : rowT Tryd.prog 9 = none := by kernel_rfl
@[simp] theorem ix_bytesT_9 : bytesT Tryd.prog 9 = some 16 := by kernel_rfl
@[simp] theorem ix_buildT_9 : buildT Tryd.prog 9 = none := by kernel_rfl
@[simp] theorem ix_eqT_9 : eqT Tryd.prog 9 = none := by kernel_rfl
@[simp] theorem ix_OneOk_9 : OneOk Tryd.prog 9 = true := by kernel_rfl
@[simp] theorem ix_intT_9 : intT Tryd.prog 9 = none := by kernel_rfl
@[simp] theorem ix_tk_22 : tk Tryd.prog 22 = TK.one := by kernel_rfl
@[simp] theorem ix_sliceT_22 : sliceT Tryd.prog 22 = some (33, 9) := by kernel_rfl
@[simp] theorem ix_isStringT_22 : isStringT Tryd.prog 22 = false := by kernel_rfl
@[simp] theorem ix_isSliceT_22 : isSliceT Tryd.prog 22 = true := by kernel_rfl
@[simp] theorem ix_mapT_22 : mapT Tryd.prog 22 = none := by kernel_rfl
@[simp] theorem ix_zeroX_22 : zeroX Tryd.prog 22 = some (XV.one CV.nil) := by kernel_rfl
@[simp] theorem ix_zeroOf_22 : zeroOf Tryd.prog 22 = some [CV.nil] := by kernel_rfl
@[simp] theorem ix_rowT_22 : rowT Tryd.prog 22 = some
  (33, 9,
    [CV.str [], CV.int IntKind.i64 0, CV.int IntKind.i64 0, CV.str [], CV.str [], CV.str [],
      CV.int IntKind.i64 0, CV.int IntKind.i64 0, CV.bool false]) := by kernel_rfl
@[simp] theorem ix_bytesT_22 : bytesT Tryd.prog 22 = some 24 := by kernel_rfl
@[simp] theorem ix_buildT_22 : buildT Tryd.prog 22 = none := by kernel_rfl
@[simp] theorem ix_eqT_22 : eqT Tryd.prog 22 = none := by kernel_rfl
@[simp] theorem ix_OneOk_22 : OneOk Tryd.prog 22 = true := by kernel_rfl
@[simp] theorem ix_intT_22 : intT Tryd.prog 22 = none := by kernel_rfl
@[simp] theorem ix_tk_23 : tk Tryd.prog 23 = TK.one := by kernel_rfl
@[simp] theorem ix_sliceT_23 : sliceT Tryd.prog 23 = some (29, 5) := by kernel_rfl
@[simp] theorem ix_isStringT_23 : isStringT Tryd.prog 23 = false := by kernel_rfl
@[simp] theorem ix_isSliceT_23 : isSliceT Tryd.prog 23 = true := by kernel_rfl
@[simp] theorem ix_mapT_23 : mapT Tryd.prog 23 = none := by kernel_rfl
@[simp] theorem ix_zeroX_23 : zeroX Tryd.prog 23 = some (XV.one CV.nil) := by kernel_rfl
@[simp] theorem ix_zeroOf_23 : zeroOf Tryd.prog 23 = some [CV.nil] := by kernel_rfl
@[simp] theorem ix_rowT_23 : rowT Tryd.prog 23 = some
  (29, 5,
    [CV.str [], CV.int IntKind.i64 0, CV.int IntKind.i64 0, CV.int IntKind.i64 0,
      CV.int IntKind.i64 0]) := by kernel_rfl
@[simp] theorem ix_bytesT_23 : bytesT Tryd.prog 23 = some 24 := by kernel_rfl
@[simp] theorem ix_buildT_23 : buildT Tryd.prog 23 = none := by kernel_rfl
@[simp] theorem ix_eqT_23 : eqT Tryd.prog 23 = none := by kernel_rfl
@[simp] theorem ix_OneOk_23 : OneOk Tryd.prog 23 = true := by kernel_rfl
@[simp] theorem ix_intT_23 : intT Tryd.prog 23 = none := by kernel_rfl
@[simp] theorem ix_tk_24 : tk Tryd.prog 24 = TK.one := by kernel_rfl
@[simp] theorem ix_sliceT_24 : sliceT Tryd.prog 24 = none := by kernel_rfl
@[simp] theorem ix_isStringT_24 : isStringT Tryd.prog 24 = false := by kernel_rfl
@[simp] theorem ix_isSliceT_24 : isSliceT Tryd.prog 24 = false := by kernel_rfl
@[simp] theorem ix_mapT_24 : mapT Tryd.prog 24 = none := by kernel_rfl
@[simp] theorem ix_zeroX_24 : zeroX Tryd.prog 24 = some
  (XV.one (CV.int IntKind.i64 0)) := by kernel_rfl
@[simp] theorem ix_zeroOf_24 : zeroOf Tryd.prog 24 = some [CV.int IntKind.i64 0] := by kernel_rfl
@[simp] theorem ix_rowT_24 : rowT Tryd.prog 24 = none := by kernel_rfl
@[simp] theorem ix_bytesT_24 : bytesT Tryd.prog 24 = some 8 := by kernel_rfl
@[simp] theorem ix_buildT_24 : buildT Tryd.prog 24 = none := by kernel_rfl
@[simp] theorem ix_eqT_24 : eqT Tryd.prog 24 = none := by kernel_rfl
@[simp] theorem ix_OneOk_24 : OneOk Tryd.prog 24 = true := by kernel_rfl
@[simp] theorem ix_intT_24 : intT Tryd.prog 24 = some IntKind.i64 := by kernel_rfl
@[simp] theorem ix_tk_28 : tk Tryd.prog 28 = TK.agg 5 := by kernel_rfl
@[simp] theorem ix_sliceT_28 : sliceT Tryd.prog 28 = none := by kernel_rfl
@[simp] theorem ix_isStringT_28 : isStringT Tryd.prog 28 = false := by kernel_rfl
@[simp] theorem ix_isSliceT_28 : isSliceT Tryd.prog 28 = false := by kernel_rfl
@[simp] theorem ix_mapT_28 : mapT Tryd.prog 28 = none := by kernel_rfl
@[simp] theorem ix_zeroX_28 : zeroX Tryd.prog 28 = some
  (XV.agg
    [CV.str [], CV.int IntKind.i64 0, CV.int IntKind.i64 0, CV.int IntKind.i64 0,
      CV.int IntKind.i64 0]) := by kernel_rfl
@[simp] theorem ix_zeroOf_28 : zeroOf Tryd.prog 28 = some
  [CV.str [], CV.int IntKind.i64 0, CV.int IntKind.i64 0, CV.int IntKind.i64 0,
    CV.int IntKind.i64 0] := by kernel_rfl
@[simp] theorem ix_rowT_28 : rowT Tryd.prog 28 = none := by kernel_rfl
@[simp] theorem ix_bytesT_28 : bytesT Tryd.prog 28 = some 48 := by kernel_rfl
@[simp] theorem ix_buildT_28 : buildT Tryd.prog 28 = some
  ([CV.str [], CV.int IntKind.i64 0, CV.int IntKind.i64 0, CV.int IntKind.i64 0,
      CV.int IntKind.i64 0],
    [(0, 1), (1, 1), (2, 1), (3, 1), (4, 1)]) := by kernel_rfl
@[simp] theorem ix_eqT_28 : eqT Tryd.prog 28 = some [BK.s, BK.i, BK.i, BK.i, BK.i] := by kernel_rfl
@[simp] theorem ix_OneOk_28 : OneOk Tryd.prog 28 = true := by kernel_rfl
@[simp] theorem ix_intT_28 : intT Tryd.prog 28 = none := by kernel_rfl
@[simp] theorem ix_fieldAt_28_0 : fieldAt Tryd.prog 28 0 = some (0, TK.one) := by kernel_rfl
@[simp] theorem ix_fieldAt_28_1 : fieldAt Tryd.prog 28 1 = some (1, TK.one) := by kernel_rfl
@[simp] theorem ix_fieldAt_28_2 : fieldAt Tryd.prog 28 2 = some (2, TK.one) := by kernel_rfl
@[simp] theorem ix_fieldAt_28_3 : fieldAt Tryd.prog 28 3 = some (3, TK.one) := by kernel_rfl
@[simp] theorem ix_fieldAt_28_4 : fieldAt Tryd.prog 28 4 = some (4, TK.one) := by kernel_rfl
@[simp] theorem ix_tk_29 : tk Tryd.prog 29 = TK.agg 5 := by kernel_rfl
@[simp] theorem ix_sliceT_29 : sliceT Tryd.prog 29 = none := by kernel_rfl
@[simp] theorem ix_isStringT_29 : isStringT Tryd.prog 29 = false := by kernel_rfl
@[simp] theorem ix_isSliceT_29 : isSliceT Tryd.prog 29 = false := by kernel_rfl
@[simp] theorem ix_mapT_29 : mapT Tryd.prog 29 = none := by kernel_rfl
@[simp] theorem ix_zeroX_29 : zeroX Tryd.prog 29 = some
  (XV.agg
    [CV.str [], CV.int IntKind.i64 0, CV.int IntKind.i64 0, CV.int IntKind.i64 0,
      CV.int IntKind.i64 0]) := by kernel_rfl
@[simp] theorem ix_zeroOf_29 : zeroOf Tryd.prog 29 = some
  [CV.str [], CV.int IntKind.i64 0, CV.int IntKind.i64 0, CV.int IntKind.i64 0,
    CV.int IntKind.i64 0] := by kernel_rfl
@[simp] theorem ix_rowT_29 : rowT Tryd.prog 29 = none := by kernel_rfl
@[simp] theorem ix_bytesT_29 : bytesT Tryd.prog 29 = some 48 := by kernel_rfl
@[simp] theorem ix_buildT_29 : buildT Tryd.prog 29 = some
  ([CV.str [], CV.int IntKind.i64 0, CV.int IntKind.i64 0, CV.int IntKind.i64 0,
      CV.int IntKind.i64 0],
    [(0, 1), (1, 1), (2, 1), (3, 1), (4, 1)]) := by kernel_rfl
@[simp] theorem ix_eqT_29 : eqT Tryd.prog 29 = some [BK.s, BK.i, BK.i, BK.i, BK.i] := by kernel_rfl
@[simp] theorem ix_OneOk_29 : OneOk Tryd.prog 29 = true := by kernel_rfl
@[simp] theorem ix_intT_29 : intT Tryd.prog 29 = none := by kernel_rfl
@[simp] theorem ix_fieldAt_29_0 : fieldAt Tryd.prog 29 0 = some (0, TK.one) := by kernel_rfl
@[simp] theorem ix_fieldAt_29_1 : fieldAt Tryd.prog 29 1 = some (1, TK.one) := by kernel_rfl
@[simp] theorem ix_fieldAt_29_2 : fieldAt Tryd.prog 29 2 = some (2, TK.one) := by kernel_rfl
@[simp] theorem ix_fieldAt_29_3 : fieldAt Tryd.prog 29 3 = some (3, TK.one) := by kernel_rfl
@[simp] theorem ix_fieldAt_29_4 : fieldAt Tryd.prog 29 4 = some (4, TK.one) := by kernel_rfl
@[simp] theorem ix_tk_30 : tk Tryd.prog 30 = TK.agg 2 := by kernel_rfl
@[simp] theorem ix_sliceT_30 : sliceT Tryd.prog 30 = none := by kernel_rfl
@[simp] theorem ix_isStringT_30 : isStringT Tryd.prog 30 = false := by kernel_rfl
@[simp] theorem ix_isSliceT_30 : isSliceT Tryd.prog 30 = false := by kernel_rfl
@[simp] theorem ix_mapT_30 : mapT Tryd.prog 30 = none := by kernel_rfl
@[simp] theorem ix_zeroX_30 : zeroX Tryd.prog 30 = some
  (XV.agg [CV.int IntKind.i64 0, CV.int IntKind.i64 0]) := by kernel_rfl
@[simp] theorem ix_zeroOf_30 : zeroOf Tryd.prog 30 = some
  [CV.int IntKind.i64 0, CV.int IntKind.i64 0] := by kernel_rfl
@[simp] theorem ix_rowT_30 : rowT Tryd.prog 30 = none := by kernel_rfl
@[simp] theorem ix_bytesT_30 : bytesT Tryd.prog 30 = some 16 := by kernel_rfl
@[simp] theorem ix_buildT_30 : buildT Tryd.prog 30 = some
  ([CV.int IntKind.i64 0, CV.int IntKind.i64 0], [(0, 1), (1, 1)]) := by kernel_rfl
@[simp] theorem ix_eqT_30 : eqT Tryd.prog 30 = some [BK.i, BK.i] := by kernel_rfl
@[simp] theorem ix_OneOk_30 : OneOk Tryd.prog 30 = true := by kernel_rfl
@[simp] theorem ix_intT_30 : intT Tryd.prog 30 = none := by kernel_rfl
@[simp] theorem ix_fieldAt_30_0 : fieldAt Tryd.prog 30 0 = some (0, TK.one) := by kernel_rfl
@[simp] theorem ix_fieldAt_30_1 : fieldAt Tryd.prog 30 1 = some (1, TK.one) := by kernel_rfl
@[simp] theorem ix_tk_31 : tk Tryd.prog 31 = TK.agg 2 := by kernel_rfl
@[simp] theorem ix_sliceT_31 : sliceT Tryd.prog 31 = none := by kernel_rfl
@[simp] theorem ix_isStringT_31 : isStringT Tryd.prog 31 = false := by kernel_rfl
@[simp] theorem ix_isSliceT_31 : isSliceT Tryd.prog 31 = false := by kernel_rfl
@[simp] theorem ix_mapT_31 : mapT Tryd.prog 31 = none := by kernel_rfl
@[simp] theorem ix_zeroX_31 : zeroX Tryd.prog 31 = some
  (XV.agg [CV.int IntKind.i64 0, CV.int IntKind.i64 0]) := by kernel_rfl
@[simp] theorem ix_zeroOf_31 : zeroOf Tryd.prog 31 = some
  [CV.int IntKind.i64 0, CV.int IntKind.i64 0] := by kernel_rfl
@[simp] theorem ix_rowT_31 : rowT Tryd.prog 31 = none := by kernel_rfl
@[simp] theorem ix_bytesT_31 : bytesT Tryd.prog 31 = some 16 := by kernel_rfl
@[simp] theorem ix_buildT_31 : buildT Tryd.prog 31 = some
  ([CV.int IntKind.i64 0, CV.int IntKind.i64 0], [(0, 1), (1, 1)]) := by kernel_rfl
@[simp] theorem ix_eqT_31 : eqT Tryd.prog 31 = some [BK.i, BK.i] := by kernel_rfl
@[simp] theorem ix_OneOk_31 : OneOk Tryd.prog 31 = true := by kernel_rfl
@[simp] theorem ix_intT_31 : intT Tryd.prog 31 = none := by kernel_rfl
@[simp] theorem ix_fieldAt_31_0 : fieldAt Tryd.prog 31 0 = some (0, TK.one) := by kernel_rfl
@[simp] theorem ix_fieldAt_31_1 : fieldAt Tryd.prog 31 1 = some (1, TK.one) := by kernel_rfl
@[simp] theorem ix_tk_32 : tk Tryd.prog 32 = TK.agg 9 := by kernel_rfl
@[simp] theorem ix_sliceT_32 : sliceT Tryd.prog 32 = none := by kernel_rfl
@[simp] theorem ix_isStringT_32 : isStringT Tryd.prog 32 = false := by kernel_rfl
@[simp] theorem ix_isSliceT_32 : isSliceT Tryd.prog 32 = false := by kernel_rfl
@[simp] theorem ix_mapT_32 : mapT Tryd.prog 32 = none := by kernel_rfl
@[simp] theorem ix_zeroX_32 : zeroX Tryd.prog 32 = some
  (XV.agg
    [CV.str [], CV.int IntKind.i64 0, CV.int IntKind.i64 0, CV.str [], CV.str [], CV.str [],
      CV.int IntKind.i64 0, CV.int IntKind.i64 0, CV.bool false]) := by kernel_rfl
@[simp] theorem ix_zeroOf_32 : zeroOf Tryd.prog 32 = some
  [CV.str [], CV.int IntKind.i64 0, CV.int IntKind.i64 0, CV.str [], CV.str [], CV.str [],
    CV.int IntKind.i64 0, CV.int IntKind.i64 0, CV.bool false] := by kernel_rfl
@[simp] theorem ix_rowT_32 : rowT Tryd.prog 32 = none := by kernel_rfl
@[simp] theorem ix_bytesT_32 : bytesT Tryd.prog 32 = some 104 := by kernel_rfl
@[simp] theorem ix_buildT_32 : buildT Tryd.prog 32 = some
  ([CV.str [], CV.int IntKind.i64 0, CV.int IntKind.i64 0, CV.str [], CV.str [], CV.str [],
      CV.int IntKind.i64 0, CV.int IntKind.i64 0, CV.bool false],
    [(0, 1), (1, 1), (2, 1), (3, 1), (4, 1), (5, 1), (6, 2), (8, 1)]) := by kernel_rfl
@[simp] theorem ix_eqT_32 : eqT Tryd.prog 32 = some
  [BK.s, BK.i, BK.i, BK.s, BK.s, BK.s, BK.i, BK.i, BK.b] := by kernel_rfl
@[simp] theorem ix_OneOk_32 : OneOk Tryd.prog 32 = true := by kernel_rfl
@[simp] theorem ix_intT_32 : intT Tryd.prog 32 = none := by kernel_rfl
@[simp] theorem ix_fieldAt_32_0 : fieldAt Tryd.prog 32 0 = some (0, TK.one) := by kernel_rfl
@[simp] theorem ix_fieldAt_32_1 : fieldAt Tryd.prog 32 1 = some (1, TK.one) := by kernel_rfl
@[simp] theorem ix_fieldAt_32_2 : fieldAt Tryd.prog 32 2 = some (2, TK.one) := by kernel_rfl
@[simp] theorem ix_fieldAt_32_3 : fieldAt Tryd.prog 32 3 = some (3, TK.one) := by kernel_rfl
@[simp] theorem ix_fieldAt_32_4 : fieldAt Tryd.prog 32 4 = some (4, TK.one) := by kernel_rfl
@[simp] theorem ix_fieldAt_32_5 : fieldAt Tryd.prog 32 5 = some (5, TK.one) := by kernel_rfl
@[simp] theorem ix_fieldAt_32_6 : fieldAt Tryd.prog 32 6 = some (6, TK.agg 2) := by kernel_rfl
@[simp] theorem ix_fieldAt_32_7 : fieldAt Tryd.prog 32 7 = some (8, TK.one) := by kernel_rfl
@[simp] theorem ix_tk_33 : tk Tryd.prog 33 = TK.agg 9 := by kernel_rfl
@[simp] theorem ix_sliceT_33 : sliceT Tryd.prog 33 = none := by kernel_rfl
@[simp] theorem ix_isStringT_33 : isStringT Tryd.prog 33 = false := by kernel_rfl
@[simp] theorem ix_isSliceT_33 : isSliceT Tryd.prog 33 = false := by kernel_rfl
@[simp] theorem ix_mapT_33 : mapT Tryd.prog 33 = none := by kernel_rfl
@[simp] theorem ix_zeroX_33 : zeroX Tryd.prog 33 = some
  (XV.agg
    [CV.str [], CV.int IntKind.i64 0, CV.int IntKind.i64 0, CV.str [], CV.str [], CV.str [],
      CV.int IntKind.i64 0, CV.int IntKind.i64 0, CV.bool false]) := by kernel_rfl
@[simp] theorem ix_zeroOf_33 : zeroOf Tryd.prog 33 = some
  [CV.str [], CV.int IntKind.i64 0, CV.int IntKind.i64 0, CV.str [], CV.str [], CV.str [],
    CV.int IntKind.i64 0, CV.int IntKind.i64 0, CV.bool false] := by kernel_rfl
@[simp] theorem ix_rowT_33 : rowT Tryd.prog 33 = none := by kernel_rfl
@[simp] theorem ix_bytesT_33 : bytesT Tryd.prog 33 = some 104 := by kernel_rfl
@[simp] theorem ix_buildT_33 : buildT Tryd.prog 33 = some
  ([CV.str [], CV.int IntKind.i64 0, CV.int IntKind.i64 0, CV.str [], CV.str [], CV.str [],
      CV.int IntKind.i64 0, CV.int IntKind.i64 0, CV.bool false],
    [(0, 1), (1, 1), (2, 1), (3, 1), (4, 1), (5, 1), (6, 2), (8, 1)]) := by kernel_rfl
@[simp] theorem ix_eqT_33 : eqT Tryd.prog 33 = some
  [BK.s, BK.i, BK.i, BK.s, BK.s, BK.s, BK.i, BK.i, BK.b] := by kernel_rfl
@[simp] theorem ix_OneOk_33 : OneOk Tryd.prog 33 = true := by kernel_rfl
@[simp] theorem ix_intT_33 : intT Tryd.prog 33 = none := by kernel_rfl
@[simp] theorem ix_fieldAt_33_0 : fieldAt Tryd.prog 33 0 = some (0, TK.one) := by kernel_rfl
@[simp] theorem ix_fieldAt_33_1 : fieldAt Tryd.prog 33 1 = some (1, TK.one) := by kernel_rfl
@[simp] theorem ix_fieldAt_33_2 : fieldAt Tryd.prog 33 2 = some (2, TK.one) := by kernel_rfl
@[simp] theorem ix_fieldAt_33_3 : fieldAt Tryd.prog 33 3 = some (3, TK.one) := by kernel_rfl
@[simp] theorem ix_fieldAt_33_4 : fieldAt Tryd.prog 33 4 = some (4, TK.one) := by kernel_rfl
@[simp] theorem ix_fieldAt_33_5 : fieldAt Tryd.prog 33 5 = some (5, TK.one) := by kernel_rfl
@[simp] theorem ix_fieldAt_33_6 : fieldAt Tryd.prog 33 6 = some (6, TK.agg 2) := by kernel_rfl
@[simp] theorem ix_fieldAt_33_7 : fieldAt Tryd.prog 33 7 = some (8, TK.one) := by kernel_rfl
@[simp] theorem ix_tk_50 : tk Tryd.prog 50 = TK.one := by kernel_rfl
@[simp] theorem ix_sliceT_50 : sliceT Tryd.prog 50 = some (54, 2) := by kernel_rfl
@[simp] theorem ix_isStringT_50 : isStringT Tryd.prog 50 = false := by kernel_rfl
@[simp] theorem ix_isSliceT_50 : isSliceT Tryd.prog 50 = true := by kernel_rfl
@[simp] theorem ix_mapT_50 : mapT Tryd.prog 50 = none := by kernel_rfl
@[simp] theorem ix_zeroX_50 : zeroX Tryd.prog 50 = some (XV.one CV.nil) := by kernel_rfl
@[simp] theorem ix_zeroOf_50 : zeroOf Tryd.prog 50 = some [CV.nil] := by kernel_rfl
@[simp] theorem ix_rowT_50 : rowT Tryd.prog 50 = some
  (54, 2, [CV.int IntKind.i64 0, CV.int IntKind.i64 0]) := by kernel_rfl
@[simp] theorem ix_bytesT_50 : bytesT Tryd.prog 50 = some 24 := by kernel_rfl
@[simp] theorem ix_buildT_50 : buildT Tryd.prog 50 = none := by kernel_rfl
@[simp] theorem ix_eqT_50 : eqT Tryd.prog 50 = none := by kernel_rfl
@[simp] theorem ix_OneOk_50 : OneOk Tryd.prog 50 = true := by kernel_rfl
@[simp] theorem ix_intT_50 : intT Tryd.prog 50 = none := by kernel_rfl
@[simp] theorem ix_tk_53 : tk Tryd.prog 53 = TK.agg 2 := by kernel_rfl
@[simp] theorem ix_sliceT_53 : sliceT Tryd.prog 53 = none := by kernel_rfl
@[simp] theorem ix_isStringT_53 : isStringT Tryd.prog 53 = false := by kernel_rfl
@[simp] theorem ix_isSliceT_53 : isSliceT Tryd.prog 53 = false := by kernel_rfl
@[simp] theorem ix_mapT_53 : mapT Tryd.prog 53 = none := by kernel_rfl
@[simp] theorem ix_zeroX_53 : zeroX Tryd.prog 53 = some
  (XV.agg [CV.int IntKind.i64 0, CV.int IntKind.i64 0]) := by kernel_rfl
@[simp] theorem ix_zeroOf_53 : zeroOf Tryd.prog 53 = some
  [CV.int IntKind.i64 0, CV.int IntKind.i64 0] := by kernel_rfl
@[simp] theorem ix_rowT_53 : rowT Tryd.prog 53 = none := by kernel_rfl
@[simp] theorem ix_bytesT_53 : bytesT Tryd.prog 53 = some 16 := by kernel_rfl
@[simp] theorem ix_buildT_53 : buildT Tryd.prog 53 = some
  ([CV.int IntKind.i64 0, CV.int IntKind.i64 0], [(0, 1), (1, 1)]) := by kernel_rfl
@[simp] theorem ix_eqT_53 : eqT Tryd.prog 53 = some [BK.i, BK.i] := by kernel_rfl
@[simp] theorem ix_OneOk_53 : OneOk Tryd.prog 53 = true := by kernel_rfl
@[simp] theorem ix_intT_53 : intT Tryd.prog 53 = none := by kernel_rfl
@[simp] theorem ix_fieldAt_53_0 : fieldAt Tryd.prog 53 0 = some (0, TK.one) := by kernel_rfl
@[simp] theorem ix_fieldAt_53_1 : fieldAt Tryd.prog 53 1 = some (1, TK.one) := by kernel_rfl
@[simp] theorem ix_tk_54 : tk Tryd.prog 54 = TK.agg 2 := by kernel_rfl
@[simp] theorem ix_sliceT_54 : sliceT Tryd.prog 54 = none := by kernel_rfl
@[simp] theorem ix_isStringT_54 : isStringT Tryd.prog 54 = false := by kernel_rfl
@[simp] theorem ix_isSliceT_54 : isSliceT Tryd.prog 54 = false := by kernel_rfl
@[simp] theorem ix_mapT_54 : mapT Tryd.prog 54 = none := by kernel_rfl
@[simp] theorem ix_zeroX_54 : zeroX Tryd.prog 54 = some
  (XV.agg [CV.int IntKind.i64 0, CV.int IntKind.i64 0]) := by kernel_rfl
@[simp] theorem ix_zeroOf_54 : zeroOf Tryd.prog 54 = some
  [CV.int IntKind.i64 0, CV.int IntKind.i64 0] := by kernel_rfl
@[simp] theorem ix_rowT_54 : rowT Tryd.prog 54 = none := by kernel_rfl
@[simp] theorem ix_bytesT_54 : bytesT Tryd.prog 54 = some 16 := by kernel_rfl
@[simp] theorem ix_buildT_54 : buildT Tryd.prog 54 = some
  ([CV.int IntKind.i64 0, CV.int IntKind.i64 0], [(0, 1), (1, 1)]) := by kernel_rfl
@[simp] theorem ix_eqT_54 : eqT Tryd.prog 54 = some [BK.i, BK.i] := by kernel_rfl
@[simp] theorem ix_OneOk_54 : OneOk Tryd.prog 54 = true := by kernel_rfl
@[simp] theorem ix_intT_54 : intT Tryd.prog 54 = none := by kernel_rfl
@[simp] theorem ix_fieldAt_54_0 : fieldAt Tryd.prog 54 0 = some (0, TK.one) := by kernel_rfl
@[simp] theorem ix_fieldAt_54_1 : fieldAt Tryd.prog 54 1 = some (1, TK.one) := by kernel_rfl
@[simp] theorem ix_tk_57 : tk Tryd.prog 57 = TK.one := by kernel_rfl
@[simp] theorem ix_sliceT_57 : sliceT Tryd.prog 57 = some (22, 1) := by kernel_rfl
@[simp] theorem ix_isStringT_57 : isStringT Tryd.prog 57 = false := by kernel_rfl
@[simp] theorem ix_isSliceT_57 : isSliceT Tryd.prog 57 = true := by kernel_rfl
@[simp] theorem ix_mapT_57 : mapT Tryd.prog 57 = none := by kernel_rfl
@[simp] theorem ix_zeroX_57 : zeroX Tryd.prog 57 = some (XV.one CV.nil) := by kernel_rfl
@[simp] theorem ix_zeroOf_57 : zeroOf Tryd.prog 57 = some [CV.nil] := by kernel_rfl
@[simp] theorem ix_rowT_57 : rowT Tryd.prog 57 = some (22, 1, [CV.nil]) := by kernel_rfl
@[simp] theorem ix_bytesT_57 : bytesT Tryd.prog 57 = some 24 := by kernel_rfl
@[simp] theorem ix_buildT_57 : buildT Tryd.prog 57 = none := by kernel_rfl
@[simp] theorem ix_eqT_57 : eqT Tryd.prog 57 = none := by kernel_rfl
@[simp] theorem ix_OneOk_57 : OneOk Tryd.prog 57 = true := by kernel_rfl
@[simp] theorem ix_intT_57 : intT Tryd.prog 57 = none := by kernel_rfl
@[simp] theorem ix_tk_63 : tk Tryd.prog 63 = TK.one := by kernel_rfl
@[simp] theorem ix_sliceT_63 : sliceT Tryd.prog 63 = none := by kernel_rfl
@[simp] theorem ix_isStringT_63 : isStringT Tryd.prog 63 = false := by kernel_rfl
@[simp] theorem ix_isSliceT_63 : isSliceT Tryd.prog 63 = false := by kernel_rfl
@[simp] theorem ix_mapT_63 : mapT Tryd.prog 63 = some (KK.s, 4) := by kernel_rfl
@[simp] theorem ix_zeroX_63 : zeroX Tryd.prog 63 = some (XV.one (CV.atom (Value.map none))) := by kernel_rfl
@[simp] theorem ix_zeroOf_63 : zeroOf Tryd.prog 63 = some [CV.atom (Value.map none)] := by kernel_rfl
@[simp] theorem ix_rowT_63 : rowT Tryd.prog 63 = none := by kernel_rfl
@[simp] theorem ix_bytesT_63 : bytesT Tryd.prog 63 = some 8 := by kernel_rfl
@[simp] theorem ix_buildT_63 : buildT Tryd.prog 63 = none := by kernel_rfl
@[simp] theorem ix_eqT_63 : eqT Tryd.prog 63 = none := by kernel_rfl
@[simp] theorem ix_OneOk_63 : OneOk Tryd.prog 63 = true := by kernel_rfl
@[simp] theorem ix_intT_63 : intT Tryd.prog 63 = none := by kernel_rfl
@[simp] theorem ix_tk_77 : tk Tryd.prog 77 = TK.agg 2 := by kernel_rfl
@[simp] theorem ix_sliceT_77 : sliceT Tryd.prog 77 = none := by kernel_rfl
@[simp] theorem ix_isStringT_77 : isStringT Tryd.prog 77 = false := by kernel_rfl
@[simp] theorem ix_isSliceT_77 : isSliceT Tryd.prog 77 = false := by kernel_rfl
@[simp] theorem ix_mapT_77 : mapT Tryd.prog 77 = none := by kernel_rfl
@[simp] theorem ix_zeroX_77 : zeroX Tryd.prog 77 = some
  (XV.agg [CV.int IntKind.i64 0, CV.int IntKind.i64 0]) := by kernel_rfl
@[simp] theorem ix_zeroOf_77 : zeroOf Tryd.prog 77 = some
  [CV.int IntKind.i64 0, CV.int IntKind.i64 0] := by kernel_rfl
@[simp] theorem ix_rowT_77 : rowT Tryd.prog 77 = none := by kernel_rfl
@[simp] theorem ix_bytesT_77 : bytesT Tryd.prog 77 = some 16 := by kernel_rfl
@[simp] theorem ix_buildT_77 : buildT Tryd.prog 77 = some
  ([CV.int IntKind.i64 0, CV.int IntKind.i64 0], [(0, 1), (1, 1)]) := by kernel_rfl
@[simp] theorem ix_eqT_77 : eqT Tryd.prog 77 = some [BK.i, BK.i] := by kernel_rfl
@[simp] theorem ix_OneOk_77 : OneOk Tryd.prog 77 = true := by kernel_rfl
@[simp] theorem ix_intT_77 : intT Tryd.prog 77 = none := by kernel_rfl
@[simp] theorem ix_fieldAt_77_0 : fieldAt Tryd.prog 77 0 = some (0, TK.one) := by kernel_rfl
@[simp] theorem ix_fieldAt_77_1 : fieldAt Tryd.prog 77 1 = some (1, TK.one) := by kernel_rfl
@[simp] theorem ix_tk_78 : tk Tryd.prog 78 = TK.agg 2 := by kernel_rfl
@[simp] theorem ix_sliceT_78 : sliceT Tryd.prog 78 = none := by kernel_rfl
@[simp] theorem ix_isStringT_78 : isStringT Tryd.prog 78 = false := by kernel_rfl
@[simp] theorem ix_isSliceT_78 : isSliceT Tryd.prog 78 = false := by kernel_rfl
@[simp] theorem ix_mapT_78 : mapT Tryd.prog 78 = none := by kernel_rfl
@[simp] theorem ix_zeroX_78 : zeroX Tryd.prog 78 = some
  (XV.agg [CV.int IntKind.i64 0, CV.int IntKind.i64 0]) := by kernel_rfl
@[simp] theorem ix_zeroOf_78 : zeroOf Tryd.prog 78 = some
  [CV.int IntKind.i64 0, CV.int IntKind.i64 0] := by kernel_rfl
@[simp] theorem ix_rowT_78 : rowT Tryd.prog 78 = none := by kernel_rfl
@[simp] theorem ix_bytesT_78 : bytesT Tryd.prog 78 = some 16 := by kernel_rfl
@[simp] theorem ix_buildT_78 : buildT Tryd.prog 78 = some
  ([CV.int IntKind.i64 0, CV.int IntKind.i64 0], [(0, 1), (1, 1)]) := by kernel_rfl
@[simp] theorem ix_eqT_78 : eqT Tryd.prog 78 = some [BK.i, BK.i] := by kernel_rfl
@[simp] theorem ix_OneOk_78 : OneOk Tryd.prog 78 = true := by kernel_rfl
@[simp] theorem ix_intT_78 : intT Tryd.prog 78 = none := by kernel_rfl
@[simp] theorem ix_fieldAt_78_0 : fieldAt Tryd.prog 78 0 = some (0, TK.one) := by kernel_rfl
@[simp] theorem ix_fieldAt_78_1 : fieldAt Tryd.prog 78 1 = some (1, TK.one) := by kernel_rfl
@[simp] theorem ix_tk_81 : tk Tryd.prog 81 = TK.one := by kernel_rfl
@[simp] theorem ix_sliceT_81 : sliceT Tryd.prog 81 = some (9, 1) := by kernel_rfl
@[simp] theorem ix_isStringT_81 : isStringT Tryd.prog 81 = false := by kernel_rfl
@[simp] theorem ix_isSliceT_81 : isSliceT Tryd.prog 81 = true := by kernel_rfl
@[simp] theorem ix_mapT_81 : mapT Tryd.prog 81 = none := by kernel_rfl
@[simp] theorem ix_zeroX_81 : zeroX Tryd.prog 81 = some (XV.one CV.nil) := by kernel_rfl
@[simp] theorem ix_zeroOf_81 : zeroOf Tryd.prog 81 = some [CV.nil] := by kernel_rfl
@[simp] theorem ix_rowT_81 : rowT Tryd.prog 81 = some (9, 1, [CV.str []]) := by kernel_rfl
@[simp] theorem ix_bytesT_81 : bytesT Tryd.prog 81 = some 24 := by kernel_rfl
@[simp] theorem ix_buildT_81 : buildT Tryd.prog 81 = none := by kernel_rfl
@[simp] theorem ix_eqT_81 : eqT Tryd.prog 81 = none := by kernel_rfl
@[simp] theorem ix_OneOk_81 : OneOk Tryd.prog 81 = true := by kernel_rfl
@[simp] theorem ix_intT_81 : intT Tryd.prog 81 = none := by kernel_rfl
@[simp] theorem ix_tk_82 : tk Tryd.prog 82 = TK.one := by kernel_rfl
@[simp] theorem ix_sliceT_82 : sliceT Tryd.prog 82 = some (5, 1) := by kernel_rfl
@[simp] theorem ix_isStringT_82 : isStringT Tryd.prog 82 = false := by kernel_rfl
@[simp] theorem ix_isSliceT_82 : isSliceT Tryd.prog 82 = true := by kernel_rfl
@[simp] theorem ix_mapT_82 : mapT Tryd.prog 82 = none := by kernel_rfl
@[simp] theorem ix_zeroX_82 : zeroX Tryd.prog 82 = some (XV.one CV.nil) := by kernel_rfl
@[simp] theorem ix_zeroOf_82 : zeroOf Tryd.prog 82 = some [CV.nil] := by kernel_rfl
@[simp] theorem ix_rowT_82 : rowT Tryd.prog 82 = some
  (5, 1, [CV.int IntKind.u8 0]) := by kernel_rfl
@[simp] theorem ix_bytesT_82 : bytesT Tryd.prog 82 = some 24 := by kernel_rfl
@[simp] theorem ix_buildT_82 : buildT Tryd.prog 82 = none := by kernel_rfl
@[simp] theorem ix_eqT_82 : eqT Tryd.prog 82 = none := by kernel_rfl
@[simp] theorem ix_OneOk_82 : OneOk Tryd.prog 82 = true := by kernel_rfl
@[simp] theorem ix_intT_82 : intT Tryd.prog 82 = none := by kernel_rfl
@[simp] theorem ix_tk_83 : tk Tryd.prog 83 = TK.one := by kernel_rfl
@[simp] theorem ix_sliceT_83 : sliceT Tryd.prog 83 = some (103, 5) := by kernel_rfl
@[simp] theorem ix_isStringT_83 : isStringT Tryd.prog 83 = false := by kernel_rfl
@[simp] theorem ix_isSliceT_83 : isSliceT Tryd.prog 83 = true := by kernel_rfl
@[simp] theorem ix_mapT_83 : mapT Tryd.prog 83 = none := by kernel_rfl
@[simp] theorem ix_zeroX_83 : zeroX Tryd.prog 83 = some (XV.one CV.nil) := by kernel_rfl
@[simp] theorem ix_zeroOf_83 : zeroOf Tryd.prog 83 = some [CV.nil] := by kernel_rfl
@[simp] theorem ix_rowT_83 : rowT Tryd.prog 83 = some
  (103, 5,
    [CV.str [], CV.int IntKind.i64 0, CV.int IntKind.i64 0, CV.int IntKind.i64 0,
      CV.int IntKind.i64 0]) := by kernel_rfl
@[simp] theorem ix_bytesT_83 : bytesT Tryd.prog 83 = some 24 := by kernel_rfl
@[simp] theorem ix_buildT_83 : buildT Tryd.prog 83 = none := by kernel_rfl
@[simp] theorem ix_eqT_83 : eqT Tryd.prog 83 = none := by kernel_rfl
@[simp] theorem ix_OneOk_83 : OneOk Tryd.prog 83 = true := by kernel_rfl
@[simp] theorem ix_intT_83 : intT Tryd.prog 83 = none := by kernel_rfl
@[simp] theorem ix_tk_84 : tk Tryd.prog 84 = TK.agg 14 := by kernel_rfl
@[simp] theorem ix_sliceT_84 : sliceT Tryd.prog 84 = none := by kernel_rfl
@[simp] theorem ix_isStringT_84 : isStringT Tryd.prog 84 = false := by kernel_rfl
@[simp] theorem ix_isSliceT_84 : isSliceT Tryd.prog 84 = false := by kernel_rfl
@[simp] theorem ix_mapT_84 : mapT Tryd.prog 84 = none := by kernel_rfl
@[simp] theorem ix_zeroX_84 : zeroX Tryd.prog 84 = some
  (XV.agg
    [CV.bool false, CV.nil, CV.str [], CV.int IntKind.i64 0, CV.int IntKind.i64 0, CV.str [],
      CV.str [], CV.str [], CV.int IntKind.i64 0, CV.int IntKind.i64 0, CV.bool false, CV.nil,
      CV.nil, CV.int IntKind.i64 0]) := by kernel_rfl
@[simp] theorem ix_zeroOf_84 : zeroOf Tryd.prog 84 = some
  [CV.bool false, CV.nil, CV.str [], CV.int IntKind.i64 0, CV.int IntKind.i64 0, CV.str [],
    CV.str [], CV.str [], CV.int IntKind.i64 0, CV.int IntKind.i64 0, CV.bool false, CV.nil,
    CV.nil, CV.int IntKind.i64 0] := by kernel_rfl
@[simp] theorem ix_rowT_84 : rowT Tryd.prog 84 = none := by kernel_rfl
@[simp] theorem ix_bytesT_84 : bytesT Tryd.prog 84 = some 192 := by kernel_rfl
@[simp] theorem ix_buildT_84 : buildT Tryd.prog 84 = some
  ([CV.bool false, CV.nil, CV.str [], CV.int IntKind.i64 0, CV.int IntKind.i64 0, CV.str [],
      CV.str [], CV.str [], CV.int IntKind.i64 0, CV.int IntKind.i64 0, CV.bool false, CV.nil,
      CV.nil, CV.int IntKind.i64 0],
    [(0, 1), (1, 1), (2, 9), (11, 1), (12, 1), (13, 1)]) := by kernel_rfl
@[simp] theorem ix_eqT_84 : eqT Tryd.prog 84 = none := by kernel_rfl
@[simp] theorem ix_OneOk_84 : OneOk Tryd.prog 84 = true := by kernel_rfl
@[simp] theorem ix_intT_84 : intT Tryd.prog 84 = none := by kernel_rfl
@[simp] theorem ix_fieldAt_84_0 : fieldAt Tryd.prog 84 0 = some (0, TK.one) := by kernel_rfl
@[simp] theorem ix_fieldAt_84_1 : fieldAt Tryd.prog 84 1 = some (1, TK.one) := by kernel_rfl
@[simp] theorem ix_fieldAt_84_2 : fieldAt Tryd.prog 84 2 = some (2, TK.agg 9) := by kernel_rfl
@[simp] theorem ix_fieldAt_84_3 : fieldAt Tryd.prog 84 3 = some (11, TK.one) := by kernel_rfl
@[simp] theorem ix_fieldAt_84_4 : fieldAt Tryd.prog 84 4 = some (12, TK.one) := by kernel_rfl
@[simp] theorem ix_fieldAt_84_5 : fieldAt Tryd.prog 84 5 = some (13, TK.one) := by kernel_rfl
@[simp] theorem ix_tk_85 : tk Tryd.prog 85 = TK.agg 14 := by kernel_rfl
@[simp] theorem ix_sliceT_85 : sliceT Tryd.prog 85 = none := by kernel_rfl
@[simp] theorem ix_isStringT_85 : isStringT Tryd.prog 85 = false := by kernel_rfl
@[simp] theorem ix_isSliceT_85 : isSliceT Tryd.prog 85 = false := by kernel_rfl
@[simp] theorem ix_mapT_85 : mapT Tryd.prog 85 = none := by kernel_rfl
@[simp] theorem ix_zeroX_85 : zeroX Tryd.prog 85 = some
  (XV.agg
    [CV.bool false, CV.nil, CV.str [], CV.int IntKind.i64 0, CV.int IntKind.i64 0, CV.str [],
      CV.str [], CV.str [], CV.int IntKind.i64 0, CV.int IntKind.i64 0, CV.bool false, CV.nil,
      CV.nil, CV.int IntKind.i64 0]) := by kernel_rfl
@[simp] theorem ix_zeroOf_85 : zeroOf Tryd.prog 85 = some
  [CV.bool false, CV.nil, CV.str [], CV.int IntKind.i64 0, CV.int IntKind.i64 0, CV.str [],
    CV.str [], CV.str [], CV.int IntKind.i64 0, CV.int IntKind.i64 0, CV.bool false, CV.nil,
    CV.nil, CV.int IntKind.i64 0] := by kernel_rfl
@[simp] theorem ix_rowT_85 : rowT Tryd.prog 85 = none := by kernel_rfl
@[simp] theorem ix_bytesT_85 : bytesT Tryd.prog 85 = some 192 := by kernel_rfl
@[simp] theorem ix_buildT_85 : buildT Tryd.prog 85 = some
  ([CV.bool false, CV.nil, CV.str [], CV.int IntKind.i64 0, CV.int IntKind.i64 0, CV.str [],
      CV.str [], CV.str [], CV.int IntKind.i64 0, CV.int IntKind.i64 0, CV.bool false, CV.nil,
      CV.nil, CV.int IntKind.i64 0],
    [(0, 1), (1, 1), (2, 9), (11, 1), (12, 1), (13, 1)]) := by kernel_rfl
@[simp] theorem ix_eqT_85 : eqT Tryd.prog 85 = none := by kernel_rfl
@[simp] theorem ix_OneOk_85 : OneOk Tryd.prog 85 = true := by kernel_rfl
@[simp] theorem ix_intT_85 : intT Tryd.prog 85 = none := by kernel_rfl
@[simp] theorem ix_fieldAt_85_0 : fieldAt Tryd.prog 85 0 = some (0, TK.one) := by kernel_rfl
@[simp] theorem ix_fieldAt_85_1 : fieldAt Tryd.prog 85 1 = some (1, TK.one) := by kernel_rfl
@[simp] theorem ix_fieldAt_85_2 : fieldAt Tryd.prog 85 2 = some (2, TK.agg 9) := by kernel_rfl
@[simp] theorem ix_fieldAt_85_3 : fieldAt Tryd.prog 85 3 = some (11, TK.one) := by kernel_rfl
@[simp] theorem ix_fieldAt_85_4 : fieldAt Tryd.prog 85 4 = some (12, TK.one) := by kernel_rfl
@[simp] theorem ix_fieldAt_85_5 : fieldAt Tryd.prog 85 5 = some (13, TK.one) := by kernel_rfl
@[simp] theorem ix_tk_102 : tk Tryd.prog 102 = TK.agg 5 := by kernel_rfl
@[simp] theorem ix_sliceT_102 : sliceT Tryd.prog 102 = none := by kernel_rfl
@[simp] theorem ix_isStringT_102 : isStringT Tryd.prog 102 = false := by kernel_rfl
@[simp] theorem ix_isSliceT_102 : isSliceT Tryd.prog 102 = false := by kernel_rfl
@[simp] theorem ix_mapT_102 : mapT Tryd.prog 102 = none := by kernel_rfl
@[simp] theorem ix_zeroX_102 : zeroX Tryd.prog 102 = some
  (XV.agg
    [CV.str [], CV.int IntKind.i64 0, CV.int IntKind.i64 0, CV.int IntKind.i64 0,
      CV.int IntKind.i64 0]) := by kernel_rfl
@[simp] theorem ix_zeroOf_102 : zeroOf Tryd.prog 102 = some
  [CV.str [], CV.int IntKind.i64 0, CV.int IntKind.i64 0, CV.int IntKind.i64 0,
    CV.int IntKind.i64 0] := by kernel_rfl
@[simp] theorem ix_rowT_102 : rowT Tryd.prog 102 = none := by kernel_rfl
@[simp] theorem ix_bytesT_102 : bytesT Tryd.prog 102 = some 48 := by kernel_rfl
@[simp] theorem ix_buildT_102 : buildT Tryd.prog 102 = some
  ([CV.str [], CV.int IntKind.i64 0, CV.int IntKind.i64 0, CV.int IntKind.i64 0,
      CV.int IntKind.i64 0],
    [(0, 1), (1, 1), (2, 1), (3, 1), (4, 1)]) := by kernel_rfl
@[simp] theorem ix_eqT_102 : eqT Tryd.prog 102 = some [BK.s, BK.i, BK.i, BK.i, BK.i] := by kernel_rfl
@[simp] theorem ix_OneOk_102 : OneOk Tryd.prog 102 = true := by kernel_rfl
@[simp] theorem ix_intT_102 : intT Tryd.prog 102 = none := by kernel_rfl
@[simp] theorem ix_fieldAt_102_0 : fieldAt Tryd.prog 102 0 = some (0, TK.one) := by kernel_rfl
@[simp] theorem ix_fieldAt_102_1 : fieldAt Tryd.prog 102 1 = some (1, TK.one) := by kernel_rfl
@[simp] theorem ix_fieldAt_102_2 : fieldAt Tryd.prog 102 2 = some (2, TK.one) := by kernel_rfl
@[simp] theorem ix_fieldAt_102_3 : fieldAt Tryd.prog 102 3 = some (3, TK.one) := by kernel_rfl
@[simp] theorem ix_fieldAt_102_4 : fieldAt Tryd.prog 102 4 = some (4, TK.one) := by kernel_rfl
@[simp] theorem ix_tk_103 : tk Tryd.prog 103 = TK.agg 5 := by kernel_rfl
@[simp] theorem ix_sliceT_103 : sliceT Tryd.prog 103 = none := by kernel_rfl
@[simp] theorem ix_isStringT_103 : isStringT Tryd.prog 103 = false := by kernel_rfl
@[simp] theorem ix_isSliceT_103 : isSliceT Tryd.prog 103 = false := by kernel_rfl
@[simp] theorem ix_mapT_103 : mapT Tryd.prog 103 = none := by kernel_rfl
@[simp] theorem ix_zeroX_103 : zeroX Tryd.prog 103 = some
  (XV.agg
    [CV.str [], CV.int IntKind.i64 0, CV.int IntKind.i64 0, CV.int IntKind.i64 0,
      CV.int IntKind.i64 0]) := by kernel_rfl
@[simp] theorem ix_zeroOf_103 : zeroOf Tryd.prog 103 = some
  [CV.str [], CV.int IntKind.i64 0, CV.int IntKind.i64 0, CV.int IntKind.i64 0,
    CV.int IntKind.i64 0] := by kernel_rfl
@[simp] theorem ix_rowT_103 : rowT Tryd.prog 103 = none := by kernel_rfl
@[simp] theorem ix_bytesT_103 : bytesT Tryd.prog 103 = some 48 := by kernel_rfl
@[simp] theorem ix_buildT_103 : buildT Tryd.prog 103 = some
  ([CV.str [], CV.int IntKind.i64 0, CV.int IntKind.i64 0, CV.int IntKind.i64 0,
      CV.int IntKind.i64 0],
    [(0, 1), (1, 1), (2, 1), (3, 1), (4, 1)]) := by kernel_rfl
@[simp] theorem ix_eqT_103 : eqT Tryd.prog 103 = some [BK.s, BK.i, BK.i, BK.i, BK.i] := by kernel_rfl
@[simp] theorem ix_OneOk_103 : OneOk Tryd.prog 103 = true := by kernel_rfl
@[simp] theorem ix_intT_103 : intT Tryd.prog 103 = none := by kernel_rfl
@[simp] theorem ix_fieldAt_103_0 : fieldAt Tryd.prog 103 0 = some (0, TK.one) := by kernel_rfl
@[simp] theorem ix_fieldAt_103_1 : fieldAt Tryd.prog 103 1 = some (1, TK.one) := by kernel_rfl
@[simp] theorem ix_fieldAt_103_2 : fieldAt Tryd.prog 103 2 = some (2, TK.one) := by kernel_rfl
@[simp] theorem ix_fieldAt_103_3 : fieldAt Tryd.prog 103 3 = some (3, TK.one) := by kernel_rfl
@[simp] theorem ix_fieldAt_103_4 : fieldAt Tryd.prog 103 4 = some (4, TK.one) := by kernel_rfl
@[simp] theorem ix_tk_106 : tk Tryd.prog 106 = TK.one := by kernel_rfl
@[simp] theorem ix_sliceT_106 : sliceT Tryd.prog 106 = some (3, 1) := by kernel_rfl
@[simp] theorem ix_isStringT_106 : isStringT Tryd.prog 106 = false := by kernel_rfl
@[simp] theorem ix_isSliceT_106 : isSliceT Tryd.prog 106 = true := by kernel_rfl
@[simp] theorem ix_mapT_106 : mapT Tryd.prog 106 = none := by kernel_rfl
@[simp] theorem ix_zeroX_106 : zeroX Tryd.prog 106 = some (XV.one CV.nil) := by kernel_rfl
@[simp] theorem ix_zeroOf_106 : zeroOf Tryd.prog 106 = some [CV.nil] := by kernel_rfl
@[simp] theorem ix_rowT_106 : rowT Tryd.prog 106 = some
  (3, 1, [CV.int IntKind.i64 0]) := by kernel_rfl
@[simp] theorem ix_bytesT_106 : bytesT Tryd.prog 106 = some 24 := by kernel_rfl
@[simp] theorem ix_buildT_106 : buildT Tryd.prog 106 = none := by kernel_rfl
@[simp] theorem ix_eqT_106 : eqT Tryd.prog 106 = none := by kernel_rfl
@[simp] theorem ix_OneOk_106 : OneOk Tryd.prog 106 = true := by kernel_rfl
@[simp] theorem ix_intT_106 : intT Tryd.prog 106 = none := by kernel_rfl
@[simp] theorem ix_tk_117 : tk Tryd.prog 117 = TK.one := by kernel_rfl
@[simp] theorem ix_sliceT_117 : sliceT Tryd.prog 117 = none := by kernel_rfl
@[simp] theorem ix_isStringT_117 : isStringT Tryd.prog 117 = false := by kernel_rfl
@[simp] theorem ix_isSliceT_117 : isSliceT Tryd.prog 117 = false := by kernel_rfl
@[simp] theorem ix_mapT_117 : mapT Tryd.prog 117 = none := by kernel_rfl
@[simp] theorem ix_zeroX_117 : zeroX Tryd.prog 117 = some
  (XV.one (CV.int IntKind.u64 0)) := by kernel_rfl
@[simp] theorem ix_zeroOf_117 : zeroOf Tryd.prog 117 = some
  [CV.int IntKind.u64 0] := by kernel_rfl
@[simp] theorem ix_rowT_117 : rowT Tryd.prog 117 = none := by kernel_rfl
@[simp] theorem ix_bytesT_117 : bytesT Tryd.prog 117 = some 8 := by kernel_rfl
@[simp] theorem ix_buildT_117 : buildT Tryd.prog 117 = none := by kernel_rfl
@[simp] theorem ix_eqT_117 : eqT Tryd.prog 117 = none := by kernel_rfl
@[simp] theorem ix_OneOk_117 : OneOk Tryd.prog 117 = true := by kernel_rfl
@[simp] theorem ix_intT_117 : intT Tryd.prog 117 = some IntKind.u64 := by kernel_rfl
end Go.Proofs.YtdciogjhkckigaaDoor
