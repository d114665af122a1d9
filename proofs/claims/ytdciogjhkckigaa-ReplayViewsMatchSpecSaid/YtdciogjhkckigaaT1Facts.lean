/- A part of the proof: lemmas and contracts of functions. -/
import Derived.Test.YtdciogjhkckigaaChecked
import Derived.KernelRfl
import Derived.Test.YtdciogjhkckigaaAbSimp2
namespace Go.Proofs.Ytdciogjhkckigaa
open Go Go.Ab
@[simp] theorem t1_tk_3 : tk Try.prog 3 = TK.one := by kernel_rfl
@[simp] theorem t1_sliceT_3 : sliceT Try.prog 3 = none := by kernel_rfl
@[simp] theorem t1_isStringT_3 : isStringT Try.prog 3 = false := by kernel_rfl
@[simp] theorem t1_zeroOf_3 : zeroOf Try.prog 3 = some [CV.int IntKind.i64 0] := by kernel_rfl
@[simp] theorem t1_rowT_3 : rowT Try.prog 3 = none := by kernel_rfl
@[simp] theorem t1_bytesT_3 : bytesT Try.prog 3 = some 8 := by kernel_rfl
@[simp] theorem t1_buildT_3 : buildT Try.prog 3 = none := by kernel_rfl
@[simp] theorem t1_eqT_3 : eqT Try.prog 3 = none := by kernel_rfl
@[simp] theorem t1_OneOk_3 : OneOk Try.prog 3 = true := by kernel_rfl
@[simp] theorem t1_intT_3 : intT Try.prog 3 = some IntKind.i64 := by kernel_rfl
@[simp] theorem t1_tk_4 : tk Try.prog 4 = TK.one := by kernel_rfl
@[simp] theorem t1_sliceT_4 : sliceT Try.prog 4 = none := by kernel_rfl
@[simp] theorem t1_isStringT_4 : isStringT Try.prog 4 = false := by kernel_rfl
@[simp] theorem t1_zeroOf_4 : zeroOf Try.prog 4 = some [CV.bool false] := by kernel_rfl
@[simp] theorem t1_rowT_4 : rowT Try.prog 4 = none := by kernel_rfl
@[simp] theorem t1_bytesT_4 : bytesT Try.prog 4 = some 1 := by kernel_rfl
@[simp] theorem t1_buildT_4 : buildT Try.prog 4 = none := by kernel_rfl
@[simp] theorem t1_eqT_4 : eqT Try.prog 4 = none := by kernel_rfl
@[simp] theorem t1_OneOk_4 : OneOk Try.prog 4 = true := by kernel_rfl
@[simp] theorem t1_intT_4 : intT Try.prog 4 = none := by kernel_rfl
@[simp] theorem t1_tk_5 : tk Try.prog 5 = TK.one := by kernel_rfl
@[simp] theorem t1_sliceT_5 : sliceT Try.prog 5 = none := by kernel_rfl
@[simp] theorem t1_isStringT_5 : isStringT Try.prog 5 = false := by kernel_rfl
@[simp] theorem t1_zeroOf_5 : zeroOf Try.prog 5 = some [CV.int IntKind.u8 0] := by kernel_rfl
@[simp] theorem t1_rowT_5 : rowT Try.prog 5 = none := by kernel_rfl
@[simp] theorem t1_bytesT_5 : bytesT Try.prog 5 = some 1 := by kernel_rfl
@[simp] theorem t1_buildT_5 : buildT Try.prog 5 = none := by kernel_rfl
@[simp] theorem t1_eqT_5 : eqT Try.prog 5 = none := by kernel_rfl
@[simp] theorem t1_OneOk_5 : OneOk Try.prog 5 = true := by kernel_rfl
@[simp] theorem t1_intT_5 : intT Try.prog 5 = some IntKind.u8 := by kernel_rfl
@[simp] theorem t1_tk_9 : tk Try.prog 9 = TK.one := by kernel_rfl
@[simp] theorem t1_sliceT_9 : sliceT Try.prog 9 = none := by kernel_rfl
@[simp] theorem t1_isStringT_9 : isStringT Try.prog 9 = true := by kernel_rfl
@[simp] theorem t1_zeroOf_9 : zeroOf Try.prog 9 = some [CV.str []] := by kernel_rfl
@[simp] theorem t1_rowT_9 : rowT Try.prog 9 = none := by kernel_rfl
@[simp] theorem t1_bytesT_9 : bytesT Try.prog 9 = some 16 := by kernel_rfl
@[simp] theorem t1_buildT_9 : buildT Try.prog 9 = none := by kernel_rfl
@[simp] theorem t1_eqT_9 : eqT Try.prog 9 = none := by kernel_rfl
@[simp] theorem t1_OneOk_9 : OneOk Try.prog 9 = true := by kernel_rfl
@[simp] theorem t1_intT_9 : intT Try.prog 9 = none := by kernel_rfl
@[simp] theorem t1_tk_22 : tk Try.prog 22 = TK.one := by kernel_rfl
@[simp] theorem t1_sliceT_22 : sliceT Try.prog 22 = some (9, 1) := by kernel_rfl
@[simp] theorem t1_isStringT_22 : isStringT Try.prog 22 = false := by kernel_rfl
@[simp] theorem t1_zeroOf_22 : zeroOf Try.prog 22 = some [CV.nil] := by kernel_rfl
@[simp] theorem t1_rowT_22 : rowT Try.prog 22 = some (9, 1, [CV.str []]) := by kernel_rfl
@[simp] theorem t1_bytesT_22 : bytesT Try.prog 22 = some 24 := by kernel_rfl
@[simp] theorem t1_buildT_22 : buildT Try.prog 22 = none := by kernel_rfl
@[simp] theorem t1_eqT_22 : eqT Try.prog 22 = none := by kernel_rfl
@[simp] theorem t1_OneOk_22 : OneOk Try.prog 22 = true := by kernel_rfl
@[simp] theorem t1_intT_22 : intT Try.prog 22 = none := by kernel_rfl
@[simp] theorem t1_tk_24 : tk Try.prog 24 = TK.agg 2 := by kernel_rfl
@[simp] theorem t1_sliceT_24 : sliceT Try.prog 24 = none := by kernel_rfl
@[simp] theorem t1_isStringT_24 : isStringT Try.prog 24 = false := by kernel_rfl
@[simp] theorem t1_zeroOf_24 : zeroOf Try.prog 24 = some
  [CV.int IntKind.i64 0, CV.int IntKind.i64 0] := by kernel_rfl
@[simp] theorem t1_rowT_24 : rowT Try.prog 24 = none := by kernel_rfl
@[simp] theorem t1_bytesT_24 : bytesT Try.prog 24 = some 16 := by kernel_rfl
@[simp] theorem t1_buildT_24 : buildT Try.prog 24 = some
  ([CV.int IntKind.i64 0, CV.int IntKind.i64 0], [(0, 1), (1, 1)]) := by kernel_rfl
@[simp] theorem t1_eqT_24 : eqT Try.prog 24 = some [BK.i, BK.i] := by kernel_rfl
@[simp] theorem t1_OneOk_24 : OneOk Try.prog 24 = true := by kernel_rfl
@[simp] theorem t1_intT_24 : intT Try.prog 24 = none := by kernel_rfl
@[simp] theorem t1_fieldAt_24_0 : fieldAt Try.prog 24 0 = some (0, TK.one) := by kernel_rfl
@[simp] theorem t1_fieldAt_24_1 : fieldAt Try.prog 24 1 = some (1, TK.one) := by kernel_rfl
@[simp] theorem t1_tk_26 : tk Try.prog 26 = TK.agg 9 := by kernel_rfl
@[simp] theorem t1_sliceT_26 : sliceT Try.prog 26 = none := by kernel_rfl
@[simp] theorem t1_isStringT_26 : isStringT Try.prog 26 = false := by kernel_rfl
@[simp] theorem t1_zeroOf_26 : zeroOf Try.prog 26 = some
  [CV.str [], CV.int IntKind.i64 0, CV.int IntKind.i64 0, CV.str [], CV.str [], CV.str [],
    CV.int IntKind.i64 0, CV.int IntKind.i64 0, CV.bool false] := by kernel_rfl
@[simp] theorem t1_rowT_26 : rowT Try.prog 26 = none := by kernel_rfl
@[simp] theorem t1_bytesT_26 : bytesT Try.prog 26 = some 104 := by kernel_rfl
@[simp] theorem t1_buildT_26 : buildT Try.prog 26 = some
  ([CV.str [], CV.int IntKind.i64 0, CV.int IntKind.i64 0, CV.str [], CV.str [], CV.str [],
      CV.int IntKind.i64 0, CV.int IntKind.i64 0, CV.bool false],
    [(0, 1), (1, 1), (2, 1), (3, 1), (4, 1), (5, 1), (6, 2), (8, 1)]) := by kernel_rfl
@[simp] theorem t1_eqT_26 : eqT Try.prog 26 = some
  [BK.s, BK.i, BK.i, BK.s, BK.s, BK.s, BK.i, BK.i, BK.b] := by kernel_rfl
@[simp] theorem t1_OneOk_26 : OneOk Try.prog 26 = true := by kernel_rfl
@[simp] theorem t1_intT_26 : intT Try.prog 26 = none := by kernel_rfl
@[simp] theorem t1_fieldAt_26_0 : fieldAt Try.prog 26 0 = some (0, TK.one) := by kernel_rfl
@[simp] theorem t1_fieldAt_26_1 : fieldAt Try.prog 26 1 = some (1, TK.one) := by kernel_rfl
@[simp] theorem t1_fieldAt_26_2 : fieldAt Try.prog 26 2 = some (2, TK.one) := by kernel_rfl
@[simp] theorem t1_fieldAt_26_3 : fieldAt Try.prog 26 3 = some (3, TK.one) := by kernel_rfl
@[simp] theorem t1_fieldAt_26_4 : fieldAt Try.prog 26 4 = some (4, TK.one) := by kernel_rfl
@[simp] theorem t1_fieldAt_26_5 : fieldAt Try.prog 26 5 = some (5, TK.one) := by kernel_rfl
@[simp] theorem t1_fieldAt_26_6 : fieldAt Try.prog 26 6 = some (6, TK.agg 2) := by kernel_rfl
@[simp] theorem t1_fieldAt_26_7 : fieldAt Try.prog 26 7 = some (8, TK.one) := by kernel_rfl
@[simp] theorem t1_tk_27 : tk Try.prog 27 = TK.one := by kernel_rfl
@[simp] theorem t1_sliceT_27 : sliceT Try.prog 27 = some (5, 1) := by kernel_rfl
@[simp] theorem t1_isStringT_27 : isStringT Try.prog 27 = false := by kernel_rfl
@[simp] theorem t1_zeroOf_27 : zeroOf Try.prog 27 = some [CV.nil] := by kernel_rfl
@[simp] theorem t1_rowT_27 : rowT Try.prog 27 = some
  (5, 1, [CV.int IntKind.u8 0]) := by kernel_rfl
@[simp] theorem t1_bytesT_27 : bytesT Try.prog 27 = some 24 := by kernel_rfl
@[simp] theorem t1_buildT_27 : buildT Try.prog 27 = none := by kernel_rfl
@[simp] theorem t1_eqT_27 : eqT Try.prog 27 = none := by kernel_rfl
@[simp] theorem t1_OneOk_27 : OneOk Try.prog 27 = true := by kernel_rfl
@[simp] theorem t1_intT_27 : intT Try.prog 27 = none := by kernel_rfl
@[simp] theorem t1_tk_28 : tk Try.prog 28 = TK.one := by kernel_rfl
@[simp] theorem t1_sliceT_28 : sliceT Try.prog 28 = some (42, 5) := by kernel_rfl
@[simp] theorem t1_isStringT_28 : isStringT Try.prog 28 = false := by kernel_rfl
@[simp] theorem t1_zeroOf_28 : zeroOf Try.prog 28 = some [CV.nil] := by kernel_rfl
@[simp] theorem t1_rowT_28 : rowT Try.prog 28 = some
  (42, 5,
    [CV.str [], CV.int IntKind.i64 0, CV.int IntKind.i64 0, CV.int IntKind.i64 0,
      CV.int IntKind.i64 0]) := by kernel_rfl
@[simp] theorem t1_bytesT_28 : bytesT Try.prog 28 = some 24 := by kernel_rfl
@[simp] theorem t1_buildT_28 : buildT Try.prog 28 = none := by kernel_rfl
@[simp] theorem t1_eqT_28 : eqT Try.prog 28 = none := by kernel_rfl
@[simp] theorem t1_OneOk_28 : OneOk Try.prog 28 = true := by kernel_rfl
@[simp] theorem t1_intT_28 : intT Try.prog 28 = none := by kernel_rfl
@[simp] theorem t1_tk_30 : tk Try.prog 30 = TK.agg 14 := by kernel_rfl
@[simp] theorem t1_sliceT_30 : sliceT Try.prog 30 = none := by kernel_rfl
@[simp] theorem t1_isStringT_30 : isStringT Try.prog 30 = false := by kernel_rfl
@[simp] theorem t1_zeroOf_30 : zeroOf Try.prog 30 = some
  [CV.bool false, CV.nil, CV.str [], CV.int IntKind.i64 0, CV.int IntKind.i64 0, CV.str [],
    CV.str [], CV.str [], CV.int IntKind.i64 0, CV.int IntKind.i64 0, CV.bool false, CV.nil,
    CV.nil, CV.int IntKind.i64 0] := by kernel_rfl
@[simp] theorem t1_rowT_30 : rowT Try.prog 30 = none := by kernel_rfl
@[simp] theorem t1_bytesT_30 : bytesT Try.prog 30 = some 192 := by kernel_rfl
@[simp] theorem t1_buildT_30 : buildT Try.prog 30 = some
  ([CV.bool false, CV.nil, CV.str [], CV.int IntKind.i64 0, CV.int IntKind.i64 0, CV.str [],
      CV.str [], CV.str [], CV.int IntKind.i64 0, CV.int IntKind.i64 0, CV.bool false, CV.nil,
      CV.nil, CV.int IntKind.i64 0],
    [(0, 1), (1, 1), (2, 9), (11, 1), (12, 1), (13, 1)]) := by kernel_rfl
@[simp] theorem t1_eqT_30 : eqT Try.prog 30 = none := by kernel_rfl
@[simp] theorem t1_OneOk_30 : OneOk Try.prog 30 = true := by kernel_rfl
@[simp] theorem t1_intT_30 : intT Try.prog 30 = none := by kernel_rfl
@[simp] theorem t1_fieldAt_30_0 : fieldAt Try.prog 30 0 = some (0, TK.one) := by kernel_rfl
@[simp] theorem t1_fieldAt_30_1 : fieldAt Try.prog 30 1 = some (1, TK.one) := by kernel_rfl
@[simp] theorem t1_fieldAt_30_2 : fieldAt Try.prog 30 2 = some (2, TK.agg 9) := by kernel_rfl
@[simp] theorem t1_fieldAt_30_3 : fieldAt Try.prog 30 3 = some (11, TK.one) := by kernel_rfl
@[simp] theorem t1_fieldAt_30_4 : fieldAt Try.prog 30 4 = some (12, TK.one) := by kernel_rfl
@[simp] theorem t1_fieldAt_30_5 : fieldAt Try.prog 30 5 = some (13, TK.one) := by kernel_rfl
@[simp] theorem t1_tk_32 : tk Try.prog 32 = TK.agg 2 := by kernel_rfl
@[simp] theorem t1_sliceT_32 : sliceT Try.prog 32 = none := by kernel_rfl
@[simp] theorem t1_isStringT_32 : isStringT Try.prog 32 = false := by kernel_rfl
@[simp] theorem t1_zeroOf_32 : zeroOf Try.prog 32 = some
  [CV.int IntKind.i64 0, CV.int IntKind.i64 0] := by kernel_rfl
@[simp] theorem t1_rowT_32 : rowT Try.prog 32 = none := by kernel_rfl
@[simp] theorem t1_bytesT_32 : bytesT Try.prog 32 = some 16 := by kernel_rfl
@[simp] theorem t1_buildT_32 : buildT Try.prog 32 = some
  ([CV.int IntKind.i64 0, CV.int IntKind.i64 0], [(0, 1), (1, 1)]) := by kernel_rfl
@[simp] theorem t1_eqT_32 : eqT Try.prog 32 = some [BK.i, BK.i] := by kernel_rfl
@[simp] theorem t1_OneOk_32 : OneOk Try.prog 32 = true := by kernel_rfl
@[simp] theorem t1_intT_32 : intT Try.prog 32 = none := by kernel_rfl
@[simp] theorem t1_fieldAt_32_0 : fieldAt Try.prog 32 0 = some (0, TK.one) := by kernel_rfl
@[simp] theorem t1_fieldAt_32_1 : fieldAt Try.prog 32 1 = some (1, TK.one) := by kernel_rfl
@[simp] theorem t1_tk_33 : tk Try.prog 33 = TK.one := by kernel_rfl
@[simp] theorem t1_sliceT_33 : sliceT Try.prog 33 = none := by kernel_rfl
@[simp] theorem t1_isStringT_33 : isStringT Try.prog 33 = false := by kernel_rfl
@[simp] theorem t1_zeroOf_33 : zeroOf Try.prog 33 = some [CV.int IntKind.i64 0] := by kernel_rfl
@[simp] theorem t1_rowT_33 : rowT Try.prog 33 = none := by kernel_rfl
@[simp] theorem t1_bytesT_33 : bytesT Try.prog 33 = some 8 := by kernel_rfl
@[simp] theorem t1_buildT_33 : buildT Try.prog 33 = none := by kernel_rfl
@[simp] theorem t1_eqT_33 : eqT Try.prog 33 = none := by kernel_rfl
@[simp] theorem t1_OneOk_33 : OneOk Try.prog 33 = true := by kernel_rfl
@[simp] theorem t1_intT_33 : intT Try.prog 33 = some IntKind.i64 := by kernel_rfl
@[simp] theorem t1_tk_42 : tk Try.prog 42 = TK.agg 5 := by kernel_rfl
@[simp] theorem t1_sliceT_42 : sliceT Try.prog 42 = none := by kernel_rfl
@[simp] theorem t1_isStringT_42 : isStringT Try.prog 42 = false := by kernel_rfl
@[simp] theorem t1_zeroOf_42 : zeroOf Try.prog 42 = some
  [CV.str [], CV.int IntKind.i64 0, CV.int IntKind.i64 0, CV.int IntKind.i64 0,
    CV.int IntKind.i64 0] := by kernel_rfl
@[simp] theorem t1_rowT_42 : rowT Try.prog 42 = none := by kernel_rfl
@[simp] theorem t1_bytesT_42 : bytesT Try.prog 42 = some 48 := by kernel_rfl
@[simp] theorem t1_buildT_42 : buildT Try.prog 42 = some
  ([CV.str [], CV.int IntKind.i64 0, CV.int IntKind.i64 0, CV.int IntKind.i64 0,
      CV.int IntKind.i64 0],
    [(0, 1), (1, 1), (2, 1), (3, 1), (4, 1)]) := by kernel_rfl
@[simp] theorem t1_eqT_42 : eqT Try.prog 42 = some [BK.s, BK.i, BK.i, BK.i, BK.i] := by kernel_rfl
@[simp] theorem t1_OneOk_42 : OneOk Try.prog 42 = true := by kernel_rfl
@[simp] theorem t1_intT_42 : intT Try.prog 42 = none := by kernel_rfl
@[simp] theorem t1_fieldAt_42_0 : fieldAt Try.prog 42 0 = some (0, TK.one) := by kernel_rfl
@[simp] theorem t1_fieldAt_42_1 : fieldAt Try.prog 42 1 = some (1, TK.one) := by kernel_rfl
@[simp] theorem t1_fieldAt_42_2 : fieldAt Try.prog 42 2 = some (2, TK.one) := by kernel_rfl
@[simp] theorem t1_fieldAt_42_3 : fieldAt Try.prog 42 3 = some (3, TK.one) := by kernel_rfl
@[simp] theorem t1_fieldAt_42_4 : fieldAt Try.prog 42 4 = some (4, TK.one) := by kernel_rfl
end Go.Proofs.Ytdciogjhkckigaa
