/- A part of the proof: lemmas and contracts of functions. -/
import Derived.Shelf.Lays
import Derived.Test.YtlcmnclbljedfaaGreatDoorProg
import Derived.KernelRfl
import Derived.Test.YtlcmnclbljedfaaGreatDoorAbJ4
import Derived.Test.YtlcmnclbljedfaaGreatDoorAbJ5
import Derived.Shelf.Small.Strs
import Derived.Shelf.Strings.SlTrimAscii
import Derived.Shelf.LaysM
import Derived.Lib.ItoaLen
import Derived.Shelf.Strconv.Itoa3
import Derived.Shelf.Strings.OnBuilder
import Derived.Lib.ItoaNum
import Derived.Lib.Atoi
import Derived.Shelf.Strings.BuilderX
import Derived.Shelf.Strings.Repeat
import Derived.Lib.Split
import Derived.Shelf.Strings.SplitCore
import Derived.Shelf.Strings.Search3
import Derived.Shelf.Strings.Count
import Derived.Shelf.Strconv.Atoi
import Derived.Lib.SplitLaws
import Derived.Lib.AtoiErrMem
set_option linter.all false
namespace Go.Proofs.YtlcmnclbljedfaaGreatDoor
open Go
set_option maxRecDepth 100000
def renn161:Go.Shelf.Ren:=⟨fun x=>if x=119 then 303 else if x=137 then 215 else if x=151 then 233 else if x=152 then 255 else if x=161 then 157 else if x=197 then 232 else if x=217 then 267 else if x=224 then 265 else if x=225 then 304 else if x=227 then 141 else if x=228 then 231 else if x=231 then 139 else if x=233 then 142 else if x=235 then 144 else if x=260 then 278 else if x=266 then 309 else x,fun x=>if x=0 then 0 else if x=3 then 3 else if x=4 then 4 else if x=5 then 5 else if x=9 then 9 else if x=21 then 21 else if x=46 then 165 else if x=105 then 270 else if x=116 then 212 else if x=117 then 213 else if x=119 then 333 else if x=124 then 216 else if x=138 then 335 else if x=139 then 336 else x,fun x=>if x=3 then 2 else if x=4 then 3 else x⟩
theorem layn161:Go.Proofs.Lays.n161 Tryz.prog renn161 where
 mixed:=by kernel_rfl
 f119:=Tryz.func303.trans (congrArg some (by kernel_rfl))
 f137:=Tryz.func215.trans (congrArg some (by kernel_rfl))
 f151:=Tryz.func233.trans (congrArg some (by kernel_rfl))
 f152:=Tryz.func255.trans (congrArg some (by kernel_rfl))
 f161:=Tryz.func157.trans (congrArg some (by kernel_rfl))
 f197:=Tryz.func232.trans (congrArg some (by kernel_rfl))
 f217:=Tryz.func267.trans (congrArg some (by kernel_rfl))
 f224:=Tryz.func265.trans (congrArg some (by kernel_rfl))
 f225:=Tryz.func304.trans (congrArg some (by kernel_rfl))
 f227:=Tryz.func141.trans (congrArg some (by kernel_rfl))
 f228:=Tryz.func231.trans (congrArg some (by kernel_rfl))
 f231:=Tryz.func139.trans (congrArg some (by kernel_rfl))
 f233:=Tryz.func142.trans (congrArg some (by kernel_rfl))
 f235:=Tryz.func144.trans (congrArg some (by kernel_rfl))
 f260:=Tryz.func278.trans (congrArg some (by kernel_rfl))
 f266:=Tryz.func309.trans (congrArg some (by kernel_rfl))
 t0:=Tryz.underlying0
 a0:=Tryz.isAgg0
 z0:=Tryz.sizeOf0
 v0:=Tryz.zeroValue0
 t3:=Tryz.underlying3
 a3:=Tryz.isAgg3
 z3:=Tryz.sizeOf3
 v3:=Tryz.zeroValue3
 t4:=Tryz.underlying4
 a4:=Tryz.isAgg4
 z4:=Tryz.sizeOf4
 v4:=Tryz.zeroValue4
 t5:=Tryz.underlying5
 a5:=Tryz.isAgg5
 z5:=Tryz.sizeOf5
 v5:=Tryz.zeroValue5
 t9:=Tryz.underlying9
 a9:=Tryz.isAgg9
 z9:=Tryz.sizeOf9
 v9:=Tryz.zeroValue9
 t21:=Tryz.underlying21
 a21:=Tryz.isAgg21
 z21:=Tryz.sizeOf21
 v21:=Tryz.zeroValue21
 t46:=Tryz.underlying165
 a46:=Tryz.isAgg165
 z46:=Tryz.sizeOf165
 v46:=Tryz.zeroValue165
 t105:=Tryz.underlying270
 a105:=Tryz.isAgg270
 z105:=Tryz.sizeOf270
 v105:=Tryz.zeroValue270
 t116:=Tryz.underlying212
 a116:=Tryz.isAgg212
 z116:=Tryz.sizeOf212
 t117:=Tryz.underlying213
 a117:=Tryz.isAgg213
 z117:=Tryz.sizeOf213
 v117:=Tryz.zeroValue213
 t119:=Tryz.underlying333
 a119:=Tryz.isAgg333
 z119:=Tryz.sizeOf333
 t124:=Tryz.underlying216
 a124:=Tryz.isAgg216
 z124:=Tryz.sizeOf216
 v124:=Tryz.zeroValue216
 t138:=Tryz.underlying335
 a138:=Tryz.isAgg335
 z138:=Tryz.sizeOf335
 v138:=Tryz.zeroValue335
 t139:=Tryz.underlying336
 a139:=Tryz.isAgg336
 z139:=Tryz.sizeOf336
 v139:=Tryz.zeroValue336
 g3:=by kernel_rfl
 g4:=by kernel_rfl
end Go.Proofs.YtlcmnclbljedfaaGreatDoor
namespace Go.Proofs.YtlcmnclbljedfaaGreatDoor
open Go Go.Ab
@[simp] theorem ix_tk_3:tk Tryz.prog 3=TK.one:=by kernel_rfl
@[simp] theorem ix_isSliceT_3:isSliceT Tryz.prog 3=false:=by kernel_rfl
@[simp] theorem ix_zeroX_3:zeroX Tryz.prog 3=some
 (XV.one (CV.int IntKind.i64 0)):=by kernel_rfl
@[simp] theorem ix_bytesT_3:bytesT Tryz.prog 3=some 8:=by kernel_rfl
@[simp] theorem ix_OneOk_3:OneOk Tryz.prog 3=true:=by kernel_rfl
@[simp] theorem ix_intT_3:intT Tryz.prog 3=some IntKind.i64:=by kernel_rfl
@[simp] theorem ix_tk_4:tk Tryz.prog 4=TK.one:=by kernel_rfl
@[simp] theorem ix_zeroX_4:zeroX Tryz.prog 4=some (XV.one (CV.bool false)):=by kernel_rfl
@[simp] theorem ix_tk_5:tk Tryz.prog 5=TK.one:=by kernel_rfl
@[simp] theorem ix_zeroX_5:zeroX Tryz.prog 5=some
 (XV.one (CV.int IntKind.u8 0)):=by kernel_rfl
@[simp] theorem ix_bytesT_5:bytesT Tryz.prog 5=some 1:=by kernel_rfl
@[simp] theorem ix_OneOk_5:OneOk Tryz.prog 5=true:=by kernel_rfl
@[simp] theorem ix_byteT_5:byteT Tryz.prog 5=true:=by kernel_rfl
@[simp] theorem ix_tk_9:tk Tryz.prog 9=TK.one:=by kernel_rfl
@[simp] theorem ix_isStringT_9:isStringT Tryz.prog 9=true:=by kernel_rfl
@[simp] theorem ix_isSliceT_9:isSliceT Tryz.prog 9=false:=by kernel_rfl
@[simp] theorem ix_zeroX_9:zeroX Tryz.prog 9=some (XV.one (CV.str [])):=by kernel_rfl
@[simp] theorem ix_bytesT_9:bytesT Tryz.prog 9=some 16:=by kernel_rfl
@[simp] theorem ix_OneOk_9:OneOk Tryz.prog 9=true:=by kernel_rfl
@[simp] theorem ix_sliceT_22:sliceT Tryz.prog 22=some (36,9):=by kernel_rfl
@[simp] theorem ix_rowT_22:rowT Tryz.prog 22=some
 (36,9,
  [CV.str [],CV.int IntKind.i64 0,CV.int IntKind.i64 0,CV.str [],CV.str [],CV.str [],
   CV.int IntKind.i64 0,CV.int IntKind.i64 0,CV.bool false]):=by kernel_rfl
@[simp] theorem ix_tk_34:tk Tryz.prog 34=TK.agg 2:=by kernel_rfl
@[simp] theorem ix_zeroX_34:zeroX Tryz.prog 34=some
 (XV.agg [CV.int IntKind.i64 0,CV.int IntKind.i64 0]):=by kernel_rfl
@[simp] theorem ix_buildT_34:buildT Tryz.prog 34=some
 ([CV.int IntKind.i64 0,CV.int IntKind.i64 0],[(0,1),(1,1)]):=by kernel_rfl
@[simp] theorem ix_fieldAt_34_0:fieldAt Tryz.prog 34 0=some (0,TK.one):=by kernel_rfl
@[simp] theorem ix_fieldAt_34_1:fieldAt Tryz.prog 34 1=some (1,TK.one):=by kernel_rfl
@[simp] theorem ix_tk_36:tk Tryz.prog 36=TK.agg 9:=by kernel_rfl
@[simp] theorem ix_zeroX_36:zeroX Tryz.prog 36=some
 (XV.agg
  [CV.str [],CV.int IntKind.i64 0,CV.int IntKind.i64 0,CV.str [],CV.str [],CV.str [],
   CV.int IntKind.i64 0,CV.int IntKind.i64 0,CV.bool false]):=by kernel_rfl
@[simp] theorem ix_zeroOf_36:zeroOf Tryz.prog 36=some
 [CV.str [],CV.int IntKind.i64 0,CV.int IntKind.i64 0,CV.str [],CV.str [],CV.str [],
  CV.int IntKind.i64 0,CV.int IntKind.i64 0,CV.bool false]:=by kernel_rfl
@[simp] theorem ix_bytesT_36:bytesT Tryz.prog 36=some 104:=by kernel_rfl
@[simp] theorem ix_buildT_36:buildT Tryz.prog 36=some
 ([CV.str [],CV.int IntKind.i64 0,CV.int IntKind.i64 0,CV.str [],CV.str [],CV.str [],
   CV.int IntKind.i64 0,CV.int IntKind.i64 0,CV.bool false],
  [(0,1),(1,1),(2,1),(3,1),(4,1),(5,1),(6,2),(8,1)]):=by kernel_rfl
@[simp] theorem ix_OneOk_36:OneOk Tryz.prog 36=true:=by kernel_rfl
@[simp] theorem ix_fieldAt_36_0:fieldAt Tryz.prog 36 0=some (0,TK.one):=by kernel_rfl
@[simp] theorem ix_fieldAt_36_1:fieldAt Tryz.prog 36 1=some (1,TK.one):=by kernel_rfl
@[simp] theorem ix_fieldAt_36_2:fieldAt Tryz.prog 36 2=some (2,TK.one):=by kernel_rfl
@[simp] theorem ix_fieldAt_36_3:fieldAt Tryz.prog 36 3=some (3,TK.one):=by kernel_rfl
@[simp] theorem ix_fieldAt_36_4:fieldAt Tryz.prog 36 4=some (4,TK.one):=by kernel_rfl
@[simp] theorem ix_fieldAt_36_5:fieldAt Tryz.prog 36 5=some (5,TK.one):=by kernel_rfl
@[simp] theorem ix_fieldAt_36_6:fieldAt Tryz.prog 36 6=some (6,TK.agg 2):=by kernel_rfl
@[simp] theorem ix_fieldAt_36_7:fieldAt Tryz.prog 36 7=some (8,TK.one):=by kernel_rfl
@[simp] theorem ix_tk_40:tk Tryz.prog 40=TK.one:=by kernel_rfl
@[simp] theorem ix_sliceT_40:sliceT Tryz.prog 40=some (84,2):=by kernel_rfl
@[simp] theorem ix_isSliceT_40:isSliceT Tryz.prog 40=true:=by kernel_rfl
@[simp] theorem ix_zeroX_40:zeroX Tryz.prog 40=some (XV.one CV.nil):=by kernel_rfl
@[simp] theorem ix_rowT_40:rowT Tryz.prog 40=some (84,2,[CV.str [],CV.str []]):=by kernel_rfl
@[simp] theorem ix_OneOk_40:OneOk Tryz.prog 40=true:=by kernel_rfl
@[simp] theorem ix_tk_41:tk Tryz.prog 41=TK.one:=by kernel_rfl
@[simp] theorem ix_sliceT_41:sliceT Tryz.prog 41=some (5,1):=by kernel_rfl
@[simp] theorem ix_isSliceT_41:isSliceT Tryz.prog 41=true:=by kernel_rfl
@[simp] theorem ix_mapT_41:mapT Tryz.prog 41=none:=by kernel_rfl
@[simp] theorem ix_zeroX_41:zeroX Tryz.prog 41=some (XV.one CV.nil):=by kernel_rfl
@[simp] theorem ix_rowT_41:rowT Tryz.prog 41=some
 (5,1,[CV.int IntKind.u8 0]):=by kernel_rfl
@[simp] theorem ix_OneOk_41:OneOk Tryz.prog 41=true:=by kernel_rfl
@[simp] theorem ix_byteSliceT_41:byteSliceT Tryz.prog 41=true:=by kernel_rfl
@[simp] theorem ix_tk_43:tk Tryz.prog 43=TK.agg 4:=by kernel_rfl
@[simp] theorem ix_zeroX_43:zeroX Tryz.prog 43=some
 (XV.agg [CV.int IntKind.i64 0,CV.str [],CV.nil,CV.nil]):=by kernel_rfl
@[simp] theorem ix_zeroOf_43:zeroOf Tryz.prog 43=some
 [CV.int IntKind.i64 0,CV.str [],CV.nil,CV.nil]:=by kernel_rfl
@[simp] theorem ix_buildT_43:buildT Tryz.prog 43=some
 ([CV.int IntKind.i64 0,CV.str [],CV.nil,CV.nil],[(0,1),(1,1),(2,1),(3,1)]):=by kernel_rfl
@[simp] theorem ix_OneOk_43:OneOk Tryz.prog 43=true:=by kernel_rfl
@[simp] theorem ix_fieldAt_43_0:fieldAt Tryz.prog 43 0=some (0,TK.one):=by kernel_rfl
@[simp] theorem ix_fieldAt_43_1:fieldAt Tryz.prog 43 1=some (1,TK.one):=by kernel_rfl
@[simp] theorem ix_fieldAt_43_2:fieldAt Tryz.prog 43 2=some (2,TK.one):=by kernel_rfl
@[simp] theorem ix_fieldAt_43_3:fieldAt Tryz.prog 43 3=some (3,TK.one):=by kernel_rfl
@[simp] theorem ix_sliceT_49:sliceT Tryz.prog 49=some (55,7):=by kernel_rfl
@[simp] theorem ix_zeroX_49:zeroX Tryz.prog 49=some (XV.one CV.nil):=by kernel_rfl
@[simp] theorem ix_rowT_49:rowT Tryz.prog 49=some
 (55,7,
  [CV.int IntKind.i64 0,CV.str [],CV.str [],CV.int IntKind.i64 0,CV.str [],CV.nil,
   CV.nil]):=by kernel_rfl
@[simp] theorem ix_tk_55:tk Tryz.prog 55=TK.agg 7:=by kernel_rfl
@[simp] theorem ix_zeroX_55:zeroX Tryz.prog 55=some
 (XV.agg
  [CV.int IntKind.i64 0,CV.str [],CV.str [],CV.int IntKind.i64 0,CV.str [],CV.nil,
   CV.nil]):=by kernel_rfl
@[simp] theorem ix_zeroOf_55:zeroOf Tryz.prog 55=some
 [CV.int IntKind.i64 0,CV.str [],CV.str [],CV.int IntKind.i64 0,CV.str [],CV.nil,
  CV.nil]:=by kernel_rfl
@[simp] theorem ix_bytesT_55:bytesT Tryz.prog 55=some 112:=by kernel_rfl
@[simp] theorem ix_buildT_55:buildT Tryz.prog 55=some
 ([CV.int IntKind.i64 0,CV.str [],CV.str [],CV.int IntKind.i64 0,CV.str [],CV.nil,
   CV.nil],
  [(0,1),(1,1),(2,1),(3,1),(4,1),(5,1),(6,1)]):=by kernel_rfl
@[simp] theorem ix_OneOk_55:OneOk Tryz.prog 55=true:=by kernel_rfl
@[simp] theorem ix_fieldAt_55_0:fieldAt Tryz.prog 55 0=some (0,TK.one):=by kernel_rfl
@[simp] theorem ix_fieldAt_55_1:fieldAt Tryz.prog 55 1=some (1,TK.one):=by kernel_rfl
@[simp] theorem ix_fieldAt_55_2:fieldAt Tryz.prog 55 2=some (2,TK.one):=by kernel_rfl
@[simp] theorem ix_fieldAt_55_3:fieldAt Tryz.prog 55 3=some (3,TK.one):=by kernel_rfl
@[simp] theorem ix_fieldAt_55_4:fieldAt Tryz.prog 55 4=some (4,TK.one):=by kernel_rfl
@[simp] theorem ix_fieldAt_55_5:fieldAt Tryz.prog 55 5=some (5,TK.one):=by kernel_rfl
@[simp] theorem ix_fieldAt_55_6:fieldAt Tryz.prog 55 6=some (6,TK.one):=by kernel_rfl
@[simp] theorem ix_sliceT_70:sliceT Tryz.prog 70=some (9,1):=by kernel_rfl
@[simp] theorem ix_mapT_70:mapT Tryz.prog 70=none:=by kernel_rfl
@[simp] theorem ix_rowT_70:rowT Tryz.prog 70=some (9,1,[CV.str []]):=by kernel_rfl
@[simp] theorem ix_tk_84:tk Tryz.prog 84=TK.agg 2:=by kernel_rfl
@[simp] theorem ix_zeroX_84:zeroX Tryz.prog 84=some (XV.agg [CV.str [],CV.str []]):=by kernel_rfl
@[simp] theorem ix_zeroOf_84:zeroOf Tryz.prog 84=some [CV.str [],CV.str []]:=by kernel_rfl
@[simp] theorem ix_bytesT_84:bytesT Tryz.prog 84=some 32:=by kernel_rfl
@[simp] theorem ix_buildT_84:buildT Tryz.prog 84=some
 ([CV.str [],CV.str []],[(0,1),(1,1)]):=by kernel_rfl
@[simp] theorem ix_OneOk_84:OneOk Tryz.prog 84=true:=by kernel_rfl
@[simp] theorem ix_fieldAt_84_0:fieldAt Tryz.prog 84 0=some (0,TK.one):=by kernel_rfl
@[simp] theorem ix_fieldAt_84_1:fieldAt Tryz.prog 84 1=some (1,TK.one):=by kernel_rfl
@[simp] theorem ix_sliceT_89:sliceT Tryz.prog 89=some (93,5):=by kernel_rfl
@[simp] theorem ix_rowT_89:rowT Tryz.prog 89=some
 (93,5,
  [CV.str [],CV.int IntKind.i64 0,CV.int IntKind.i64 0,CV.int IntKind.i64 0,
   CV.int IntKind.i64 0]):=by kernel_rfl
@[simp] theorem ix_tk_93:tk Tryz.prog 93=TK.agg 5:=by kernel_rfl
@[simp] theorem ix_zeroX_93:zeroX Tryz.prog 93=some
 (XV.agg
  [CV.str [],CV.int IntKind.i64 0,CV.int IntKind.i64 0,CV.int IntKind.i64 0,
   CV.int IntKind.i64 0]):=by kernel_rfl
@[simp] theorem ix_bytesT_93:bytesT Tryz.prog 93=some 48:=by kernel_rfl
@[simp] theorem ix_buildT_93:buildT Tryz.prog 93=some
 ([CV.str [],CV.int IntKind.i64 0,CV.int IntKind.i64 0,CV.int IntKind.i64 0,
   CV.int IntKind.i64 0],
  [(0,1),(1,1),(2,1),(3,1),(4,1)]):=by kernel_rfl
@[simp] theorem ix_eqT_93:eqT Tryz.prog 93=some [BK.s,BK.i,BK.i,BK.i,BK.i]:=by kernel_rfl
@[simp] theorem ix_sliceT_97:sliceT Tryz.prog 97=some (101,3):=by kernel_rfl
@[simp] theorem ix_rowT_97:rowT Tryz.prog 97=some
 (101,3,[CV.str [],CV.int IntKind.i64 0,CV.int IntKind.i64 0]):=by kernel_rfl
@[simp] theorem ix_bytesT_101:bytesT Tryz.prog 101=some 32:=by kernel_rfl
@[simp] theorem ix_buildT_101:buildT Tryz.prog 101=some
 ([CV.str [],CV.int IntKind.i64 0,CV.int IntKind.i64 0],[(0,1),(1,2)]):=by kernel_rfl
@[simp] theorem ix_fieldAt_101_1:fieldAt Tryz.prog 101 1=some (1,TK.agg 2):=by kernel_rfl
@[simp] theorem ix_sliceT_140:sliceT Tryz.prog 140=none:=by kernel_rfl
@[simp] theorem ix_mapT_140:mapT Tryz.prog 140=some (KK.s,4):=by kernel_rfl
@[simp] theorem ix_isSliceT_156:isSliceT Tryz.prog 156=false:=by kernel_rfl
@[simp] theorem ix_intT_156:intT Tryz.prog 156=some IntKind.u64:=by kernel_rfl
@[simp] theorem ix_tk_159:tk Tryz.prog 159=TK.agg 2:=by kernel_rfl
@[simp] theorem ix_zeroX_159:zeroX Tryz.prog 159=some (XV.agg [CV.str [],CV.str []]):=by kernel_rfl
@[simp] theorem ix_zeroOf_159:zeroOf Tryz.prog 159=some [CV.str [],CV.str []]:=by kernel_rfl
@[simp] theorem ix_buildT_159:buildT Tryz.prog 159=some
 ([CV.str [],CV.str []],[(0,1),(1,1)]):=by kernel_rfl
@[simp] theorem ix_OneOk_159:OneOk Tryz.prog 159=true:=by kernel_rfl
@[simp] theorem ix_fieldAt_159_0:fieldAt Tryz.prog 159 0=some (0,TK.one):=by kernel_rfl
@[simp] theorem ix_fieldAt_159_1:fieldAt Tryz.prog 159 1=some (1,TK.one):=by kernel_rfl
@[simp] theorem ix_isSliceT_165:isSliceT Tryz.prog 165=false:=by kernel_rfl
@[simp] theorem ix_intT_165:intT Tryz.prog 165=some IntKind.u64:=by kernel_rfl
@[simp] theorem ix_tk_168:tk Tryz.prog 168=TK.one:=by kernel_rfl
@[simp] theorem ix_buildT_170:buildT Tryz.prog 170=some
 ([CV.nil,CV.int IntKind.i64 0,CV.int IntKind.i64 0,CV.str [],CV.str [],
   CV.int IntKind.i64 0,CV.str [],CV.nil,CV.nil,CV.int IntKind.i64 0,CV.str []],
  [(0,1),(1,1),(2,7),(9,1),(10,1)]):=by kernel_rfl
@[simp] theorem ix_fieldAt_170_0:fieldAt Tryz.prog 170 0=some (0,TK.one):=by kernel_rfl
@[simp] theorem ix_fieldAt_170_1:fieldAt Tryz.prog 170 1=some (1,TK.one):=by kernel_rfl
@[simp] theorem ix_fieldAt_170_2:fieldAt Tryz.prog 170 2=some (2,TK.agg 7):=by kernel_rfl
@[simp] theorem ix_fieldAt_170_3:fieldAt Tryz.prog 170 3=some (9,TK.one):=by kernel_rfl
@[simp] theorem ix_fieldAt_170_4:fieldAt Tryz.prog 170 4=some (10,TK.one):=by kernel_rfl
@[simp] theorem ix_mapT_221:mapT Tryz.prog 221=some (KK.i IntKind.i64,49):=by kernel_rfl
@[simp] theorem ix_sliceT_235:sliceT Tryz.prog 235=some (3,1):=by kernel_rfl
@[simp] theorem ix_rowT_235:rowT Tryz.prog 235=some
 (3,1,[CV.int IntKind.i64 0]):=by kernel_rfl
@[simp] theorem ix_tk_236:tk Tryz.prog 236=TK.one:=by kernel_rfl
@[simp] theorem ix_tk_265:tk Tryz.prog 265=TK.agg 6:=by kernel_rfl
@[simp] theorem ix_zeroX_265:zeroX Tryz.prog 265=some
 (XV.agg
  [CV.int IntKind.i64 0,CV.int IntKind.i64 0,CV.int IntKind.i64 0,
   CV.int IntKind.i64 0,CV.int IntKind.i64 0,
   CV.int IntKind.i64 0]):=by kernel_rfl
@[simp] theorem ix_zeroOf_265:zeroOf Tryz.prog 265=some
 [CV.int IntKind.i64 0,CV.int IntKind.i64 0,CV.int IntKind.i64 0,
  CV.int IntKind.i64 0,CV.int IntKind.i64 0,
  CV.int IntKind.i64 0]:=by kernel_rfl
@[simp] theorem ix_buildT_265:buildT Tryz.prog 265=some
 ([CV.int IntKind.i64 0,CV.int IntKind.i64 0,CV.int IntKind.i64 0,
   CV.int IntKind.i64 0,CV.int IntKind.i64 0,CV.int IntKind.i64 0],
  [(0,1),(1,1),(2,1),(3,1),(4,1),(5,1)]):=by kernel_rfl
@[simp] theorem ix_OneOk_265:OneOk Tryz.prog 265=true:=by kernel_rfl
@[simp] theorem ix_fieldAt_265_0:fieldAt Tryz.prog 265 0=some (0,TK.one):=by kernel_rfl
@[simp] theorem ix_fieldAt_265_1:fieldAt Tryz.prog 265 1=some (1,TK.one):=by kernel_rfl
@[simp] theorem ix_fieldAt_265_2:fieldAt Tryz.prog 265 2=some (2,TK.one):=by kernel_rfl
@[simp] theorem ix_fieldAt_265_3:fieldAt Tryz.prog 265 3=some (3,TK.one):=by kernel_rfl
@[simp] theorem ix_fieldAt_265_4:fieldAt Tryz.prog 265 4=some (4,TK.one):=by kernel_rfl
@[simp] theorem ix_fieldAt_265_5:fieldAt Tryz.prog 265 5=some (5,TK.one):=by kernel_rfl
end Go.Proofs.YtlcmnclbljedfaaGreatDoor
namespace Go.Proofs.YtlcmnclbljedfaaGreatDoor
open Go
set_option maxRecDepth 100000
def renn106:Go.Shelf.Ren:=⟨fun x=>if x=106 then 94 else if x=213 then 168 else if x=265 then 245 else x,fun x=>if x=3 then 3 else if x=9 then 9 else x,fun x=>x⟩
theorem layn106:Go.Proofs.Lays.n106 Tryz.prog renn106 where
 mixed:=by kernel_rfl
 f106:=Tryz.func94.trans (congrArg some (by kernel_rfl))
 f213:=Tryz.func168.trans (congrArg some (by kernel_rfl))
 f265:=Tryz.func245.trans (congrArg some (by kernel_rfl))
 t3:=Tryz.underlying3
 a3:=Tryz.isAgg3
 z3:=Tryz.sizeOf3
 v3:=Tryz.zeroValue3
 t9:=Tryz.underlying9
 a9:=Tryz.isAgg9
 z9:=Tryz.sizeOf9
 v9:=Tryz.zeroValue9
def renn160:Go.Shelf.Ren:=⟨fun x=>if x=119 then 303 else if x=120 then 279 else if x=137 then 215 else if x=151 then 233 else if x=152 then 255 else if x=160 then 82 else if x=197 then 232 else if x=217 then 267 else if x=224 then 265 else if x=225 then 304 else if x=227 then 141 else if x=228 then 231 else if x=231 then 139 else if x=232 then 140 else if x=233 then 142 else if x=234 then 143 else if x=235 then 144 else if x=236 then 145 else if x=260 then 278 else if x=266 then 309 else if x=271 then 234 else x,fun x=>if x=0 then 0 else if x=3 then 3 else if x=4 then 4 else if x=5 then 5 else if x=9 then 9 else if x=21 then 21 else if x=46 then 165 else if x=105 then 270 else if x=116 then 212 else if x=117 then 213 else if x=119 then 333 else if x=124 then 216 else if x=138 then 335 else if x=139 then 336 else x,fun x=>if x=3 then 2 else if x=4 then 3 else x⟩
theorem layn160:Go.Proofs.Lays.n160 Tryz.prog renn160 where
 mixed:=by kernel_rfl
 f119:=Tryz.func303.trans (congrArg some (by kernel_rfl))
 f120:=Tryz.func279.trans (congrArg some (by kernel_rfl))
 f137:=Tryz.func215.trans (congrArg some (by kernel_rfl))
 f151:=Tryz.func233.trans (congrArg some (by kernel_rfl))
 f152:=Tryz.func255.trans (congrArg some (by kernel_rfl))
 f160:=Tryz.func82.trans (congrArg some (by kernel_rfl))
 f197:=Tryz.func232.trans (congrArg some (by kernel_rfl))
 f217:=Tryz.func267.trans (congrArg some (by kernel_rfl))
 f224:=Tryz.func265.trans (congrArg some (by kernel_rfl))
 f225:=Tryz.func304.trans (congrArg some (by kernel_rfl))
 f227:=Tryz.func141.trans (congrArg some (by kernel_rfl))
 f228:=Tryz.func231.trans (congrArg some (by kernel_rfl))
 f231:=Tryz.func139.trans (congrArg some (by kernel_rfl))
 f232:=Tryz.func140.trans (congrArg some (by kernel_rfl))
 f233:=Tryz.func142.trans (congrArg some (by kernel_rfl))
 f234:=Tryz.func143.trans (congrArg some (by kernel_rfl))
 f235:=Tryz.func144.trans (congrArg some (by kernel_rfl))
 f236:=Tryz.func145.trans (congrArg some (by kernel_rfl))
 f260:=Tryz.func278.trans (congrArg some (by kernel_rfl))
 f266:=Tryz.func309.trans (congrArg some (by kernel_rfl))
 f271:=Tryz.func234.trans (congrArg some (by kernel_rfl))
 t0:=Tryz.underlying0
 a0:=Tryz.isAgg0
 z0:=Tryz.sizeOf0
 v0:=Tryz.zeroValue0
 t3:=Tryz.underlying3
 a3:=Tryz.isAgg3
 z3:=Tryz.sizeOf3
 v3:=Tryz.zeroValue3
 t4:=Tryz.underlying4
 a4:=Tryz.isAgg4
 z4:=Tryz.sizeOf4
 v4:=Tryz.zeroValue4
 t5:=Tryz.underlying5
 a5:=Tryz.isAgg5
 z5:=Tryz.sizeOf5
 v5:=Tryz.zeroValue5
 t9:=Tryz.underlying9
 a9:=Tryz.isAgg9
 z9:=Tryz.sizeOf9
 v9:=Tryz.zeroValue9
 t21:=Tryz.underlying21
 a21:=Tryz.isAgg21
 z21:=Tryz.sizeOf21
 v21:=Tryz.zeroValue21
 t46:=Tryz.underlying165
 a46:=Tryz.isAgg165
 z46:=Tryz.sizeOf165
 v46:=Tryz.zeroValue165
 t105:=Tryz.underlying270
 a105:=Tryz.isAgg270
 z105:=Tryz.sizeOf270
 v105:=Tryz.zeroValue270
 t116:=Tryz.underlying212
 a116:=Tryz.isAgg212
 z116:=Tryz.sizeOf212
 t117:=Tryz.underlying213
 a117:=Tryz.isAgg213
 z117:=Tryz.sizeOf213
 v117:=Tryz.zeroValue213
 t119:=Tryz.underlying333
 a119:=Tryz.isAgg333
 z119:=Tryz.sizeOf333
 t124:=Tryz.underlying216
 a124:=Tryz.isAgg216
 z124:=Tryz.sizeOf216
 v124:=Tryz.zeroValue216
 t138:=Tryz.underlying335
 a138:=Tryz.isAgg335
 z138:=Tryz.sizeOf335
 v138:=Tryz.zeroValue335
 t139:=Tryz.underlying336
 a139:=Tryz.isAgg336
 z139:=Tryz.sizeOf336
 v139:=Tryz.zeroValue336
 g3:=by kernel_rfl
 g4:=by kernel_rfl
end Go.Proofs.YtlcmnclbljedfaaGreatDoor
namespace Go.Proofs.YtlcmnclbljedfaaGreatDoor
open Go Go.Ab
variable [Amb]
set_option maxRecDepth 100000
set_option maxHeartbeats 4000000
theorem mixed:Tryz.prog.follows .mixedOrders=true:=by kernel_rfl
theorem wrapS (n:Int) (h:-9223372036854775808≤n∧n≤9223372036854775807):IntKind.i64.wrap n=n:=IntWalk.i64_in n h
section
variable {α:Type} {p:α→Bool} {l:List α} {i:Nat}
theorem all_bad (hlt:i<l.length) (h:p l[i]=false):l.all p=false:=by
 rw [List.all_eq_false]
 exact ⟨l[i],List.getElem_mem hlt,by simp [h]⟩
def Upto (p:α→Bool) (l:List α) (i:Nat):Prop:=i≤l.length∧(l.take i).all p=true
theorem Upto.zero:Upto p l 0:=⟨Nat.zero_le _,by simp⟩
theorem Upto.step (h:Upto p l i) (hlt:i<l.length) (hp:p l[i]=true):Upto p l (i+1):=by
 refine ⟨hlt,?_⟩
 rw [List.take_add_one,List.getElem?_eq_getElem hlt]
 simp only [Option.toList,List.all_append,h.2,List.all_cons,hp,List.all_nil,Bool.and_self]
theorem Upto.done (h:Upto p l i) (hge:¬i<l.length):l.all p=true:=by
 have:=h.2
 rwa [List.take_of_length_le (by omega)] at this
end
def inB (lo hi n:Int):Bool:=decide (lo≤n)&&decide (n≤hi)
def keyChar (b:UInt8):Bool:=decide (33≤b.toNat)&&decide (b.toNat≤126)
def plainB (l:List UInt8):Bool:=l.all keyChar
def wordB (l:List UInt8) (most:Int):Bool:=plainB l&&inB 1 most l.length
def keyB (l:List UInt8):Bool:=wordB l 2000
def momentB (n:Int):Bool:=inB 0 253402300799 n
theorem index_within (x a b:Int):ACalls Tryz.prog 98 [.one (.int .i64 x),.one (.int .i64 a),.one (.int .i64 b)] (.x (.one (.bool (inB a b x)))):=by
 refine ACalls.of mixed (fn:=Tryz.f98) (by kernel_rfl) (by kernel_rfl) rfl (by kernel_rfl) (by simp [Tryz.f98]) (fun hok=>?_)
 simp [inB]
theorem isMoment (x:Int):ACalls Tryz.prog 56 [.one (.int .i64 x)] (.x (.one (.bool (momentB x)))):=by
 refine ACalls.of mixed (fn:=Tryz.f56) (by kernel_rfl) (by kernel_rfl) rfl (by kernel_rfl) (by simp [Tryz.f56]) (fun hok=>?_)
 simp [momentB,inB]
theorem keyChar_bad {b:UInt8} (h:((b.toNat:Nat):Int)<33∨126<((b.toNat:Nat):Int)):keyChar b=false:=by
 unfold keyChar;rcases h with h | h<;>simp<;>omega
theorem keyChar_good {b:UInt8} (h1:33≤((b.toNat:Nat):Int)) (h2:((b.toNat:Nat):Int)≤126):keyChar b=true:=by
 unfold keyChar;simp;omega
theorem isKey (l:List UInt8):ACalls Tryz.prog 55 [.one (.str l)] (.x (.one (.bool (keyB l)))):=by
 refine ACalls.of mixed (fn:=Tryz.f55) (by kernel_rfl) (by kernel_rfl) rfl (by kernel_rfl) (by simp [Tryz.f55]) (fun hok=>?_)
 have hl:l.length≤maxLen:=by simpa [XV.ok,CV.ok] using hok
 simp -implicitDefEqProofs
 refine ALoopS.of Nat (fun i=>[(0,.x (.one (.str l))),(5,.x (.one (.int .i64 l.length))),(6,.x (.one (.int .i64 i)))]) (Upto keyChar l) (fun i=>l.length-i) 0 Upto.zero ?_ ?_
 ·simp
 intro i hi
 by_cases hlt:i<l.length
 ·simp -implicitDefEqProofs [hlt]
  refine ⟨fun h=>?_,fun h1 h2=>Again.of (i+1) (hi.step hlt (keyChar_good (by omega) (by omega))) (by omega) ?_⟩
  ·simp [keyB,wordB,plainB,all_bad hlt (keyChar_bad h)]
  ·simp
   exact wrapS _ (by unfold maxLen at hl;omega)
 ·simp -implicitDefEqProofs [hlt]
  simp [keyB,wordB,plainB,hi.done hlt,inB]
theorem isWord (l:List UInt8) (most:Int):ACalls Tryz.prog 90 [.one (.str l),.one (.int .i64 most)] (.x (.one (.bool (wordB l most)))):=by
 refine ACalls.of mixed (fn:=Tryz.f90) (by kernel_rfl) (by kernel_rfl) rfl (by kernel_rfl) (by simp [Tryz.f90]) (fun hok=>?_)
 have hl:l.length≤maxLen:=by simpa [XV.ok,CV.ok] using hok _ (List.mem_cons_self)
 simp -implicitDefEqProofs
 refine ALoopS.of Nat (fun i=>[(0,.x (.one (.str l))),(1,.x (.one (.int .i64 most))),(7,.x (.one (.int .i64 l.length))),(8,.x (.one (.int .i64 i)))]) (Upto keyChar l) (fun i=>l.length-i) 0 Upto.zero ?_ ?_
 ·simp
 intro i hi
 by_cases hlt:i<l.length
 ·simp -implicitDefEqProofs [hlt]
  refine ⟨fun h=>?_,fun h1 h2=>Again.of (i+1) (hi.step hlt (keyChar_good (by omega) (by omega))) (by omega) ?_⟩
  ·simp [wordB,plainB,all_bad hlt (keyChar_bad h)]
  ·simp
   exact wrapS _ (by unfold maxLen at hl;omega)
 ·simp -implicitDefEqProofs [hlt]
  refine ACallK.of (index_within _ _ _) ?_
  simp [wordB,plainB,hi.done hlt]
theorem cmpB_eq:∀(a b:List UInt8),Lib.compareBytes a b=if ltB a b=true then -1 else if a=b then 0 else 1
 | [],[]=>by simp [Lib.compareBytes,ltB,Op.bytesLess]
 | [],_::_=>by simp [Lib.compareBytes,ltB,Op.bytesLess]
 | _::_,[]=>by simp [Lib.compareBytes,ltB,Op.bytesLess]
 | a::x,b::y=>by
  have ih:=cmpB_eq x y
  unfold ltB at ih
  simp only [Lib.compareBytes,ltB,Op.bytesLess]
  by_cases h1:a<b
  ·simp [h1]
  ·by_cases h2:b<a
   ·have hab:a≠b:=fun e=>h1 (e▸h2)
    simp [h1,h2,hab]
   ·have hab:a=b:=UInt8.le_antisymm (UInt8.not_lt.1 h2) (UInt8.not_lt.1 h1)
    subst hab
    simp [h1,ih]
def cmpI (a b:Int):Int:=if a<b then -1 else if b<a then 1 else 0
theorem strings_Compare (a b:List UInt8):ACalls Tryz.prog 94 [.one (.str a),.one (.str b)] (.x (.one (.int .i64 (Lib.compareBytes a b)))):=by
 refine ACalls.ofKit [.string ⟨a.toArray⟩,.string ⟨b.toArray⟩] _ (callable_of Tryz.f94 (by kernel_rfl) (by kernel_rfl) rfl) rfl (fun _ _=>repR_int _ _) (fun hok w=>?_)
 refine (Any.strings_Compare layn106 ⟨a.toArray⟩ ⟨b.toArray⟩ w).mono ?_
 rintro e w' ⟨rfl,rfl⟩
 exact ⟨rfl,RowKit.Below.refl _ _⟩
theorem isNaN (a:Int):ACalls Tryz.prog 169 [.one (.int .i64 a)] (.x (.one (.bool false))):=by
 refine ACalls.of mixed (fn:=Tryz.f169) (by kernel_rfl) (by kernel_rfl) rfl (by kernel_rfl) (by simp [Tryz.f169]) (fun hok=>?_)
 simp -implicitDefEqProofs
theorem cmp_Compare (a b:Int):ACalls Tryz.prog 95 [.one (.int .i64 a),.one (.int .i64 b)] (.x (.one (.int .i64 (cmpI a b)))):=by
 refine ACalls.of mixed (fn:=Tryz.f95) (by kernel_rfl) (by kernel_rfl) rfl (by kernel_rfl) (by simp [Tryz.f95]) (fun hok=>?_)
 simp -implicitDefEqProofs
 refine ACallK.of (isNaN _) ?_
 simp -implicitDefEqProofs
 refine ACallK.of (isNaN _) ?_
 simp -implicitDefEqProofs
 refine ⟨fun h=>?_,fun h=>⟨fun h2=>?_,fun h2=>?_⟩⟩<;>unfold cmpI
 ·rw [if_pos h]
 ·rw [if_neg (by omega),if_pos h2]
 ·rw [if_neg (by omega),if_neg (by omega)]
end Go.Proofs.YtlcmnclbljedfaaGreatDoor
namespace Go.Proofs.YtlcmnclbljedfaaGreatDoor
open Go Go.Ab
variable [Amb]
set_option maxRecDepth 100000
set_option maxHeartbeats 4000000
theorem trimS_nil (l cs:List UInt8):(Lib.trimS l cs=[])↔l.all (cs.contains ·)=true:=by
 have dw:∀(l:List UInt8),l.dropWhile (cs.contains ·)=[]↔l.all (cs.contains ·)=true:=by
  intro l
  induction l with
  | nil=>simp
  | cons a l ih =>
   by_cases h:cs.contains a=true
   ·rw [List.dropWhile_cons_of_pos h,ih]
    simp only [List.all_cons,h,Bool.true_and]
   ·rw [List.dropWhile_cons_of_neg h]
    simp only [List.all_cons,h,Bool.false_and]
    simp
 have rv:∀(l:List UInt8),l.reverse.all (cs.contains ·)=l.all (cs.contains ·):=by
  intro l;rw [List.all_reverse]
 unfold Lib.trimS Lib.trimLeftS Lib.trimRightS
 rw [dw,rv]
 have:∀(m:List UInt8),(m.dropWhile (cs.contains ·)).all (cs.contains ·)=m.all (cs.contains ·):=by
  intro m
  induction m with
  | nil=>rfl
  | cons a m ih =>
   by_cases h:cs.contains a=true
   ·rw [List.dropWhile_cons_of_pos h,ih]
    simp only [List.all_cons,h,Bool.true_and]
   ·rw [List.dropWhile_cons_of_neg h]
 rw [this,rv]
theorem trimS_le (l cs:List UInt8):(Lib.trimS l cs).length≤l.length:=by
 have dw:∀(m:List UInt8),(m.dropWhile (cs.contains ·)).length≤m.length:=fun m=>(List.dropWhile_sublist _).length_le
 unfold Lib.trimS Lib.trimLeftS Lib.trimRightS
 have h1:=dw (List.dropWhile (fun x=>cs.contains x) l.reverse).reverse
 have h2:=dw l.reverse
 simp only [List.length_reverse] at h1 h2
 omega
theorem strings_Trim (l cs:List UInt8) (h:cs.all (fun b=>decide (b.toNat<128))=true) (h2:cs.length<1000):ACalls Tryz.prog 82 [.one (.str l),.one (.str cs)] (.x (.one (.str (Lib.trimS l cs)))):=by
 by_cases hl:l.length≤maxLen
 ·refine ACalls.ofKit [.string ⟨l.toArray⟩,.string ⟨cs.toArray⟩] _ (callable_of Tryz.f82 (by kernel_rfl) (by kernel_rfl) rfl) rfl (fun _ _=>repR_str _ (Nat.le_trans (trimS_le l cs) hl)) (fun hok w=>?_)
  have hm:maxLen≤9223372036854775807:=by decide
  exact Any.strings_Trim_laid layn160 (by kernel_rfl) ⟨l.toArray⟩ ⟨cs.toArray⟩ w (by simp only [ByteArray.size,List.size_toArray];omega) (by simp only [ByteArray.size,List.size_toArray];omega) (Go.Proofs.ascii_of_all h)
 ·refine ⟨callable_of Tryz.f82 (by kernel_rfl) (by kernel_rfl) rfl,fun w S vs hS ha=>?_⟩
  exact absurd (by simpa [XV.ok,CV.ok] using okAll_of ha _ (List.mem_cons_self)) hl
def hexCs:List UInt8:=[48,49,50,51,52,53,54,55,56,57,97,98,99,100,101,102]
def nameCs:List UInt8:=[97,98,99,100,101,102,103,104,105,106,107,108,109,110,111,112,113,114,115,116,117,118,119,120,121,122,48,49,50,51,52,53,54,55,56,57,45]
def hexB (b:UInt8):Bool:=inB 48 57 b.toNat || inB 97 102 b.toNat
def lowB (b:UInt8):Bool:=inB 97 122 b.toNat
def nameChar (b:UInt8):Bool:=lowB b || (b.toNat==45) || inB 48 57 b.toNat
theorem hexCs_eq:∀b:UInt8,hexCs.contains b=hexB b:=by
 intro b
 have:∀n:Fin 256,hexCs.contains (UInt8.ofNat n.val)=hexB (UInt8.ofNat n.val):=by decide +kernel
 have h:=this ⟨b.toNat,b.toNat_lt⟩
 simpa using h
theorem nameCs_eq:∀b:UInt8,nameCs.contains b=nameChar b:=by
 intro b
 have:∀n:Fin 256,nameCs.contains (UInt8.ofNat n.val)=nameChar (UInt8.ofNat n.val):=by decide +kernel
 have h:=this ⟨b.toNat,b.toNat_lt⟩
 simpa using h
def digestB (l:List UInt8):Bool:=l.all hexB&&(l.length==16)
def nameB (l:List UInt8):Bool:=l.all nameChar&&(lowB (l[0]?.getD 0)&&inB 1 40 l.length)
theorem isName (l:List UInt8):ACalls Tryz.prog 40 [.one (.str l)] (.x (.one (.bool (nameB l)))):=by
 refine ACalls.of mixed (fn:=Tryz.f40) (by kernel_rfl) (by kernel_rfl) rfl (by kernel_rfl) (by simp [Tryz.f40]) (fun hok=>?_)
 have e:=trimS_nil l nameCs
 simp only [nameCs_eq] at e
 simp -implicitDefEqProofs +contextual [-Bool.and_eq_false_imp,Bool.and_eq_false_iff]
 refine ⟨fun h _=>by omega,fun h _ _=>by omega,ACallGS.of (fun _=>strings_Trim l nameCs (by decide) (by decide)) rfl ?_⟩
 simp -implicitDefEqProofs +contextual [-Bool.and_eq_false_imp,Bool.and_eq_false_iff]
 unfold nameB lowB inB
 generalize ((l[0]?.getD 0).toNat:Int)=n
 by_cases h:Lib.trimS l nameCs=[]
 ·rw [e.1 h,h]
  rw [Bool.eq_iff_iff];simp;omega
 ·have:(l.all nameChar)=false:=by
   cases hb:l.all nameChar with
   | true=>exact absurd (e.2 hb) h
   | false=>rfl
  rw [this]
  simp [h]
structure Entry where
 key:List UInt8
 time:Int
 status:Int
 type:List UInt8
 digest:List UInt8
 file:List UInt8
 lo:Int
 hi:Int
 same:Bool
 deriving DecidableEq
def Entry.row (e:Entry):List CV:=[.str e.key,.int .i64 e.time,.int .i64 e.status,.str e.type,.str e.digest,.str e.file,.int .i64 e.lo,.int .i64 e.hi,.bool e.same]
def intRow (n:Int):List CV:=[.int .i64 n]
def firstNZ:List Int→Int
 | []=>0
 | a::r=>if a=0 then firstNZ r else a
theorem firstNZ_at:∀{l:List Int} {i:Nat},(l.take i).all (·==0)=true→(h:i<l.length)→l[i]≠0→firstNZ l=l[i]
 | a::r,0,_,_,hn=>by simp [firstNZ] at hn ⊢;intro h;exact absurd h hn
 | a::r,i+1,hp,h,hn=>by
  simp only [List.take_succ_cons,List.all_cons,Bool.and_eq_true,beq_iff_eq] at hp
  simp only [firstNZ,hp.1,if_true,List.getElem_cons_succ]
  exact firstNZ_at hp.2 (by simpa using h) (by simpa using hn)
theorem firstNZ_all:∀{l:List Int},l.all (·==0)=true→firstNZ l=0
 | [],_=>rfl
 | a::r,hp=>by
  simp only [List.all_cons,Bool.and_eq_true,beq_iff_eq] at hp
  simp only [firstNZ,hp.1,if_true]
  exact firstNZ_all hp.2
def cmpL (a b:Entry):List Int:=[Lib.compareBytes a.key b.key,cmpI a.time b.time,Lib.compareBytes a.file b.file,cmpI a.lo b.lo]
def cmpE (a b:Entry):Int:=firstNZ (cmpL a b)
theorem cmp_Or (l:List Int):ACalls Tryz.prog 93 [.one (.list 1 (l.map intRow))] (.x (.one (.int .i64 (firstNZ l)))):=by
 refine ACalls.of mixed (fn:=Tryz.f93) (by kernel_rfl) (by kernel_rfl) rfl (by kernel_rfl) (by simp [Tryz.f93]) (fun hok=>?_)
 have hl:l.length≤maxLen:=by have:=hok _ List.mem_cons_self;simp [XV.ok,CV.ok] at this;exact this.1
 simp -implicitDefEqProofs +contextual [-Bool.and_eq_false_imp,Bool.and_eq_false_iff]
 refine ALoopS.of Nat (fun i=>[(3,.x (.one (.int .i64 0))),(6,.x (.one (.list 1 (l.map intRow)))),(7,.x (.one (.int .i64 l.length))),(8,.x (.one (.int .i64 i)))]) (Upto (·==0) l) (fun i=>l.length-i) 0 Upto.zero ?_ ?_
 ·simp
 intro i hi
 by_cases hlt:i<l.length
 ·simp -implicitDefEqProofs +contextual [-Bool.and_eq_false_imp,Bool.and_eq_false_iff,hlt,intRow]
  refine ⟨fun h=>firstNZ_at hi.2 hlt h,fun h=>Again.of (i+1) (hi.step hlt (by simp [h])) (by omega) ?_⟩
  simp
  exact wrapS _ (by unfold maxLen at hl;omega)
 ·simp -implicitDefEqProofs +contextual [-Bool.and_eq_false_imp,Bool.and_eq_false_iff,hlt]
  exact firstNZ_all (hi.done hlt)
theorem index_compare (a b:Entry):ACalls Tryz.prog 47 [.agg a.row,.agg b.row] (.x (.one (.int .i64 (cmpE a b)))):=by
 refine ACalls.of mixed (fn:=Tryz.f47) (by kernel_rfl) (by kernel_rfl) rfl (by kernel_rfl) (by simp [Tryz.f47]) (fun hok=>?_)
 simp -implicitDefEqProofs +contextual [-Bool.and_eq_false_imp,Bool.and_eq_false_iff,Entry.row]
 refine ACallK.of (strings_Compare _ _) ?_
 simp -implicitDefEqProofs +contextual [-Bool.and_eq_false_imp,Bool.and_eq_false_iff]
 refine ACallK.of (cmp_Compare _ _) ?_
 simp -implicitDefEqProofs +contextual [-Bool.and_eq_false_imp,Bool.and_eq_false_iff]
 refine ACallK.of (strings_Compare _ _) ?_
 simp -implicitDefEqProofs +contextual [-Bool.and_eq_false_imp,Bool.and_eq_false_iff]
 refine ACallK.of (cmp_Compare _ _) ?_
 simp -implicitDefEqProofs +contextual [-Bool.and_eq_false_imp,Bool.and_eq_false_iff]
 refine ACallK.of (cmp_Or (cmpL a b)) ?_
 simp -implicitDefEqProofs +contextual [-Bool.and_eq_false_imp,Bool.and_eq_false_iff]
 rfl
def entryF (e:Entry):Int:=
 if keyB e.key=false then 3
 else if momentB e.time=false∨(e.status≠0∧inB 100 599 e.status=false) then 1
 else if e.type≠[]∧wordB e.type 40=false then 3
 else if digestB e.digest=false then 3
 else if nameB e.file=false then 5
 else if inB 0 500000 e.lo=false∨inB e.lo 500000 e.hi=false then 1
 else 0
theorem digest_trim (l:List UInt8):(digestB l=false)↔(l.length≠16∨Lib.trimS l hexCs≠[]):=by
 have e:=trimS_nil l hexCs
 simp only [hexCs_eq] at e
 unfold digestB
 cases hb:l.all hexB with
 | true=>simp [e.2 hb]
 | false =>
  have:Lib.trimS l hexCs≠[]:=fun h=>by rw [e.1 h] at hb;cases hb
  simp [this]
theorem index_checkEntry (e:Entry):ACalls Tryz.prog 49 [.agg e.row] (.x (.one (.int .i64 (entryF e)))):=by
 refine ACalls.of mixed (fn:=Tryz.f49) (by kernel_rfl) (by kernel_rfl) rfl (by kernel_rfl) (by simp [Tryz.f49]) (fun hok=>?_)
 have ed:=digest_trim e.digest
 generalize hF:entryF e=F
 unfold entryF at hF
 simp -implicitDefEqProofs +contextual [-Bool.and_eq_false_imp,Bool.and_eq_false_iff,Entry.row]
 refine ACallK.of (isKey _) ?_
 simp -implicitDefEqProofs +contextual [-Bool.and_eq_false_imp,Bool.and_eq_false_iff]
 refine ⟨fun h=>?_,fun h1=>?_⟩
 ·rw [←hF,if_pos h]
 rw [if_neg (by simp [h1])] at hF
 refine ACallK.of (isMoment _) ?_
 simp -implicitDefEqProofs +contextual [-Bool.and_eq_false_imp,Bool.and_eq_false_iff]
 refine ACallGS.of (fun _=>index_within _ _ _) rfl ?_
 simp -implicitDefEqProofs +contextual [-Bool.and_eq_false_imp,Bool.and_eq_false_iff]
 refine ⟨fun h=>?_,fun h2 h3=>ACallGS.of (fun _=>isWord _ _) rfl ?_⟩
 ·rw [←hF,if_pos h]
 rw [if_neg (by simp [h2];exact fun a=>h3.resolve_left a)] at hF
 simp -implicitDefEqProofs +contextual [-Bool.and_eq_false_imp,Bool.and_eq_false_iff]
 refine ⟨fun h4 h5=>?_,fun h4=>ACallGS.of (fun _=>strings_Trim _ hexCs (by decide) (by decide)) rfl ?_⟩
 ·rw [←hF,if_pos ⟨h4,h5⟩]
 rw [if_neg (by rintro ⟨a,b⟩;rcases h4 with h4 | h4<;>simp_all)] at hF
 simp -implicitDefEqProofs +contextual [-Bool.and_eq_false_imp,Bool.and_eq_false_iff]
 have h16:((e.digest.length:Int)=16)↔(e.digest.length=16):=by omega
 refine ⟨fun h=>?_,fun h5 h6=>ACallK.of (isName _) ?_⟩
 ·rw [←hF,if_pos (ed.2 (by rcases h with h | h;exact .inl (fun a=>h (h16.2 a));exact .inr h))]
 rw [if_neg (fun h=>by rcases ed.1 h with h | h;exact h (h16.1 h5);exact h h6)] at hF
 simp -implicitDefEqProofs +contextual [-Bool.and_eq_false_imp,Bool.and_eq_false_iff]
 refine ⟨fun h=>?_,fun h7=>ACallK.of (index_within _ _ _) ?_⟩
 ·rw [←hF,if_pos h]
 rw [if_neg (by simp [h7])] at hF
 simp -implicitDefEqProofs +contextual [-Bool.and_eq_false_imp,Bool.and_eq_false_iff]
 refine ACallGS.of (fun _=>index_within _ _ _) rfl ?_
 simp -implicitDefEqProofs +contextual [-Bool.and_eq_false_imp,Bool.and_eq_false_iff]
 refine ⟨fun h=>?_,fun h8 h9=>?_⟩
 ·rw [←hF,if_pos h]
 ·rw [←hF,if_neg (by simp [h8,h9])]
def pairF:Option Entry→List Entry→Int
 | _,[]=>0
 | none,e::r=>if entryF e=0 then pairF (some e) r else entryF e
 | some q,e::r=>if entryF e=0 then (if 0<cmpE q e then 8 else if cmpE q e=0 then 7 else pairF (some e) r) else entryF e
def entriesF (l:List Entry):Int:=if 3000<l.length then 2 else pairF none l
def prev (l:List Entry) (i:Nat):Option Entry:=if i=0 then none else l[i-1]?
def PairOk (l:List Entry) (i:Nat):Prop:=i≤l.length∧pairF none l=pairF (prev l i) (l.drop i)
theorem PairOk.zero {l:List Entry}:PairOk l 0:=⟨Nat.zero_le _,rfl⟩
theorem PairOk.at {l:List Entry} {i:Nat} (h:PairOk l i) (hlt:i<l.length):pairF none l=pairF (prev l i) (l[i]::l.drop (i+1)):=by
 rw [h.2,List.drop_eq_getElem_cons hlt]
theorem prev_succ {l:List Entry} {i:Nat} (hlt:i<l.length):prev l (i+1)=some l[i]:=by
 simp [prev,hlt]
theorem PairOk.done {l:List Entry} {i:Nat} (h:PairOk l i) (hge:¬i<l.length):pairF none l=0:=by
 rw [h.2,List.drop_eq_nil_of_le (by omega)]
 cases prev l i<;>rfl
theorem index_checkEntries (l:List Entry):ACalls Tryz.prog 21 [.one (.list 9 (l.map Entry.row))] (.x (.one (.int .i64 (entriesF l)))):=by
 refine ACalls.of mixed (fn:=Tryz.f21) (by kernel_rfl) (by kernel_rfl) rfl (by kernel_rfl) (by simp [Tryz.f21]) (fun hok=>?_)
 simp -implicitDefEqProofs +contextual [-Bool.and_eq_false_imp,Bool.and_eq_false_iff]
 refine ⟨fun h=>?_,fun h=>?_⟩
 ·unfold entriesF;rw [if_pos (by omega)]
 have hv:entriesF l=pairF none l:=by unfold entriesF;rw [if_neg (by omega)]
 rw [hv]
 refine ALoopS.of Nat (fun i=>[(0,.x (.one (.list 9 (l.map Entry.row)))),(10,.x (.one (.list 9 (l.map Entry.row)))),(11,.x (.one (.int .i64 l.length))),(12,.x (.one (.int .i64 i)))]) (PairOk l) (fun i=>l.length-i) 0 PairOk.zero ?_ ?_
 ·simp
 intro i hi
 by_cases hlt:i<l.length
 ·have hat:=hi.at hlt
  simp -implicitDefEqProofs +contextual [-Bool.and_eq_false_imp,Bool.and_eq_false_iff,hlt,Entry.row]
  refine ACallK.of (index_checkEntry l[i]) ?_
  simp -implicitDefEqProofs +contextual [-Bool.and_eq_false_imp,Bool.and_eq_false_iff]
  refine ⟨fun hf=>?_,fun hf=>⟨fun hpos=>?_,fun hz=>?_⟩⟩
  ·rw [hat]
   unfold pairF
   cases prev l i<;>simp [hf]
  ·have hw:IntKind.i64.wrap ((i:Int)-1)=((i-1:Nat):Int):=by rw [wrapS _ (by omega)];omega
   have hlt1:i-1<l.length:=by omega
   have hp:prev l i=some l[i-1]:=by simp [prev,hlt1];omega
   rw [hp] at hat
   simp only [pairF,hf,if_true] at hat
   simp -implicitDefEqProofs +contextual [-Bool.and_eq_false_imp,Bool.and_eq_false_iff,hw,hlt1,Entry.row]
   refine ACallK.of (index_compare l[i-1] l[i]) ?_
   simp -implicitDefEqProofs +contextual [-Bool.and_eq_false_imp,Bool.and_eq_false_iff]
   refine ⟨fun h1=>?_,fun h1=>⟨fun h2=>?_,fun h2=>?_⟩⟩
   ·rw [hat,if_pos h1]
   ·rw [hat,if_neg (by omega),if_pos h2]
   ·rw [if_neg (by omega),if_neg h2] at hat
    refine Again.of (i+1) ⟨hlt,by rw [hat,prev_succ hlt]⟩ (by omega) ?_
    simp
    exact wrapS _ (by omega)
  ·subst hz
   refine Again.of 1 ⟨hlt,?_⟩ (by omega) ?_
   ·rw [hat,prev_succ hlt]
    simp [prev,pairF,hf]
   ·simp
    exact wrapS _ (by omega)
 ·simp -implicitDefEqProofs [hlt]
  exact hi.done hlt
section
variable (e:Entry)
@[simp] theorem row_length:e.row.length=9:=rfl
@[simp] theorem row_take:List.take 9 e.row=e.row:=rfl
@[simp] theorem row_acutZ (z:Option XV) (p:Prop):acutZ .one z p e.row=(p,.x (.one (.str e.key))):=rfl
@[simp] theorem row_tail:e.row.tail=[.int .i64 e.time,.int .i64 e.status,.str e.type,.str e.digest,.str e.file,.int .i64 e.lo,.int .i64 e.hi,.bool e.same]:=rfl
@[simp] theorem row_drop4:List.drop 4 e.row=[.str e.digest,.str e.file,.int .i64 e.lo,.int .i64 e.hi,.bool e.same]:=rfl
end
@[simp] theorem cutAt_map {α β:Type} (f:α→β) (l:List α) (a b:Int):cutAt (l.map f) a b=(cutAt l a b).map f:=by simp [cutAt]
@[simp] theorem cutAt_full {α:Type} (l:List α) (a:Int):cutAt l a (l.length:Int)=l.drop a.toNat:=by simp [cutAt]
@[simp] theorem cutAt_zero {α:Type} (l:List α) (b:Int):cutAt l 0 b=l.take b.toNat:=by simp [cutAt]
abbrev entries (l:List Entry):XV:=.one (.list 9 (l.map Entry.row))
def hasPre (s p:List UInt8):Bool:=p.isPrefixOf s
theorem stringslite_HasPrefix (s p:List UInt8):ACalls Tryz.prog 283 [.one (.str s),.one (.str p)] (.x (.one (.bool (hasPre s p)))):=by
 refine ACalls.of mixed (fn:=Tryz.f283) (by kernel_rfl) (by kernel_rfl) rfl (by kernel_rfl) (by simp [Tryz.f283]) (fun hok=>?_)
 simp -implicitDefEqProofs +contextual [-Bool.and_eq_false_imp,Bool.and_eq_false_iff]
 have h:(p.isPrefixOf s=true)↔p=s.take p.length:=by rw [List.isPrefixOf_iff_prefix,List.prefix_iff_eq_take]
 unfold hasPre
 rw [Bool.eq_iff_iff,h]
 simp
 constructor
 ·intro e
  refine ⟨?_,e.symm⟩
  have:=congrArg List.length e
  rw [List.length_take] at this
  omega
 ·intro e;exact e.2.symm
theorem strings_HasPrefix (s p:List UInt8):ACalls Tryz.prog 246 [.one (.str s),.one (.str p)] (.x (.one (.bool (hasPre s p)))):=by
 refine ACalls.of mixed (fn:=Tryz.f246) (by kernel_rfl) (by kernel_rfl) rfl (by kernel_rfl) (by simp [Tryz.f246]) (fun hok=>?_)
 simp -implicitDefEqProofs +contextual [-Bool.and_eq_false_imp,Bool.and_eq_false_iff]
 refine ACallK.of (stringslite_HasPrefix _ _) ?_
 simp -implicitDefEqProofs +contextual [-Bool.and_eq_false_imp,Bool.and_eq_false_iff]
end Go.Proofs.YtlcmnclbljedfaaGreatDoor
namespace Go.Proofs.YtlcmnclbljedfaaGreatDoor
open Go Go.Ab
variable [Amb]
set_option maxRecDepth 100000
set_option maxHeartbeats 4000000
theorem entriesF_short {l:List Entry} (h:entriesF l=0):l.length≤3000:=by
 unfold entriesF at h
 split at h
 ·cases h
 ·omega
end Go.Proofs.YtlcmnclbljedfaaGreatDoor
namespace Go.Proofs.YtlcmnclbljedfaaGreatDoor
open Go
set_option maxRecDepth 100000
def renMn171:Go.Shelf.Ren:=⟨fun x=>if x=129 then 167 else if x=171 then 80 else if x=243 then 136 else if x=246 then 230 else if x=283 then 274 else if x=284 then 275 else if x=285 then 276 else if x=286 then 277 else if x=317 then 316 else if x=318 then 317 else if x=319 then 318 else if x=320 then 319 else if x=337 then 332 else if x=338 then 333 else x,fun x=>if x=0 then 0 else if x=2 then 2 else if x=3 then 3 else if x=4 then 4 else if x=5 then 5 else if x=9 then 9 else if x=20 then 20 else if x=37 then 41 else if x=46 then 165 else if x=51 then 233 else if x=53 then 156 else if x=171 then 302 else if x=173 then 304 else if x=212 then 331 else if x=213 then 332 else if x=232 then 354 else if x=233 then 355 else x,fun x=>if x=17 then 1 else if x=18 then 6 else if x=19 then 7 else x⟩
theorem layMn171:Go.Proofs.LaysM.n171 Tryz.prog renMn171 where
 i0:=by kernel_rfl
 i2:=by kernel_rfl
 i3:=by kernel_rfl
 i4:=by kernel_rfl
 i5:=by kernel_rfl
 i9:=by kernel_rfl
 i20:=by kernel_rfl
 i37:=by kernel_rfl
 i46:=by kernel_rfl
 i51:=by kernel_rfl
 i53:=by kernel_rfl
 i171:=by kernel_rfl
 i173:=by kernel_rfl
 i212:=by kernel_rfl
 i232:=by kernel_rfl
 i233:=by kernel_rfl
 m17:=by kernel_rfl
 m18:=by kernel_rfl
 m19:=by kernel_rfl
 mixed:=by kernel_rfl
 f129:=Tryz.func167.trans (congrArg some (by kernel_rfl))
 f171:=Tryz.func80.trans (congrArg some (by kernel_rfl))
 f243:=Tryz.func136.trans (congrArg some (by kernel_rfl))
 f246:=Tryz.func230.trans (congrArg some (by kernel_rfl))
 f283:=Tryz.func274.trans (congrArg some (by kernel_rfl))
 f284:=Tryz.func275.trans (congrArg some (by kernel_rfl))
 f285:=Tryz.func276.trans (congrArg some (by kernel_rfl))
 f286:=Tryz.func277.trans (congrArg some (by kernel_rfl))
 f317:=Tryz.func316.trans (congrArg some (by kernel_rfl))
 f318:=Tryz.func317.trans (congrArg some (by kernel_rfl))
 f319:=Tryz.func318.trans (congrArg some (by kernel_rfl))
 f320:=Tryz.func319.trans (congrArg some (by kernel_rfl))
 f337:=Tryz.func332.trans (congrArg some (by kernel_rfl))
 f338:=Tryz.func333.trans (congrArg some (by kernel_rfl))
 t0:=Tryz.underlying0
 a0:=Tryz.isAgg0
 z0:=Tryz.sizeOf0
 v0:=Tryz.zeroValue0
 t2:=Tryz.underlying2
 a2:=Tryz.isAgg2
 z2:=Tryz.sizeOf2
 v2:=Tryz.zeroValue2
 t3:=Tryz.underlying3
 a3:=Tryz.isAgg3
 z3:=Tryz.sizeOf3
 v3:=Tryz.zeroValue3
 t4:=Tryz.underlying4
 a4:=Tryz.isAgg4
 z4:=Tryz.sizeOf4
 v4:=Tryz.zeroValue4
 t5:=Tryz.underlying5
 a5:=Tryz.isAgg5
 z5:=Tryz.sizeOf5
 v5:=Tryz.zeroValue5
 t9:=Tryz.underlying9
 a9:=Tryz.isAgg9
 z9:=Tryz.sizeOf9
 v9:=Tryz.zeroValue9
 t20:=Tryz.underlying20
 a20:=Tryz.isAgg20
 z20:=Tryz.sizeOf20
 v20:=Tryz.zeroValue20
 t37:=Tryz.underlying41
 a37:=Tryz.isAgg41
 z37:=Tryz.sizeOf41
 v37:=Tryz.zeroValue41
 t46:=Tryz.underlying165
 a46:=Tryz.isAgg165
 z46:=Tryz.sizeOf165
 v46:=Tryz.zeroValue165
 t51:=Tryz.underlying233
 a51:=Tryz.isAgg233
 z51:=Tryz.sizeOf233
 v51:=Tryz.zeroValue233
 t53:=Tryz.underlying156
 a53:=Tryz.isAgg156
 z53:=Tryz.sizeOf156
 v53:=Tryz.zeroValue156
 t171:=Tryz.underlying302
 a171:=Tryz.isAgg302
 z171:=Tryz.sizeOf302
 v171:=Tryz.zeroValue302
 t173:=Tryz.underlying304
 a173:=Tryz.isAgg304
 z173:=Tryz.sizeOf304
 v173:=Tryz.zeroValue304
 t212:=Tryz.underlying331
 a212:=Tryz.isAgg331
 z212:=Tryz.sizeOf331
 v212:=Tryz.zeroValue331
 t213:=Tryz.underlying332
 a213:=Tryz.isAgg332
 z213:=Tryz.sizeOf332
 t232:=Tryz.underlying354
 a232:=Tryz.isAgg354
 z232:=Tryz.sizeOf354
 v232:=Tryz.zeroValue354
 t233:=Tryz.underlying355
 a233:=Tryz.isAgg355
 z233:=Tryz.sizeOf355
 v233:=Tryz.zeroValue355
 g17:=by kernel_rfl
 g18:=by kernel_rfl
 g19:=by kernel_rfl
end Go.Proofs.YtlcmnclbljedfaaGreatDoor
namespace Go.Proofs.YtlcmnclbljedfaaGreatDoor
open Go Go.Ab
variable [Amb] [HasPow10 Tryz.prog]
set_option maxRecDepth 100000
set_option maxHeartbeats 4000000
def itoaL (n:Int):List UInt8:=Lib.itoa n
def I64 (n:Int):Prop:=-9223372036854775808≤n∧n≤9223372036854775807
theorem itoaL_len {n:Int} (h:I64 n):(itoaL n).length≤21:=Lib.itoa_length_le n h.1 h.2
theorem below_grow (w:World) (k:Nat) (os:Array Obj):RowKit.Below w.heap.size w (Sort.grow (w.drewN k) os):=
 ⟨rfl,rfl,rfl,by simp [Sort.grow,World.drewN],fun j hj=>by
  show (w.heap++os)[j]?=w.heap[j]?
  rw [Array.getElem?_append_left hj]⟩
theorem strconv_Itoa (n:Int) (h:I64 n):ACalls Tryz.prog 80 [.one (.int .i64 n)] (.x (.one (.str (itoaL n)))):=by
 refine ACalls.ofKitA [.int .i64 n] _ (callable_of Tryz.f80 (by kernel_rfl) (by kernel_rfl) rfl) rfl (fun _ _=>repR_str _ (Nat.le_trans (itoaL_len h) (by decide))) (fun _ w hw=>?_)
 refine (Any.strconv_Itoa layMn171 n h.1 h.2 w (HasPow10.tab w hw)).mono ?_
 rintro e w' ⟨rfl,k,os,rfl⟩
 exact ⟨rfl,below_grow _ _ _⟩
abbrev strs (l:List (List UInt8)):XV:=.one (.list 1 (l.map fun s=>[.str s]))
structure Right (e:Entry):Prop where
 key:e.key.length≤2000
 time:0≤e.time∧e.time≤253402300799
 status:e.status=0∨(100≤e.status∧e.status≤599)
 type:e.type.length≤40
 digest:e.digest.length=16
 file:e.file.length≤40
 lo:0≤e.lo∧e.lo≤500000
 hi:e.lo≤e.hi∧e.hi≤500000
end Go.Proofs.YtlcmnclbljedfaaGreatDoor
namespace Go.Proofs.YtlcmnclbljedfaaGreatDoor
open Go
def dig (n:Nat):UInt8:=UInt8.ofNat (48+n % 10)
def padD:Nat→Nat→List UInt8
 | 0,_=>[]
 | k+1,n=>padD k (n / 10)++[dig n]
@[simp] theorem padD_len:∀(k n:Nat),(padD k n).length=k
 | 0,_=>rfl
 | k+1,n=>by simp [padD,padD_len k]
theorem padD_zero:∀k,padD k 0=List.replicate k 48
 | 0=>rfl
 | k+1=>by
  simp only [padD,Nat.zero_div,padD_zero k,List.replicate_succ']
  rfl
theorem decDigits_pos (n:Nat):1≤(Lib.decDigits n).length:=by
 rw [Lib.decDigits];split<;>simp
theorem padD_eq:∀(k n:Nat),n<10 ^ k→1≤k→(Lib.decDigits n).length≤k∧padD k n=List.replicate (k-(Lib.decDigits n).length) 48++Lib.decDigits n
 | 0,n,_,h=>by omega
 | k+1,n,hn,_=>by
  by_cases h10:n<10
  ·have e:Lib.decDigits n=[UInt8.ofNat (48+n)]:=by rw [Lib.decDigits,dif_pos h10]
   rw [e]
   refine ⟨by simp,?_⟩
   simp only [padD,List.length_cons,List.length_nil,Nat.add_sub_cancel,Nat.zero_add]
   rw [show n / 10=0 by omega,padD_zero,dig,Nat.mod_eq_of_lt h10]
  ·have e:Lib.decDigits n=Lib.decDigits (n / 10)++[UInt8.ofNat (48+n % 10)]:=by rw [Lib.decDigits,dif_neg h10]
   have hk:1≤k:=by
    rcases Nat.eq_zero_or_pos k with h0 | h0
    ·subst h0;simp at hn;omega
    ·exact h0
   have hlt:n / 10<10 ^ k:=by rw [Nat.pow_succ] at hn;omega
   obtain ⟨h1,h2⟩:=padD_eq k (n / 10) hlt hk
   rw [e]
   refine ⟨by simp;omega,?_⟩
   simp only [padD,List.length_append,List.length_cons,List.length_nil,h2]
   rw [show k+1-((Lib.decDigits (n / 10)).length+(0+1))=k-(Lib.decDigits (n / 10)).length by omega,List.append_assoc]
   rfl
theorem padD_itoa (k n:Nat) (h:n<10 ^ k) (hk:1≤k):(Lib.itoa (n:Int)).length≤k∧List.replicate (k-(Lib.itoa (n:Int)).length) 48++Lib.itoa (n:Int)=padD k n:=by
 have e:Lib.itoa (n:Int)=Lib.decDigits n:=by unfold Lib.itoa;rw [if_neg (by omega)];rfl
 rw [e]
 obtain ⟨h1,h2⟩:=padD_eq k n h hk
 exact ⟨h1,h2.symm⟩
def isDig (b:UInt8):Bool:=decide (48≤b.toNat)&&decide (b.toNat≤57)
def decV (s:List UInt8):Nat:=s.foldl (fun a b=>a*10+(b.toNat-48)) 0
def lead0 (s:List UInt8):Bool:=decide (s.head?=some 48)&&decide (s.length≠1)
def numB (s:List UInt8):Bool:=s.all isDig&&(decide (1≤s.length)&&(decide (s.length≤12)&&!lead0 s))
def numV (s:List UInt8):Int:=if numB s=true then (decV s:Int) else 0
theorem decV_snoc (s:List UInt8) (b:UInt8):decV (s++[b])=decV s*10+(b.toNat-48):=by simp [decV,List.foldl_append]
theorem snoc_ex {α:Type} (l:List α) (h:l≠[]):∃t b,l=t++[b]:=⟨l.dropLast,l.getLast h,(List.dropLast_concat_getLast h).symm⟩
theorem snoc_ind {α:Type} {p:List α→Prop} (h0:p []) (h1:∀t b,p t→p (t++[b])) (l:List α):p l:=by
 generalize hn:l.length=n
 induction n generalizing l with
 | zero=>rw [List.eq_nil_of_length_eq_zero hn];exact h0
 | succ n ih =>
  obtain ⟨t,b,rfl⟩:=snoc_ex l (by rintro rfl;simp at hn)
  exact h1 t b (ih t (by simpa using hn))
theorem decFrom_eq:∀(s:List UInt8) (a:Nat),s.all isDig=true→Lib.decFrom a s=some (s.foldl (fun a b=>a*10+(b.toNat-48)) a)
 | [],a,_=>rfl
 | b::r,a,h=>by
  simp only [List.all_cons,Bool.and_eq_true,isDig,decide_eq_true_eq] at h
  have hd:Lib.digitVal b=some (b.toNat-48):=by unfold Lib.digitVal;rw [if_pos ⟨h.1.1,h.1.2⟩]
  unfold Lib.decFrom
  rw [hd]
  exact decFrom_eq r _ h.2
theorem atoi_eq {s:List UInt8} (h:s.all isDig=true) (h0:s≠[]):Lib.atoi s=some (decV s:Int):=by
 cases s with
 | nil=>exact absurd rfl h0
 | cons b r =>
  have hb:=h
  simp only [List.all_cons,Bool.and_eq_true,isDig,decide_eq_true_eq] at hb
  have h45:(b==45)=false:=by
   simp only [beq_eq_false_iff_ne,ne_eq];rintro rfl;exact absurd hb.1.1 (by decide)
  have h43:(b==43)=false:=by
   simp only [beq_eq_false_iff_ne,ne_eq];rintro rfl;exact absurd hb.1.1 (by decide)
  unfold Lib.atoi
  dsimp only
  rw [h45,h43]
  simp only [Bool.false_eq_true,if_false,Lib.decNat,List.isEmpty_cons]
  rw [decFrom_eq _ 0 h]
  rfl
theorem dig_of {b:UInt8} (h:isDig b=true):UInt8.ofNat (48+(b.toNat-48))=b∧b.toNat-48<10:=by
 simp only [isDig,Bool.and_eq_true,decide_eq_true_eq] at h
 refine ⟨?_,by omega⟩
 rw [show 48+(b.toNat-48)=b.toNat by omega]
 simp
theorem decDigits_decV (s:List UInt8):s.all isDig=true→s≠[]→lead0 s=false→Lib.decDigits (decV s)=s:=by
 induction s using snoc_ind with
 | h0=>intro _ h;exact absurd rfl h
 | h1 t b ih =>
  intro hall _ hl
  simp only [List.all_append,List.all_cons,List.all_nil,Bool.and_true,Bool.and_eq_true] at hall
  obtain ⟨hb1,hb2⟩:=dig_of hall.2
  rw [decV_snoc]
  cases t with
  | nil =>
   simp only [decV,List.foldl_nil,Nat.zero_mul,Nat.zero_add,List.nil_append]
   rw [Lib.decDigits,dif_pos hb2,hb1]
  | cons a r =>
   have hne:a≠48:=by
    rintro rfl
    simp [lead0] at hl
   have iht:=ih hall.1 (by simp) (by simp [lead0,hne])
   have hpos:0<decV (a::r):=by
    rcases Nat.eq_zero_or_pos (decV (a::r)) with h0 | h0
    ·rw [h0] at iht
     have:Lib.decDigits 0=[48]:=by rw [Lib.decDigits];rfl
     rw [this] at iht
     injection iht with e1 _
     exact absurd e1.symm hne
    ·exact h0
   rw [Lib.decDigits,dif_neg (by omega),show (decV (a::r)*10+(b.toNat-48)) / 10=decV (a::r) by omega,show (decV (a::r)*10+(b.toNat-48)) % 10=b.toNat-48 by omega,iht,hb1]
theorem decDigits_all (n:Nat):(Lib.decDigits n).all isDig=true∧decV (Lib.decDigits n)=n∧(n≠0→(Lib.decDigits n).head?≠some 48):=by
 have hd:∀m:Nat,m<10→isDig (UInt8.ofNat (48+m))=true∧(UInt8.ofNat (48+m)).toNat-48=m∧(m≠0→UInt8.ofNat (48+m)≠48):=by
  intro m hm
  have:∀m:Fin 10,isDig (UInt8.ofNat (48+m.val))=true∧(UInt8.ofNat (48+m.val)).toNat-48=m.val∧(m.val≠0→UInt8.ofNat (48+m.val)≠48):=by decide
  exact this ⟨m,hm⟩
 induction n using Nat.strongRecOn with
 | ind n ih =>
  by_cases h:n<10
  ·rw [Lib.decDigits,dif_pos h]
   obtain ⟨h1,h2,h3⟩:=hd n h
   exact ⟨by simp only [List.all_cons,List.all_nil,Bool.and_true];exact h1,by simp only [decV,List.foldl_cons,List.foldl_nil,Nat.zero_mul,Nat.zero_add];exact h2,fun hn=>by simp only [List.head?_cons,ne_eq,Option.some.injEq];exact h3 hn⟩
  ·rw [Lib.decDigits,dif_neg h]
   obtain ⟨i1,i2,i3⟩:=ih (n / 10) (by omega)
   obtain ⟨h1,h2,_⟩:=hd (n % 10) (by omega)
   refine ⟨by simp only [List.all_append,i1,List.all_cons,List.all_nil,Bool.and_true,Bool.true_and];exact h1,by rw [decV_snoc,i2,h2];omega,fun _=>?_⟩
   have:=i3 (by omega)
   cases hq:Lib.decDigits (n / 10) with
   | nil=>have:=decDigits_pos (n / 10);rw [hq] at this;simp at this
   | cons a r=>rw [hq] at this;simpa using this
theorem numB_itoa {n:Int} (h0:0≤n) (h1:n<1000000000000):numB (Lib.itoa n)=true∧numV (Lib.itoa n)=n:=by
 obtain ⟨m,rfl⟩:∃m:Nat,n=m:=⟨n.toNat,by omega⟩
 have e:Lib.itoa (m:Int)=Lib.decDigits m:=by unfold Lib.itoa;rw [if_neg (by omega)];rfl
 obtain ⟨d1,d2,d3⟩:=decDigits_all m
 have hb:numB (Lib.decDigits m)=true:=by
  unfold numB
  have hp:=decDigits_pos m
  have hle:=(padD_eq 12 m (by simp;omega) (by omega)).1
  have hl:lead0 (Lib.decDigits m)=false:=by
   unfold lead0
   by_cases hm:m=0
   ·subst hm
    have:Lib.decDigits 0=[48]:=by rw [Lib.decDigits];rfl
    rw [this];rfl
   ·simp [d3 hm]
  simp [d1,hp,hle,hl]
 rw [e]
 exact ⟨hb,by unfold numV;rw [if_pos hb,d2]⟩
theorem decV_lt:∀(s:List UInt8),s.all isDig=true→decV s<10 ^ s.length:=by
 intro s
 induction s using snoc_ind with
 | h0=>intro _;simp [decV]
 | h1 t b ih =>
  intro h
  simp only [List.all_append,List.all_cons,List.all_nil,Bool.and_true,Bool.and_eq_true] at h
  have h1:=ih h.1
  have h2:=(dig_of h.2).2
  rw [decV_snoc,List.length_append,List.length_singleton,Nat.pow_succ]
  omega
theorem numB_bound {s:List UInt8} (h:numB s=true):0≤numV s∧numV s<1000000000000∧Lib.itoa (numV s)=s∧s.all isDig=true∧1≤s.length∧s.length≤12:=by
 unfold numV
 rw [if_pos h]
 simp only [numB,Bool.and_eq_true,decide_eq_true_eq,Bool.not_eq_true'] at h
 obtain ⟨h1,h2,h3,h4⟩:=h
 have hlt:=decV_lt s h1
 have hp:10 ^ s.length≤10 ^ 12:=Nat.pow_le_pow_right (by omega) h3
 refine ⟨by omega,by omega,?_,h1,h2,h3⟩
 have e:Lib.itoa (decV s:Int)=Lib.decDigits (decV s):=by unfold Lib.itoa;rw [if_neg (by omega)];rfl
 rw [e,decDigits_decV s h1 (by rintro rfl;simp at h2) h4]
end Go.Proofs.YtlcmnclbljedfaaGreatDoor
namespace Go.Proofs.YtlcmnclbljedfaaGreatDoor
def leapI (y:Int):Bool:=decide (y % 4=0)&&(decide (y % 100≠0) || decide (y % 400=0))
def dY (y:Int):Int:=365*(y-1)+(y-1) / 4-(y-1) / 100+(y-1) / 400-719162
def yLen (y:Int):Int:=if leapI y=true then 366 else 365
def mLen (y m:Int):Int:=if m=4∨m=6∨m=9∨m=11 then 30 else if m=2 then (if leapI y=true then 29 else 28) else 31
def dMN (y:Int):Nat→Int
 | 0=>0
 | n+1=>if n=0 then 0 else dMN y n+mLen y n
def dM (y m:Int):Int:=dMN y m.toNat
theorem dY_step (y:Int):dY (y+1)=dY y+yLen y:=by
 unfold dY yLen leapI
 simp only [Bool.and_eq_true,Bool.or_eq_true,decide_eq_true_eq]
 split<;>omega
theorem yLen_pos (y:Int):365≤yLen y∧yLen y≤366:=by unfold yLen;split<;>omega
theorem dM_one (y:Int):dM y 1=0:=rfl
theorem dM_step (y m:Int) (h:1≤m):dM y (m+1)=dM y m+mLen y m:=by
 unfold dM
 obtain ⟨n,rfl⟩:∃n:Nat,m=(n:Int)+1:=⟨(m-1).toNat,by omega⟩
 have e1:((n:Int)+1+1).toNat=n+2:=by omega
 have e2:((n:Int)+1).toNat=n+1:=by omega
 rw [e1,e2]
 show (if n+1=0 then 0 else dMN y (n+1)+mLen y ((n+1:Nat):Int))=_
 rw [if_neg (by omega)]
 congr 1
theorem mLen_pos (y m:Int):28≤mLen y m∧mLen y m≤31:=by unfold mLen;repeat' split<;>omega
theorem dM_year (y:Int):dM y 13=yLen y:=by
 have h:=fun m h=>dM_step y m h
 have h1:=h 1 (by omega);have h2:=h 2 (by omega);have h3:=h 3 (by omega);have h4:=h 4 (by omega);have h5:=h 5 (by omega);have h6:=h 6 (by omega)
 have h7:=h 7 (by omega);have h8:=h 8 (by omega);have h9:=h 9 (by omega);have h10:=h 10 (by omega);have h11:=h 11 (by omega);have h12:=h 12 (by omega)
 simp only [mLen,Int.reduceAdd] at h1 h2 h3 h4 h5 h6 h7 h8 h9 h10 h11 h12
 rw [dM_one] at h1
 unfold yLen
 cases hl:leapI y<;>simp [hl] at*<;> omega
theorem dM_mono (y:Int) {a b:Int} (ha:1≤a) (h:a≤b):dM y a≤dM y b:=by
 obtain ⟨n,rfl⟩:∃n:Nat,b=a+n:=⟨(b-a).toNat,by omega⟩
 clear h
 induction n with
 | zero=>simp
 | succ n ih =>
  have:=dM_step y (a+n) (by omega)
  have:=mLen_pos y (a+n)
  rw [show a+((n+1:Nat):Int)=a+n+1 by omega]
  omega
theorem dY_mono {a b:Int} (h:a≤b):dY a≤dY b:=by
 obtain ⟨n,rfl⟩:∃n:Nat,b=a+n:=⟨(b-a).toNat,by omega⟩
 clear h
 induction n with
 | zero=>simp
 | succ n ih =>
  have:=dY_step (a+n)
  have:=yLen_pos (a+n)
  rw [show a+((n+1:Nat):Int)=a+n+1 by omega]
  omega
structure IsCiv (day y m d:Int):Prop where
 y0:1970≤y
 lo:dY y≤day
 hi:day<dY (y+1)
 m0:1≤m
 m1:m≤12
 ml:dY y+dM y m≤day
 mh:day<dY y+dM y (m+1)
 dd:d=day-dY y-dM y m+1
theorem IsCiv.d {day y m d:Int} (h:IsCiv day y m d):1≤d∧d≤mLen y m:=by
 have:=dM_step y m h.m0;have:=h.ml;have:=h.mh;have:=h.dd
 omega
def yearN:Nat→Int
 | 0=>1970
 | n+1=>if ((n+1:Nat):Int)<dY (yearN n+1) then yearN n else yearN n+1
theorem yearN_ok (n:Nat):1970≤yearN n∧dY (yearN n)≤n∧(n:Int)<dY (yearN n+1):=by
 induction n with
 | zero=>exact ⟨by decide,by decide,by decide⟩
 | succ n ih =>
  obtain ⟨h0,h1,h2⟩:=ih
  unfold yearN
  split
  ·rename_i h
   exact ⟨h0,by omega,h⟩
  ·have:=dY_step (yearN n+1)
   have:=yLen_pos (yearN n+1)
   exact ⟨by omega,by omega,by omega⟩
theorem civ_month (y r:Int) (h0:0≤r) (h1:r<yLen y):∃m,1≤m∧m≤12∧dM y m≤r∧r<dM y (m+1):=by
 have key:∀n:Nat,n≤11→(∃m,1≤m∧m≤12∧dM y m≤r∧r<dM y (m+1))∨dM y ((n:Int)+2)≤r:=by
  intro n
  induction n with
  | zero =>
   intro _
   by_cases h:r<dM y 2
   ·exact .inl ⟨1,by omega,by omega,by rw [dM_one];exact h0,h⟩
   ·exact .inr (by simpa using h)
  | succ n ih =>
   intro hn
   rcases ih (by omega) with h | h
   ·exact .inl h
   ·by_cases h':r<dM y ((n:Int)+2+1)
    ·exact .inl ⟨(n:Int)+2,by omega,by omega,h,h'⟩
    ·refine .inr ?_
     rw [show ((n+1:Nat):Int)+2=(n:Int)+2+1 by omega]
     omega
 rcases key 11 (by omega) with h | h
 ·exact h
 ·have:=dM_year y
  have e:dM y (((11:Nat):Int)+2)=dM y 13:=rfl
  omega
def yearOf (day:Int):Int:=yearN day.toNat
def monthOf (day:Int):Int:=((((List.range 12).find? (fun (k:Nat)=>decide (day<dY (yearOf day)+dM (yearOf day) ((k:Int)+2)))).getD 0:Nat):Int)+1
def dayOf (day:Int):Int:=day-dY (yearOf day)-dM (yearOf day) (monthOf day)+1
theorem civ_ok (day:Int) (h:0≤day):IsCiv day (yearOf day) (monthOf day) (dayOf day):=by
 have hy:=yearN_ok day.toNat
 rw [show ((day.toNat:Nat):Int)=day by omega] at hy
 obtain ⟨h0,h1,h2⟩:=hy
 have hs:=dY_step (yearN day.toNat)
 obtain ⟨m,m0,m1,m2,m3⟩:=civ_month (yearN day.toNat) (day-dY (yearN day.toNat)) (by omega) (by omega)
 have hm:monthOf day=m:=by
  have hfind:(List.range 12).find? (fun (k:Nat)=>decide (day<dY (yearOf day)+dM (yearOf day) ((k:Int)+2)))=some (m-1).toNat:=by
   rw [List.find?_eq_some_iff_getElem]
   refine ⟨?_,(m-1).toNat,by simp;omega,by simp,fun j hj=>?_⟩
   ·have e2:(((m-1).toNat:Nat):Int)+2=m+1:=by omega
    have:day<dY (yearOf day)+dM (yearOf day) ((((m-1).toNat:Nat):Int)+2):=by rw [e2];simp only [yearOf];omega
    simpa using this
   ·have hj':(j:Int)+2≤m:=by omega
    have:=dM_mono (yearN day.toNat) (a:=(j:Int)+2) (b:=m) (by omega) hj'
    simp only [List.getElem_range,yearOf]
    simp;omega
  unfold monthOf
  rw [hfind]
  simp only [Option.getD_some]
  omega
 unfold dayOf
 rw [hm]
 exact ⟨h0,h1,h2,m0,m1,by unfold yearOf;omega,by unfold yearOf;omega,rfl⟩
theorem IsCiv.top {day y m d:Int} (h:IsCiv day y m d) (hd:day≤2932896):y≤9999:=by
 refine Classical.byContradiction fun hn=>?_
 have h1:=dY_mono (a:=10000) (b:=y) (by omega)
 have h2:dY 10000=2932897:=by decide
 have:=h.lo
 omega
end Go.Proofs.YtlcmnclbljedfaaGreatDoor
namespace Go.Proofs.YtlcmnclbljedfaaGreatDoor
open Go
set_option maxRecDepth 100000
def renn105:Go.Shelf.Ren:=⟨fun x=>if x=99 then 246 else if x=105 then 273 else if x=165 then 312 else if x=166 then 313 else if x=169 then 315 else if x=170 then 314 else if x=206 then 283 else if x=212 then 311 else if x=240 then 330 else if x=241 then 331 else if x=263 then 328 else if x=264 then 329 else if x=276 then 337 else if x=277 then 338 else x,fun x=>if x=0 then 0 else if x=3 then 3 else if x=4 then 4 else if x=5 then 5 else if x=9 then 9 else if x=20 then 20 else if x=37 then 41 else if x=46 then 165 else if x=51 then 233 else if x=53 then 156 else if x=70 then 324 else if x=72 then 326 else if x=75 then 240 else if x=76 then 241 else if x=80 then 329 else if x=109 then 322 else if x=127 then 345 else if x=146 then 320 else if x=148 then 343 else if x=164 then 351 else x,fun x=>x⟩
theorem layn105:Go.Proofs.Lays.n105 Tryz.prog renn105 where
 mixed:=by kernel_rfl
 f99:=Tryz.func246.trans (congrArg some (by kernel_rfl))
 f105:=Tryz.func273.trans (congrArg some (by kernel_rfl))
 f165:=Tryz.func312.trans (congrArg some (by kernel_rfl))
 f166:=Tryz.func313.trans (congrArg some (by kernel_rfl))
 f169:=Tryz.func315.trans (congrArg some (by kernel_rfl))
 f170:=Tryz.func314.trans (congrArg some (by kernel_rfl))
 f206:=Tryz.func283.trans (congrArg some (by kernel_rfl))
 f212:=Tryz.func311.trans (congrArg some (by kernel_rfl))
 f240:=Tryz.func330.trans (congrArg some (by kernel_rfl))
 f241:=Tryz.func331.trans (congrArg some (by kernel_rfl))
 f263:=Tryz.func328.trans (congrArg some (by kernel_rfl))
 f264:=Tryz.func329.trans (congrArg some (by kernel_rfl))
 f276:=Tryz.func337.trans (congrArg some (by kernel_rfl))
 f277:=Tryz.func338.trans (congrArg some (by kernel_rfl))
 t0:=Tryz.underlying0
 a0:=Tryz.isAgg0
 z0:=Tryz.sizeOf0
 v0:=Tryz.zeroValue0
 t3:=Tryz.underlying3
 a3:=Tryz.isAgg3
 z3:=Tryz.sizeOf3
 v3:=Tryz.zeroValue3
 t4:=Tryz.underlying4
 a4:=Tryz.isAgg4
 z4:=Tryz.sizeOf4
 v4:=Tryz.zeroValue4
 t5:=Tryz.underlying5
 a5:=Tryz.isAgg5
 z5:=Tryz.sizeOf5
 v5:=Tryz.zeroValue5
 t9:=Tryz.underlying9
 a9:=Tryz.isAgg9
 z9:=Tryz.sizeOf9
 v9:=Tryz.zeroValue9
 t20:=Tryz.underlying20
 a20:=Tryz.isAgg20
 z20:=Tryz.sizeOf20
 v20:=Tryz.zeroValue20
 t37:=Tryz.underlying41
 a37:=Tryz.isAgg41
 z37:=Tryz.sizeOf41
 v37:=Tryz.zeroValue41
 t46:=Tryz.underlying165
 a46:=Tryz.isAgg165
 z46:=Tryz.sizeOf165
 v46:=Tryz.zeroValue165
 t51:=Tryz.underlying233
 a51:=Tryz.isAgg233
 z51:=Tryz.sizeOf233
 v51:=Tryz.zeroValue233
 t53:=Tryz.underlying156
 a53:=Tryz.isAgg156
 z53:=Tryz.sizeOf156
 v53:=Tryz.zeroValue156
 t70:=Tryz.underlying324
 a70:=Tryz.isAgg324
 z70:=Tryz.sizeOf324
 v70:=Tryz.zeroValue324
 t72:=Tryz.underlying326
 a72:=Tryz.isAgg326
 z72:=Tryz.sizeOf326
 v72:=Tryz.zeroValue326
 t75:=Tryz.underlying240
 a75:=Tryz.isAgg240
 z75:=Tryz.sizeOf240
 v75:=Tryz.zeroValue240
 t76:=Tryz.underlying241
 a76:=Tryz.isAgg241
 z76:=Tryz.sizeOf241
 v76:=Tryz.zeroValue241
 t109:=Tryz.underlying322
 a109:=Tryz.isAgg322
 z109:=Tryz.sizeOf322
 v109:=Tryz.zeroValue322
 t127:=Tryz.underlying345
 a127:=Tryz.isAgg345
 z127:=Tryz.sizeOf345
 v127:=Tryz.zeroValue345
 t146:=Tryz.underlying320
 a146:=Tryz.isAgg320
 z146:=Tryz.sizeOf320
 v146:=Tryz.zeroValue320
 t148:=Tryz.underlying343
 a148:=Tryz.isAgg343
 z148:=Tryz.sizeOf343
 v148:=Tryz.zeroValue343
 t164:=Tryz.underlying351
 a164:=Tryz.isAgg351
 z164:=Tryz.sizeOf351
 v164:=Tryz.zeroValue351
theorem layBuilderExtra105:Go.Proofs.Builder.Extra Tryz.prog renn105 where
 t5:=Tryz.underlying5
 a5:=Tryz.isAgg5
 z5:=Tryz.sizeOf5
 v5:=Tryz.zeroValue5
 infoByte:=by kernel_rfl
 cellsByte:=by kernel_rfl
 sizeByte:=by kernel_rfl
 neB5:=by decide
 sizeBuilder:=by kernel_rfl
 liesBuilder:=by kernel_rfl
end Go.Proofs.YtlcmnclbljedfaaGreatDoor
namespace Go.Proofs.YtlcmnclbljedfaaGreatDoor
open Go Go.Ab
variable [Amb] [HasPow10 Tryz.prog]
set_option maxRecDepth 100000
set_option maxHeartbeats 4000000
theorem repeat_eq (b:UInt8):∀n:Nat,Lib.repeatL [b] n=List.replicate n b
 | 0=>rfl
 | n+1=>by
  rw [Lib.repeatL,repeat_eq b n];rfl
theorem strings_Repeat (b:UInt8) (n:Nat) (h:n≤1000000):ACalls Tryz.prog 273 [.one (.str [b]),.one (.int .i64 n)] (.x (.one (.str (List.replicate n b)))):=by
 refine ACalls.ofKit [.string ⟨#[b]⟩,.int .i64 n] _ (callable_of Tryz.f273 (by kernel_rfl) (by kernel_rfl) rfl) rfl (fun _ _=>repR_str _ (by simp;unfold maxLen;omega)) (fun _ w=>?_)
 refine (Any.strings_Repeat layn105 layBuilderExtra105 ⟨#[b]⟩ n w (by omega) (by show 1*n≤_;omega)).mono ?_
 rintro e w' ⟨rfl,hb⟩
 refine ⟨?_,hb⟩
 rw [show (⟨#[b]⟩:ByteArray).data.toList=[b] from rfl,repeat_eq]
theorem message_Padded (n k:Nat) (hn:n<10 ^ k) (hk:1≤k) (hk2:k≤18):ACalls Tryz.prog 228 [.one (.int .i64 n),.one (.int .i64 k)] (.x (.one (.str (padD k n)))):=by
 refine ACalls.of mixed (fn:=Tryz.f228) (by kernel_rfl) (by kernel_rfl) rfl (by kernel_rfl) (by simp [Tryz.f228]) (fun hok=>?_)
 obtain ⟨h1,h2⟩:=padD_itoa k n hn hk
 have hp:10 ^ k≤10 ^ 18:=Nat.pow_le_pow_right (by omega) hk2
 have h64:I64 (n:Int):=by unfold I64;omega
 rw [←h2]
 simp -implicitDefEqProofs
 refine ACallK.of (strconv_Itoa _ h64) ?_
 obtain ⟨s,es⟩:∃s,s=itoaL (n:Int):=⟨_,rfl⟩
 rw [show Lib.itoa (n:Int)=s from es.symm] at h1 ⊢
 rw [←es]
 have w1:IntKind.i64.wrap ((k:Int)-s.length)=((k-s.length:Nat):Int):=by rw [wrapS _ (by omega)];omega
 have w2:max 0 ((k-s.length:Nat):Int)=((k-s.length:Nat):Int):=by omega
 simp -implicitDefEqProofs [w1,w2]
 refine ACallK.of (strings_Repeat 48 _ (by omega)) ?_
 have m1:k-s.length+s.length≤maxLen:=by unfold maxLen;omega
 simp -implicitDefEqProofs [m1]
theorem mLen_leap (y:Int):(y % 4=0∧(y % 100≠0∨y % 400=0))↔leapI y=true:=by
 unfold leapI;simp
theorem tmod_pos {a:Int} (b:Int) (h:0≤a):a.tmod b=a % b:=Int.tmod_eq_emod_of_nonneg h
theorem tdiv_pos {a:Int} (b:Int) (h:0≤a):a.tdiv b=a / b:=Int.tdiv_eq_ediv_of_nonneg h
theorem message_monthLong (y m:Int) (hy:0≤y∧y≤100000):ACalls Tryz.prog 301 [.one (.int .i64 y),.one (.int .i64 m)] (.x (.one (.int .i64 (mLen y m)))):=by
 refine ACalls.of mixed (fn:=Tryz.f301) (by kernel_rfl) (by kernel_rfl) rfl (by kernel_rfl) (by simp [Tryz.f301]) (fun hok=>?_)
 have t1:y.tmod 4=y % 4:=tmod_pos _ hy.1
 have t2:y.tmod 100=y % 100:=tmod_pos _ hy.1
 have t3:y.tmod 400=y % 400:=tmod_pos _ hy.1
 have w1:IntKind.i64.wrap (y % 4)=y % 4:=wrapS _ (by omega)
 have w2:IntKind.i64.wrap (y % 100)=y % 100:=wrapS _ (by omega)
 have w3:IntKind.i64.wrap (y % 400)=y % 400:=wrapS _ (by omega)
 have e:mLen y m=if m=4∨m=6∨m=9∨m=11 then 30 else if m=2 then (if leapI y=true then 29 else 28) else 31:=rfl
 generalize mLen y m=r at e ⊢
 by_cases h4:m=4
 ·subst h4;rw [if_pos (.inl rfl)] at e;subst e;simp -implicitDefEqProofs
 by_cases h6:m=6
 ·subst h6;rw [if_pos (.inr (.inl rfl))] at e;subst e;simp -implicitDefEqProofs
 by_cases h9:m=9
 ·subst h9;rw [if_pos (.inr (.inr (.inl rfl)))] at e;subst e;simp -implicitDefEqProofs
 by_cases h11:m=11
 ·subst h11;rw [if_pos (.inr (.inr (.inr rfl)))] at e;subst e;simp -implicitDefEqProofs
 rw [if_neg (by simp [h4,h6,h9,h11])] at e
 by_cases h2:m=2
 ·subst h2
  rw [if_pos rfl] at e
  have hl:=mLen_leap y
  cases hb:leapI y with
  | true =>
   obtain ⟨l1,l2⟩:=hl.2 hb
   rw [if_pos hb] at e
   subst e
   by_cases l3:y % 100=0
   ·have l4:=l2.resolve_left (fun h=>h l3)
    simp -implicitDefEqProofs [t1,t2,t3,w1,w2,w3,l1,l3,l4]
   ·simp -implicitDefEqProofs [t1,t2,t3,w1,w2,w3,l1,l3]
  | false =>
   rw [if_neg (by simp [hb])] at e
   subst e
   by_cases l1:y % 4=0
   ·have l3:y % 100=0:=Classical.byContradiction fun h=>by rw [hl.1 ⟨l1,.inl h⟩] at hb;cases hb
    have l4:¬y % 400=0:=fun h=>by rw [hl.1 ⟨l1,.inr h⟩] at hb;cases hb
    simp -implicitDefEqProofs [t1,t2,t3,w1,w2,w3,l1,l3,l4]
   ·simp -implicitDefEqProofs [t1,t2,t3,w1,w2,w3,l1]
 ·rw [if_neg h2] at e
  subst e
  simp -implicitDefEqProofs [h4,h6,h9,h11,h2]
theorem message_days (y m:Int) (hy:1≤y∧y≤100000) (hm:1≤m∧m≤100):ACalls Tryz.prog 253 [.one (.int .i64 y),.one (.int .i64 m)] (.x (.one (.int .i64 (dY y+dM y m)))):=by
 refine ACalls.of mixed (fn:=Tryz.f253) (by kernel_rfl) (by kernel_rfl) rfl (by kernel_rfl) (by simp [Tryz.f253]) (fun hok=>?_)
 have t1:(y-1).tdiv 4=(y-1) / 4:=tdiv_pos _ (by omega)
 have t2:(y-1).tdiv 100=(y-1) / 100:=tdiv_pos _ (by omega)
 have t3:(y-1).tdiv 400=(y-1) / 400:=tdiv_pos _ (by omega)
 have w0:IntKind.i64.wrap (y-1)=y-1:=wrapS _ (by omega)
 have w1:IntKind.i64.wrap (365*(y-1))=365*(y-1):=wrapS _ (by omega)
 have w2:IntKind.i64.wrap ((y-1) / 4)=(y-1) / 4:=wrapS _ (by omega)
 have w3:IntKind.i64.wrap ((y-1) / 100)=(y-1) / 100:=wrapS _ (by omega)
 have w4:IntKind.i64.wrap ((y-1) / 400)=(y-1) / 400:=wrapS _ (by omega)
 have w5:IntKind.i64.wrap (365*(y-1)+(y-1) / 4)=365*(y-1)+(y-1) / 4:=wrapS _ (by omega)
 have w6:IntKind.i64.wrap (365*(y-1)+(y-1) / 4-(y-1) / 100)=365*(y-1)+(y-1) / 4-(y-1) / 100:=wrapS _ (by omega)
 have w7:IntKind.i64.wrap (365*(y-1)+(y-1) / 4-(y-1) / 100+(y-1) / 400)=365*(y-1)+(y-1) / 4-(y-1) / 100+(y-1) / 400:=wrapS _ (by omega)
 have w8:IntKind.i64.wrap (365*(y-1)+(y-1) / 4-(y-1) / 100+(y-1) / 400-719162)=dY y:=wrapS _ (by omega)
 have hdb:-800000≤dY y∧dY y≤40000000:=by unfold dY;omega
 simp -implicitDefEqProofs [t1,t2,t3,w0,w1,w2,w3,w4,w5,w6,w7,w8]
 refine ALoopS.of Nat (fun k=>[(0,.x (.one (.int .i64 y))),(1,.x (.one (.int .i64 m))),(6,.x (.one (.int .i64 (dY y+dM y (k+1))))),(7,.x (.one (.int .i64 ((k:Int)+1))))]) (fun k=>(k:Int)+1≤m) (fun k=>m.toNat-k) 0 (by omega) ?_ ?_
 ·simp [dM,dMN]
 intro k hk
 by_cases hlt:(k:Int)+1<m
 ·have hst:=dM_step y (k+1) (by omega)
  have hb:=mLen_pos y (k+1)
  have hmono:=dM_mono y (a:=1) (b:=(k:Int)+1) (by omega) (by omega)
  have hup:dM y ((k:Int)+1)≤31*k:=by
   clear hlt hst hb hmono hk
   induction k with
   | zero=>simp [dM,dMN]
   | succ k ih =>
    have:=dM_step y (k+1) (by omega)
    have:=mLen_pos y (k+1)
    rw [show ((k+1:Nat):Int)+1=(k:Int)+1+1 by omega]
    omega
  rw [dM_one] at hmono
  have w9:IntKind.i64.wrap (dY y+dM y ((k:Int)+1)+mLen y ((k:Int)+1))=dY y+dM y ((k:Int)+1+1):=by rw [wrapS _ (by omega)];omega
  have w10:IntKind.i64.wrap ((k:Int)+1+1)=(k:Int)+1+1:=wrapS _ (by omega)
  simp -implicitDefEqProofs [hlt]
  refine ACallK.of (message_monthLong y (k+1) (by omega)) ?_
  simp -implicitDefEqProofs [w9,w10]
  refine Again.of (k+1) (by omega) (by omega) ?_
  simp
 ·have e:(k:Int)+1=m:=by omega
  simp -implicitDefEqProofs [hlt,e]
def dateRow (t:Int):List CV:=[.int .i64 (yearOf (t / 86400)),.int .i64 (monthOf (t / 86400)),.int .i64 (dayOf (t / 86400)),.int .i64 (t % 86400 / 3600),.int .i64 (t % 86400 / 60 % 60),.int .i64 (t % 86400 % 60)]
structure DateOk (t:Int):Prop where
 y:1970≤yearOf (t / 86400)∧yearOf (t / 86400)≤9999
 m:1≤monthOf (t / 86400)∧monthOf (t / 86400)≤12
 d:1≤dayOf (t / 86400)∧dayOf (t / 86400)≤31
theorem moment_bounds {t:Int} (h:momentB t=true):0≤t∧t≤253402300799:=by simpa [momentB,inB] using h
theorem date_ok {t:Int} (h:momentB t=true):DateOk t:=by
 have hb:=moment_bounds h
 have hc:=civ_ok (t / 86400) (by omega)
 have:=hc.d
 have:=mLen_pos (yearOf (t / 86400)) (monthOf (t / 86400))
 exact ⟨⟨hc.y0,hc.top (by omega)⟩,⟨hc.m0,hc.m1⟩,by omega⟩
theorem dY_start (n:Nat):dY (1970+n)≤366*n:=by
 induction n with
 | zero=>decide
 | succ n ih =>
  have:=dY_step (1970+n)
  have:=yLen_pos (1970+n)
  rw [show (1970:Int)+((n+1:Nat):Int)=1970+n+1 by omega]
  omega
theorem year_start {d:Int} (h:0≤d):1970+d / 366≤yearOf d:=by
 have hc:=civ_ok d h
 have h1:=dY_start (d / 366).toNat
 rw [show (((d / 366).toNat:Nat):Int)=d / 366 by omega] at h1
 refine Classical.byContradiction fun hn=>?_
 have:=dY_mono (a:=yearOf d+1) (b:=1970+d / 366) (by omega)
 have:=hc.hi
 omega
theorem message_DateOf (t:Int) (h:momentB t=true):ACalls Tryz.prog 226 [.one (.int .i64 t)] (.x (.agg (dateRow t))):=by
 refine ACalls.of mixed (fn:=Tryz.f226) (by kernel_rfl) (by kernel_rfl) rfl (by kernel_rfl) (by simp [Tryz.f226]) (fun hok=>?_)
 have hb:=moment_bounds h
 have hok:=date_ok h
 have hc:=civ_ok (t / 86400) (by omega)
 have hys:=year_start (d:=t / 86400) (by omega)
 unfold dateRow
 obtain ⟨day,ed⟩:∃day,day=t / 86400:=⟨_,rfl⟩
 obtain ⟨rest,er⟩:∃rest,rest=t % 86400:=⟨_,rfl⟩
 obtain ⟨Y,eY⟩:∃Y,Y=yearOf (t / 86400):=⟨_,rfl⟩
 obtain ⟨M,eM⟩:∃M,M=monthOf (t / 86400):=⟨_,rfl⟩
 obtain ⟨D,eD⟩:∃D,D=dayOf (t / 86400):=⟨_,rfl⟩
 obtain ⟨⟨y1,y2⟩,⟨m1,m2⟩,⟨d1,d2⟩⟩:=hok
 rw [←ed] at hys hc eY eM eD y1 y2 m1 m2 d1 d2
 rw [←eY] at hys hc y1 y2
 rw [←eM] at hc m1 m2
 rw [←eD] at hc d1 d2
 rw [←ed,←eY,←eM,←eD,←er]
 clear eY eM eD
 have t1:t.tdiv 86400=day:=by rw [tdiv_pos _ hb.1,ed]
 have t2:t.tmod 86400=rest:=by rw [tmod_pos _ hb.1,er]
 have r0:0≤rest∧rest<86400:=by omega
 have d0:0≤day∧day≤2932896:=by omega
 have t3:day.tdiv 366=day / 366:=tdiv_pos _ d0.1
 have t4:rest.tdiv 3600=rest / 3600:=tdiv_pos _ r0.1
 have t5:rest.tdiv 60=rest / 60:=tdiv_pos _ r0.1
 have t6:(rest / 60).tmod 60=rest / 60 % 60:=tmod_pos _ (by omega)
 have t7:rest.tmod 60=rest % 60:=tmod_pos _ r0.1
 have w1:IntKind.i64.wrap day=day:=wrapS _ (by omega)
 have w2:IntKind.i64.wrap rest=rest:=wrapS _ (by omega)
 have w3:IntKind.i64.wrap (day / 366)=day / 366:=wrapS _ (by omega)
 have w4:IntKind.i64.wrap (1970+day / 366)=1970+day / 366:=wrapS _ (by omega)
 have w5:IntKind.i64.wrap (rest / 3600)=rest / 3600:=wrapS _ (by omega)
 have w6:IntKind.i64.wrap (rest / 60)=rest / 60:=wrapS _ (by omega)
 have w7:IntKind.i64.wrap (rest / 60 % 60)=rest / 60 % 60:=wrapS _ (by omega)
 have w8:IntKind.i64.wrap (rest % 60)=rest % 60:=wrapS _ (by omega)
 simp -implicitDefEqProofs [t1,t2,t3,t4,t5,t6,t7,w1,w2,w3,w4,w5,w6,w7,w8]
 refine ALoopS.of Int (fun y=>[(2,.box [.int .i64 0,.int .i64 0,.int .i64 0,.int .i64 0,.int .i64 0,.int .i64 0]),(3,.x (.one (.int .i64 day))),(5,.box [.int .i64 y,.int .i64 1,.int .i64 0,.int .i64 (rest / 3600),.int .i64 (rest / 60 % 60),.int .i64 (rest % 60)])]) (fun y=>1970≤y∧y≤Y) (fun y=>(Y-y).toNat) (1970+day / 366) ⟨by omega,hys⟩ ?_ ?_
 ·simp
 rintro y ⟨g1,g2⟩
 have v1:IntKind.i64.wrap (y+1)=y+1:=wrapS _ (by omega)
 have hd1:dY (y+1)+dM (y+1) 1=dY (y+1):=by rw [dM_one,Int.add_zero]
 simp -implicitDefEqProofs [v1]
 refine ACallK.of (message_days (y+1) 1 (by omega) (by omega)) ?_
 rw [hd1]
 by_cases hlt:y<Y
 ·have:=dY_mono (a:=y+1) (b:=Y) (by omega)
  have:=hc.lo
  have hle:dY (y+1)≤day:=by omega
  simp -implicitDefEqProofs [hle,v1]
  refine Again.of (y+1) ⟨by omega,by omega⟩ (by omega) ?_
  simp
 have hyY:y=Y:=by omega
 subst hyY
 have hle:¬dY (y+1)≤day:=by have:=hc.hi;omega
 simp -implicitDefEqProofs [hle]
 clear hlt hle hd1 g1 g2 hys
 refine ALoopS.of Int (fun m=>[(2,.box [.int .i64 0,.int .i64 0,.int .i64 0,.int .i64 0,.int .i64 0,.int .i64 0]),(3,.x (.one (.int .i64 day))),(5,.box [.int .i64 y,.int .i64 m,.int .i64 0,.int .i64 (rest / 3600),.int .i64 (rest / 60 % 60),.int .i64 (rest % 60)])]) (fun m=>1≤m∧m≤M) (fun m=>(M-m).toNat) 1 ⟨by omega,m1⟩ ?_ ?_
 ·simp
 rintro m ⟨g1,g2⟩
 have v2:IntKind.i64.wrap (m+1)=m+1:=wrapS _ (by omega)
 by_cases hlt:m<M
 ·have h12:m<12:=by omega
  have:=dM_mono y (a:=m+1) (b:=M) (by omega) (by omega)
  have:=hc.ml
  have hle:dY y+dM y (m+1)≤day:=by omega
  simp -implicitDefEqProofs [h12,v2]
  refine ACallGS.of (fun _=>message_days y (m+1) (by omega) (by omega)) rfl ?_
  simp -implicitDefEqProofs [hle,v2]
  refine Again.of (m+1) ⟨by omega,by omega⟩ (by omega) ?_
  simp
 have hmM:m=M:=by omega
 subst hmM
 have hfin:∀x,x=dY y+dM y m→IntKind.i64.wrap (IntKind.i64.wrap (day-x)+1)=D:=by
  rintro x rfl
  have:=hc.dd;have:=hc.ml;have:=hc.mh;have:=dM_step y m m1;have:=mLen_pos y m
  rw [wrapS (day-_) (by omega),wrapS _ (by omega)];omega
 have hle:¬dY y+dM y (m+1)≤day:=by have:=hc.mh;omega
 by_cases h12:m<12
 ·simp -implicitDefEqProofs [h12,v2]
  refine ACallGS.of (fun _=>message_days y (m+1) (by omega) (by omega)) rfl ?_
  simp -implicitDefEqProofs [hle]
  refine ACallK.of (message_days y m (by omega) (by omega)) ?_
  simp -implicitDefEqProofs [hfin _ rfl]
 ·simp -implicitDefEqProofs [h12,v2]
  refine ACallGS.of (fun _=>message_days y (m+1) (by omega) (by omega)) rfl ?_
  simp -implicitDefEqProofs [hle]
  refine ACallK.of (message_days y m (by omega) (by omega)) ?_
  simp -implicitDefEqProofs [hfin _ rfl]
def monthsL:List UInt8:=[74,97,110,70,101,98,77,97,114,65,112,114,77,97,121,74,117,110,74,117,108,65,117,103,83,101,112,79,99,116,78,111,118,68,101,99]
def weeksL:List UInt8:=[83,117,110,77,111,110,84,117,101,87,101,100,84,104,117,70,114,105,83,97,116]
def monthL (m:Nat):List UInt8:=(monthsL.drop (3*m-3)).take 3
def weekL (w:Nat):List UInt8:=(weeksL.drop (3*w)).take 3
def dateL (t:Int):List UInt8:=
 weekL ((t / 86400+4) % 7).toNat++[44,32]++padD 2 (dayOf (t / 86400)).toNat++[32]++monthL (monthOf (t / 86400)).toNat++[32]++padD 4 (yearOf (t / 86400)).toNat++[32]++padD 2 (t % 86400 / 3600).toNat++[58]++padD 2 (t % 86400 / 60 % 60).toNat++[58]++padD 2 (t % 86400 % 60).toNat++[32,71,77,84]
theorem weekL_len (w:Nat) (h:w<7):(weekL w).length=3:=by
 have:∀w:Fin 7,(weekL w.val).length=3:=by decide
 exact this ⟨w,h⟩
theorem monthL_len (m:Nat) (h:1≤m∧m≤12):(monthL m).length=3:=by
 have:∀w:Fin 12,(monthL (w.val+1)).length=3:=by decide
 have:=this ⟨m-1,by omega⟩
 simp only [show m-1+1=m by omega] at this
 exact this
theorem dateL_cut (t:Int) (h:momentB t=true):(dateL t).length=29∧cutAt (dateL t) 8 11=monthL (monthOf (t / 86400)).toNat∧cutAt (dateL t) 12 16=padD 4 (yearOf (t / 86400)).toNat∧cutAt (dateL t) 5 7=padD 2 (dayOf (t / 86400)).toNat ∧
  cutAt (dateL t) 17 19=padD 2 (t % 86400 / 3600).toNat∧cutAt (dateL t) 20 22=padD 2 (t % 86400 / 60 % 60).toNat∧cutAt (dateL t) 23 25=padD 2 (t % 86400 % 60).toNat:=by
 have hb:=moment_bounds h
 obtain ⟨_,hm,_⟩:=date_ok h
 have lw:=weekL_len ((t / 86400+4) % 7).toNat (by omega)
 have lm:=monthL_len (monthOf (t / 86400)).toNat (by omega)
 unfold dateL
 generalize weekL ((t / 86400+4) % 7).toNat=W at lw ⊢
 generalize monthL (monthOf (t / 86400)).toNat=M at lm ⊢
 have l1:=padD_len 2 (dayOf (t / 86400)).toNat
 have l2:=padD_len 4 (yearOf (t / 86400)).toNat
 have l3:=padD_len 2 (t % 86400 / 3600).toNat
 have l4:=padD_len 2 (t % 86400 / 60 % 60).toNat
 have l5:=padD_len 2 (t % 86400 % 60).toNat
 generalize padD 2 (dayOf (t / 86400)).toNat=D at l1 ⊢
 generalize padD 4 (yearOf (t / 86400)).toNat=Y at l2 ⊢
 generalize padD 2 (t % 86400 / 3600).toNat=H at l3 ⊢
 generalize padD 2 (t % 86400 / 60 % 60).toNat=I at l4 ⊢
 generalize padD 2 (t % 86400 % 60).toNat=S at l5 ⊢
 match W,lw,D,l1,M,lm,Y,l2,H,l3,I,l4,S,l5 with
 | [w1,w2,w3],_,[d1,d2],_,[m1,m2,m3],_,[y1,y2,y3,y4],_,[h1,h2],_,[i1,i2],_,[s1,s2],_=>exact ⟨rfl,rfl,rfl,rfl,rfl,rfl,rfl⟩
end Go.Proofs.YtlcmnclbljedfaaGreatDoor
namespace Go.Proofs.YtlcmnclbljedfaaGreatDoor
open Go
def befC (c:UInt8) (s:List UInt8):List UInt8:=s.takeWhile (· != c)
def aftC (c:UInt8) (s:List UInt8):List UInt8:=s.drop ((befC c s).length+1)
theorem befC_hit (c:UInt8) (r:List UInt8):befC c (c::r)=[]:=by simp [befC]
theorem befC_miss {b c:UInt8} (h:b≠c) (r:List UInt8):befC c (b::r)=b::befC c r:=by simp [befC,h]
theorem aftC_hit (c:UInt8) (r:List UInt8):aftC c (c::r)=r:=by simp [aftC,befC_hit]
theorem aftC_miss {b c:UInt8} (h:b≠c) (r:List UInt8):aftC c (b::r)=aftC c r:=by simp [aftC,befC_miss h]
theorem befC_all {c:UInt8} {s:List UInt8} (h:c∉s):befC c s=s:=by
 induction s with
 | nil=>rfl
 | cons b r ih =>
  simp only [List.mem_cons,not_or] at h
  rw [befC_miss (fun e=>h.1 e.symm),ih h.2]
theorem befC_aft {c:UInt8} {s:List UInt8} (h:c∈s):s=befC c s++c::aftC c s:=by
 induction s with
 | nil=>cases h
 | cons b r ih =>
  by_cases e:b=c
  ·subst e;rw [befC_hit,aftC_hit];rfl
  ·rw [befC_miss e,aftC_miss e]
   have:=ih ((List.mem_cons.1 h).resolve_left (fun x=>e x.symm))
   rw [List.cons_append,←this]
theorem befC_append {c:UInt8} {a r:List UInt8} (h:c∉a):befC c (a++c::r)=a:=by
 induction a with
 | nil=>exact befC_hit c r
 | cons b t ih =>
  simp only [List.mem_cons,not_or] at h
  rw [List.cons_append,befC_miss (fun e=>h.1 e.symm),ih h.2]
theorem index_one (c:UInt8):∀s:List UInt8,Lib.index s [c]=if c∈s then ((befC c s).length:Int) else -1
 | []=>by simp [Lib.index]
 | b::r=>by
  have ih:=index_one c r
  unfold Lib.index
  by_cases h:b=c
  ·subst h;simp [List.isPrefixOf,befC_hit]
  ·have hp:([c].isPrefixOf (b::r))=false:=by simp [List.isPrefixOf];exact fun e=>h e.symm
   rw [hp,ih,befC_miss h]
   by_cases hm:c∈r
   ·have hne:¬(((befC c r).length:Int)=-1):=by omega
    simp [hm,hne]
   ·have:c∉b::r:=by simp [hm];exact fun e=>h e.symm
    simp [hm,this]
def splitC (c:UInt8):List UInt8→List (List UInt8)
 | []=>[[]]
 | b::r=>if b=c then []::splitC c r else match splitC c r with
  | h::t=>(b::h)::t
  | []=>[[b]]
theorem splitC_ne (c:UInt8) (s:List UInt8):splitC c s≠[]:=by
 cases s with
 | nil=>simp [splitC]
 | cons b r =>
  unfold splitC
  split
  ·simp
  ·split<;>simp
theorem splitC_hit {c:UInt8} {s:List UInt8} (h:c∈s):splitC c s=befC c s::splitC c (aftC c s):=by
 induction s with
 | nil=>cases h
 | cons b r ih =>
  by_cases e:b=c
  ·subst e;rw [befC_hit,aftC_hit];simp [splitC]
  ·rw [befC_miss e,aftC_miss e,splitC,if_neg e,ih ((List.mem_cons.1 h).resolve_left (fun x=>e x.symm))]
theorem splitC_miss {c:UInt8} {s:List UInt8} (h:c∉s):splitC c s=[s]:=by
 induction s with
 | nil=>rfl
 | cons b r ih =>
  simp only [List.mem_cons,not_or] at h
  rw [splitC,if_neg (fun e=>h.1 e.symm),ih h.2]
theorem splitK_eq (c:UInt8):∀(k:Nat) (s:List UInt8),s.count c≤k→Lib.splitK [c] 0 k s=splitC c s
 | 0,s,h=>by
  have:c∉s:=fun hm=>by have:=List.count_pos_iff.2 hm;omega
  rw [splitC_miss this];rfl
 | k+1,s,h=>by
  unfold Lib.splitK
  rw [index_one]
  by_cases hm:c∈s
  ·have hne:¬(((befC c s).length:Int)=-1):=by omega
   have e:=befC_aft hm
   have hc:(aftC c s).count c≤k:=by
    have:=congrArg (List.count c) e
    rw [List.count_append,List.count_cons_self] at this
    omega
   rw [if_pos hm,splitC_hit hm,←splitK_eq c k _ hc]
   have ht:s.take (befC c s).length=befC c s:=by
    have:=congrArg (List.take (befC c s).length) e
    rw [List.take_left' rfl] at this
    exact this
   simp [hne,ht,aftC]
  ·rw [if_neg hm,splitC_miss hm];rfl
theorem splitC_count (c:UInt8) (s:List UInt8):(splitC c s).length≤s.length+1:=by
 induction s with
 | nil=>simp [splitC]
 | cons b r ih =>
  rw [splitC]
  split
  ·simpa using ih
  ·split
   ·rename_i e;rw [e] at ih;simpa using Nat.le_succ_of_le ih
   ·simp
set_option maxRecDepth 100000
def renn221:Go.Shelf.Ren:=⟨fun x=>if x=138 then 281 else if x=143 then 238 else if x=195 then 320 else if x=197 then 232 else if x=217 then 267 else if x=218 then 321 else if x=219 then 282 else if x=221 then 237 else if x=224 then 265 else if x=225 then 304 else if x=260 then 278 else if x=266 then 309 else if x=267 then 322 else if x=268 then 280 else if x=314 then 334 else x,fun x=>if x=0 then 0 else if x=3 then 3 else if x=4 then 4 else if x=5 then 5 else if x=9 then 9 else if x=21 then 21 else if x=31 then 70 else if x=46 then 165 else if x=51 then 233 else if x=105 then 270 else if x=119 then 333 else if x=138 then 335 else if x=139 then 336 else if x=146 then 320 else x,fun x=>if x=1 then 0 else if x=3 then 2 else if x=4 then 3 else x⟩
theorem layn221:Go.Proofs.Lays.n221 Tryz.prog renn221 where
 mixed:=by kernel_rfl
 f138:=Tryz.func281.trans (congrArg some (by kernel_rfl))
 f143:=Tryz.func238.trans (congrArg some (by kernel_rfl))
 f195:=Tryz.func320.trans (congrArg some (by kernel_rfl))
 f197:=Tryz.func232.trans (congrArg some (by kernel_rfl))
 f217:=Tryz.func267.trans (congrArg some (by kernel_rfl))
 f218:=Tryz.func321.trans (congrArg some (by kernel_rfl))
 f219:=Tryz.func282.trans (congrArg some (by kernel_rfl))
 f221:=Tryz.func237.trans (congrArg some (by kernel_rfl))
 f224:=Tryz.func265.trans (congrArg some (by kernel_rfl))
 f225:=Tryz.func304.trans (congrArg some (by kernel_rfl))
 f260:=Tryz.func278.trans (congrArg some (by kernel_rfl))
 f266:=Tryz.func309.trans (congrArg some (by kernel_rfl))
 f267:=Tryz.func322.trans (congrArg some (by kernel_rfl))
 f268:=Tryz.func280.trans (congrArg some (by kernel_rfl))
 f314:=Tryz.func334.trans (congrArg some (by kernel_rfl))
 t0:=Tryz.underlying0
 a0:=Tryz.isAgg0
 z0:=Tryz.sizeOf0
 v0:=Tryz.zeroValue0
 t3:=Tryz.underlying3
 a3:=Tryz.isAgg3
 z3:=Tryz.sizeOf3
 v3:=Tryz.zeroValue3
 t4:=Tryz.underlying4
 a4:=Tryz.isAgg4
 z4:=Tryz.sizeOf4
 v4:=Tryz.zeroValue4
 t5:=Tryz.underlying5
 a5:=Tryz.isAgg5
 z5:=Tryz.sizeOf5
 v5:=Tryz.zeroValue5
 t9:=Tryz.underlying9
 a9:=Tryz.isAgg9
 z9:=Tryz.sizeOf9
 v9:=Tryz.zeroValue9
 t21:=Tryz.underlying21
 a21:=Tryz.isAgg21
 z21:=Tryz.sizeOf21
 v21:=Tryz.zeroValue21
 t31:=Tryz.underlying70
 a31:=Tryz.isAgg70
 z31:=Tryz.sizeOf70
 v31:=Tryz.zeroValue70
 t46:=Tryz.underlying165
 a46:=Tryz.isAgg165
 z46:=Tryz.sizeOf165
 v46:=Tryz.zeroValue165
 t51:=Tryz.underlying233
 a51:=Tryz.isAgg233
 z51:=Tryz.sizeOf233
 v51:=Tryz.zeroValue233
 t105:=Tryz.underlying270
 a105:=Tryz.isAgg270
 z105:=Tryz.sizeOf270
 v105:=Tryz.zeroValue270
 t119:=Tryz.underlying333
 a119:=Tryz.isAgg333
 z119:=Tryz.sizeOf333
 t138:=Tryz.underlying335
 a138:=Tryz.isAgg335
 z138:=Tryz.sizeOf335
 v138:=Tryz.zeroValue335
 t139:=Tryz.underlying336
 a139:=Tryz.isAgg336
 z139:=Tryz.sizeOf336
 v139:=Tryz.zeroValue336
 t146:=Tryz.underlying320
 a146:=Tryz.isAgg320
 z146:=Tryz.sizeOf320
 v146:=Tryz.zeroValue320
 g1:=by kernel_rfl
 g3:=by kernel_rfl
 g4:=by kernel_rfl
def renn172:Go.Shelf.Ren:=⟨fun x=>if x=129 then 167 else if x=171 then 80 else if x=172 then 181 else if x=205 then 325 else if x=243 then 136 else if x=244 then 248 else if x=245 then 249 else if x=246 then 230 else if x=247 then 285 else if x=279 then 286 else if x=280 then 287 else if x=281 then 288 else if x=282 then 289 else if x=283 then 274 else if x=284 then 275 else if x=285 then 276 else if x=286 then 277 else if x=287 then 323 else if x=316 then 324 else if x=317 then 316 else if x=318 then 317 else if x=319 then 318 else if x=320 then 319 else if x=321 then 335 else if x=322 then 336 else if x=337 then 332 else if x=338 then 333 else x,fun x=>if x=0 then 0 else if x=2 then 2 else if x=3 then 3 else if x=4 then 4 else if x=5 then 5 else if x=9 then 9 else if x=20 then 20 else if x=21 then 21 else if x=37 then 41 else if x=46 then 165 else if x=51 then 233 else if x=53 then 156 else if x=75 then 240 else if x=76 then 241 else if x=80 then 329 else if x=85 then 311 else if x=127 then 345 else if x=143 then 348 else if x=145 then 350 else if x=167 then 310 else if x=168 then 313 else if x=171 then 302 else if x=173 then 304 else if x=175 then 337 else if x=210 then 340 else if x=212 then 331 else if x=213 then 332 else if x=232 then 354 else if x=233 then 355 else x,fun x=>if x=15 then 4 else if x=16 then 5 else if x=17 then 1 else if x=18 then 6 else if x=19 then 7 else x⟩
theorem layn172:Go.Proofs.Lays.n172 Tryz.prog renn172 where
 mixed:=by kernel_rfl
 f129:=Tryz.func167.trans (congrArg some (by kernel_rfl))
 f171:=Tryz.func80.trans (congrArg some (by kernel_rfl))
 f172:=Tryz.func181.trans (congrArg some (by kernel_rfl))
 f205:=Tryz.func325.trans (congrArg some (by kernel_rfl))
 f243:=Tryz.func136.trans (congrArg some (by kernel_rfl))
 f244:=Tryz.func248.trans (congrArg some (by kernel_rfl))
 f245:=Tryz.func249.trans (congrArg some (by kernel_rfl))
 f246:=Tryz.func230.trans (congrArg some (by kernel_rfl))
 f247:=Tryz.func285.trans (congrArg some (by kernel_rfl))
 f279:=Tryz.func286.trans (congrArg some (by kernel_rfl))
 f280:=Tryz.func287.trans (congrArg some (by kernel_rfl))
 f281:=Tryz.func288.trans (congrArg some (by kernel_rfl))
 f282:=Tryz.func289.trans (congrArg some (by kernel_rfl))
 f283:=Tryz.func274.trans (congrArg some (by kernel_rfl))
 f284:=Tryz.func275.trans (congrArg some (by kernel_rfl))
 f285:=Tryz.func276.trans (congrArg some (by kernel_rfl))
 f286:=Tryz.func277.trans (congrArg some (by kernel_rfl))
 f287:=Tryz.func323.trans (congrArg some (by kernel_rfl))
 f316:=Tryz.func324.trans (congrArg some (by kernel_rfl))
 f317:=Tryz.func316.trans (congrArg some (by kernel_rfl))
 f318:=Tryz.func317.trans (congrArg some (by kernel_rfl))
 f319:=Tryz.func318.trans (congrArg some (by kernel_rfl))
 f320:=Tryz.func319.trans (congrArg some (by kernel_rfl))
 f321:=Tryz.func335.trans (congrArg some (by kernel_rfl))
 f322:=Tryz.func336.trans (congrArg some (by kernel_rfl))
 f337:=Tryz.func332.trans (congrArg some (by kernel_rfl))
 f338:=Tryz.func333.trans (congrArg some (by kernel_rfl))
 t0:=Tryz.underlying0
 a0:=Tryz.isAgg0
 z0:=Tryz.sizeOf0
 v0:=Tryz.zeroValue0
 t2:=Tryz.underlying2
 a2:=Tryz.isAgg2
 z2:=Tryz.sizeOf2
 v2:=Tryz.zeroValue2
 t3:=Tryz.underlying3
 a3:=Tryz.isAgg3
 z3:=Tryz.sizeOf3
 v3:=Tryz.zeroValue3
 t4:=Tryz.underlying4
 a4:=Tryz.isAgg4
 z4:=Tryz.sizeOf4
 v4:=Tryz.zeroValue4
 t5:=Tryz.underlying5
 a5:=Tryz.isAgg5
 z5:=Tryz.sizeOf5
 v5:=Tryz.zeroValue5
 t9:=Tryz.underlying9
 a9:=Tryz.isAgg9
 z9:=Tryz.sizeOf9
 v9:=Tryz.zeroValue9
 t20:=Tryz.underlying20
 a20:=Tryz.isAgg20
 z20:=Tryz.sizeOf20
 v20:=Tryz.zeroValue20
 t21:=Tryz.underlying21
 a21:=Tryz.isAgg21
 z21:=Tryz.sizeOf21
 v21:=Tryz.zeroValue21
 t37:=Tryz.underlying41
 a37:=Tryz.isAgg41
 z37:=Tryz.sizeOf41
 v37:=Tryz.zeroValue41
 t46:=Tryz.underlying165
 a46:=Tryz.isAgg165
 z46:=Tryz.sizeOf165
 v46:=Tryz.zeroValue165
 t51:=Tryz.underlying233
 a51:=Tryz.isAgg233
 z51:=Tryz.sizeOf233
 v51:=Tryz.zeroValue233
 t53:=Tryz.underlying156
 a53:=Tryz.isAgg156
 z53:=Tryz.sizeOf156
 v53:=Tryz.zeroValue156
 t75:=Tryz.underlying240
 a75:=Tryz.isAgg240
 z75:=Tryz.sizeOf240
 v75:=Tryz.zeroValue240
 t76:=Tryz.underlying241
 a76:=Tryz.isAgg241
 z76:=Tryz.sizeOf241
 v76:=Tryz.zeroValue241
 t85:=Tryz.underlying311
 a85:=Tryz.isAgg311
 z85:=Tryz.sizeOf311
 v85:=Tryz.zeroValue311
 t127:=Tryz.underlying345
 a127:=Tryz.isAgg345
 z127:=Tryz.sizeOf345
 v127:=Tryz.zeroValue345
 t143:=Tryz.underlying348
 a143:=Tryz.isAgg348
 z143:=Tryz.sizeOf348
 v143:=Tryz.zeroValue348
 t145:=Tryz.underlying350
 a145:=Tryz.isAgg350
 z145:=Tryz.sizeOf350
 v145:=Tryz.zeroValue350
 t167:=Tryz.underlying310
 a167:=Tryz.isAgg310
 z167:=Tryz.sizeOf310
 v167:=Tryz.zeroValue310
 t168:=Tryz.underlying313
 a168:=Tryz.isAgg313
 z168:=Tryz.sizeOf313
 v168:=Tryz.zeroValue313
 t171:=Tryz.underlying302
 a171:=Tryz.isAgg302
 z171:=Tryz.sizeOf302
 v171:=Tryz.zeroValue302
 t173:=Tryz.underlying304
 a173:=Tryz.isAgg304
 z173:=Tryz.sizeOf304
 v173:=Tryz.zeroValue304
 t175:=Tryz.underlying337
 a175:=Tryz.isAgg337
 z175:=Tryz.sizeOf337
 v175:=Tryz.zeroValue337
 t210:=Tryz.underlying340
 a210:=Tryz.isAgg340
 z210:=Tryz.sizeOf340
 v210:=Tryz.zeroValue340
 t212:=Tryz.underlying331
 a212:=Tryz.isAgg331
 z212:=Tryz.sizeOf331
 v212:=Tryz.zeroValue331
 t213:=Tryz.underlying332
 a213:=Tryz.isAgg332
 z213:=Tryz.sizeOf332
 t232:=Tryz.underlying354
 a232:=Tryz.isAgg354
 z232:=Tryz.sizeOf354
 v232:=Tryz.zeroValue354
 t233:=Tryz.underlying355
 a233:=Tryz.isAgg355
 z233:=Tryz.sizeOf355
 v233:=Tryz.zeroValue355
 g15:=by kernel_rfl
 g16:=by kernel_rfl
 g17:=by kernel_rfl
 g18:=by kernel_rfl
 g19:=by kernel_rfl
end Go.Proofs.YtlcmnclbljedfaaGreatDoor
namespace Go.Proofs.YtlcmnclbljedfaaGreatDoor
open Go Go.Ab
variable [Amb]
set_option maxRecDepth 100000
set_option maxHeartbeats 4000000
theorem index_byte (c:UInt8) (s:List UInt8):Lib.indexByte s c=if c∈s then ((befC c s).length:Int) else -1:=by
 rw [←Lib.index_one,index_one]
theorem befC_lt {c:UInt8} {s:List UInt8} (h:c∈s):(befC c s).length+1≤s.length:=by
 have:=congrArg List.length (befC_aft h)
 simp at this;omega
theorem stringslite_Index1 (s:List UInt8) (c:UInt8):ACalls Tryz.prog 282 [.one (.str s),.one (.str [c])] (.x (.one (.int .i64 (if c∈s then ((befC c s).length:Int) else -1)))):=by
 rw [←index_byte]
 refine ACalls.ofKit [.string ⟨s.toArray⟩,.string ⟨[c].toArray⟩] _ (callable_of Tryz.f282 (by kernel_rfl) (by kernel_rfl) rfl) rfl (fun _ _=>repR_int _ _) (fun _ w=>?_)
 refine (Any.stringslite_Index_one { layn221 with } ⟨s.toArray⟩ c w).mono ?_
 rintro e w' ⟨rfl,rfl⟩
 exact ⟨rfl,RowKit.Below.refl _ _⟩
theorem take_bef (c:UInt8) (s:List UInt8):s.take (befC c s).length=befC c s:=by
 conv=>rhs;unfold befC
 rw [List.takeWhile_eq_take_findIdx_not]
 congr 1
 unfold befC
 rw [List.takeWhile_eq_take_findIdx_not,List.length_take]
 exact Nat.min_eq_left List.findIdx_le_length
theorem stringslite_Cut1 (s:List UInt8) (c:UInt8):ACalls Tryz.prog 257 [.one (.str s),.one (.str [c])] (.tup [.one (.str (befC c s)),.one (.str (if c∈s then aftC c s else [])),.one (.bool (decide (c∈s)))]):=by
 refine ACalls.of mixed (fn:=Tryz.f257) (by kernel_rfl) (by kernel_rfl) rfl (by kernel_rfl) (by simp [Tryz.f257]) (fun hok=>?_)
 have hs:s.length≤maxLen:=by have:=hok _ List.mem_cons_self;simpa [XV.ok,CV.ok] using this
 simp -implicitDefEqProofs
 refine ACallK.of (stringslite_Index1 s c) ?_
 by_cases h:c∈s
 ·have hb:=befC_lt h
  have h1:(0≤((befC c s).length:Int))=True:=eq_true (by omega)
  have hw:IntKind.i64.wrap (((befC c s).length:Int)+1)=(((befC c s).length+1:Nat):Int):=by rw [wrapS _ (by unfold maxLen at hs;omega)];omega
  have h2:((befC c s).length≤s.length)=True:=eq_true (by omega)
  have h3:((befC c s).length+1≤s.length)=True:=eq_true (by omega)
  have ht:=take_bef c s
  have ha:s.drop ((befC c s).length+1)=aftC c s:=rfl
  simp -implicitDefEqProofs [h,h1,hw,h2,h3,ht,ha]
  exact ⟨by omega,by omega⟩
 ·have hn:=befC_all h
  simp -implicitDefEqProofs [h,hn]
theorem strings_Cut1 (s:List UInt8) (c:UInt8):ACalls Tryz.prog 198 [.one (.str s),.one (.str [c])] (.tup [.one (.str (befC c s)),.one (.str (if c∈s then aftC c s else [])),.one (.bool (decide (c∈s)))]):=by
 refine ACalls.of mixed (fn:=Tryz.f198) (by kernel_rfl) (by kernel_rfl) rfl (by kernel_rfl) (by simp [Tryz.f198]) (fun hok=>?_)
 simp -implicitDefEqProofs
 refine ACallK.of (stringslite_Cut1 s c) ?_
 simp -implicitDefEqProofs
theorem flat_strs:∀xs:List ByteArray,(((xs.map (·.data.toList)).map fun s=>[CV.str s])).flatten=xs.map fun x=>CV.str x.data.toList
 | []=>rfl
 | a::r=>by
  have:=flat_strs r
  simp only [List.map_cons,List.flatten_cons,this];rfl
theorem ofKitStrs {f:FuncId} {args:List XV} (vs:List Value) (xs:List ByteArray) (t:TypeId) (hc:Callable Tryz.prog f) (ha:concs args=some vs)
  (hl:∀x∈xs,x.data.toList.length≤maxLen) (hn:xs.length≤maxLen)
  (h:∀w,Calls Tryz.prog f vs.toArray w fun e w'=>e=.returned (.slice (some ⟨w.heap.size,0,none⟩) xs.length xs.length)∧w'=w.alloc (.cells (xs.map Value.string).toArray t)) :
  ACalls Tryz.prog f args (.x (strs (xs.map (·.data.toList)))):=by
 refine ⟨hc,fun w S us hS hargs=>?_⟩
 have e:us=vs.toArray:=by
  have:=concs_eq (us:=us.toList) (by rw [Array.length_toList];exact hargs.1) (fun j x hj=>by simpa using hargs.2 j x hj) ha
  rw [←this]
 subst e
 refine (h w).mono ?_
 rintro e w' ⟨rfl,rfl⟩
 have hfl:=flat_strs xs
 have hlen:((xs.map (·.data.toList)).map fun s=>[CV.str s]).length=xs.length:=by simp
 refine ⟨_,rfl,(RowKit.Below.refl _ _).alloc (Nat.le_refl _) _,?_,fun b hb=>by cases hb⟩
 rw [←hlen]
 refine RepC.list ⟨w.heap.size,0,none⟩ _ 1 _ (fun j=>(xs[j]?.map Value.string).getD .nilIface) (Or.inr ⟨Nat.le_refl _,by show _<(w.heap.push _).size;rw [Array.size_push];exact Nat.lt_succ_self _⟩) rfl (Nat.le_refl _) (by rw [hlen];exact hn) (fun x hx=>by
  obtain ⟨y,_,rfl⟩:=List.mem_map.1 hx;rfl) (fun j c hj=>?_) (fun j c hj=>?_)
 ·rw [hfl,List.getElem?_map] at hj
  obtain ⟨x,hx,_⟩:=Option.map_eq_some_iff.1 hj
  rw [addr_add_lit,World.cell?_alloc_new,hx]
  simp [hx]
 ·rw [hfl,List.getElem?_map] at hj
  obtain ⟨x,hx,rfl⟩:=Option.map_eq_some_iff.1 hj
  have hm:x∈xs:=List.mem_of_getElem? hx
  rw [hx]
  exact RepC.str _ (hl x hm)
theorem splitC_len (c:UInt8) (s:List UInt8):∀y∈splitC c s,y.length≤s.length:=by
 induction s with
 | nil=>intro y hy;simp [splitC] at hy;subst hy;simp
 | cons b r ih =>
  intro y hy
  by_cases hb:b=c
  ·rw [splitC,if_pos hb] at hy
   rcases List.mem_cons.1 hy with rfl | hy
   ·simp
   ·have:=ih y hy;simp only [List.length_cons];omega
  ·rw [splitC,if_neg hb] at hy
   cases hr:splitC c r with
   | nil=>exact absurd hr (splitC_ne c r)
   | cons h t =>
    rw [hr] at hy ih
    rcases List.mem_cons.1 hy with rfl | hy
    ·have:=ih h List.mem_cons_self;simp only [List.length_cons];omega
    ·have:=ih y (List.mem_cons_of_mem _ hy);simp only [List.length_cons];omega
theorem strings_genSplit1 (s:List UInt8) (c:UInt8) (hs:s.length≤600000):ACalls Tryz.prog 237 [.one (.str s),.one (.str [c]),.one (.int .i64 0),.one (.int .i64 (-1))] (.x (strs (splitC c s))):=by
 have hcount:s.count c≤s.length:=List.count_le_length
 have hcb:Lib.countB ⟨s.toArray⟩ ⟨[c].toArray⟩=s.count c:=Lib.count_one c s
 have hsp:(Lib.splitB ⟨[c].toArray⟩ 0 (s.count c) ⟨s.toArray⟩).map (·.data.toList)=splitC c s:=by
  rw [Lib.splitB_data]
  exact splitK_eq c _ _ (Nat.le_refl _)
 have hle:=Lib.splitB_length_le ⟨[c].toArray⟩ 0 (s.count c) ⟨s.toArray⟩
 have hall:=Lib.splitB_all ⟨[c].toArray⟩ (Nat.le_refl 1) 0 _ ⟨s.toArray⟩ hcb
 rw [←hsp]
 have hsub:=splitC_len c s
 have hcall:∀w,Calls Tryz.prog 237 [Value.string ⟨s.toArray⟩,.string ⟨[c].toArray⟩,.int .i64 0,.int .i64 (-1)].toArray w fun e w' =>
   e=.returned (.slice (some ⟨w.heap.size,0,none⟩) (s.count c+1) (s.count c+1))∧w'=w.alloc (.cells ((Lib.splitB ⟨[c].toArray⟩ 0 (s.count c) ⟨s.toArray⟩).map Value.string).toArray 9):=by
  intro w
  have g:=Any.strings_genSplit_core layn221 (by kernel_rfl) ⟨s.toArray⟩ ⟨[c].toArray⟩ 0 (-1) (s.count c+1) w (by show s.toArray.size<_;simp;omega) (Nat.le_refl 1) (Nat.zero_le _)
   (fun x cs hx=>(Any.strings_Index_one { layn221 with } x c _).mono fun e w' ⟨h1,h2⟩=>⟨by rw [h1];show _=Ending.returned (.int .i64 (Lib.index x.data.toList [c]));rw [Lib.index_one],h2⟩)
   ((Any.strings_Count_one { layn221 with } ⟨s.toArray⟩ c w).mono fun e w' ⟨h1,h2⟩=>⟨by rw [h1,hcb];rfl,h2⟩)
   (by decide) (by decide) (by rw [if_pos (by decide),hcb];show _=min _ ((s.toArray.size:Int)+1);simp;omega)
  rw [Nat.add_sub_cancel,hall] at g
  have e2:Lib.cellsOf (Lib.splitB ⟨[c].toArray⟩ 0 (s.count c) ⟨s.toArray⟩) (s.count c+1)=((Lib.splitB ⟨[c].toArray⟩ 0 (s.count c) ⟨s.toArray⟩).map Value.string).toArray:=by rw [←hall];exact Lib.cellsOf_full _
  rw [e2] at g
  exact g
 obtain ⟨xs,ex⟩:∃xs,xs=Lib.splitB ⟨[c].toArray⟩ 0 (s.count c) ⟨s.toArray⟩:=⟨_,rfl⟩
 rw [←ex] at hsp hall hcall ⊢
 refine ofKitStrs [.string ⟨s.toArray⟩,.string ⟨[c].toArray⟩,.int .i64 0,.int .i64 (-1)] xs 9 (callable_of Tryz.f237 (by kernel_rfl) (by kernel_rfl) rfl) rfl (fun x hx=>?_) (by rw [hall];unfold maxLen;omega) (fun w=>by rw [hall];exact hcall w)
 have:=hsub x.data.toList (by rw [←hsp];exact List.mem_map_of_mem hx)
 unfold maxLen;omega
theorem strings_Split1 (s:List UInt8) (c:UInt8) (hs:s.length≤600000):ACalls Tryz.prog 153 [.one (.str s),.one (.str [c])] (.x (strs (splitC c s))):=by
 refine ACalls.of mixed (fn:=Tryz.f153) (by kernel_rfl) (by kernel_rfl) rfl (by kernel_rfl) (by simp [Tryz.f153]) (fun hok=>?_)
 simp -implicitDefEqProofs
 refine ACallK.of (strings_genSplit1 s c hs) ?_
 simp -implicitDefEqProofs
theorem strconv_Atoi1 (s:List UInt8) (n:Int) (hl:s.length≤18) (h:Lib.atoi s=some n):ACalls Tryz.prog 181 [.one (.str s)] (.tup [.one (.int .i64 n),.one (.atom .nilIface)]):=by
 refine ACalls.ofKit [.string ⟨s.toArray⟩] (.tuple #[.int .i64 n,.nilIface]) (callable_of Tryz.f181 (by kernel_rfl) (by kernel_rfl) rfl) rfl (fun w S=>?_) (fun _ w=>?_)
 ·refine ⟨_,rfl,rfl,fun j x hj=>?_⟩
  match j,hj with
  | 0,hj=>cases hj;exact ⟨_,rfl,RepC.int _ _⟩
  | 1,hj=>cases hj;exact ⟨_,rfl,RepC.atom _ rfl⟩
  | j+2,hj=>simp at hj
 refine (Any.strconv_Atoi layn172 ⟨s.toArray⟩ n (by show s.toArray.size≤18;simpa using hl) h w).mono ?_
 rintro e w' ⟨rfl,t,rfl⟩
 exact ⟨rfl,Lib.bytesWorld_below _ _ _⟩
abbrev digCs:List UInt8:=[48,49,50,51,52,53,54,55,56,57]
theorem digCs_dig (b:UInt8):digCs.contains b=isDig b:=by
 rw [Bool.eq_iff_iff]
 simp only [isDig,Bool.and_eq_true,decide_eq_true_eq,List.contains_iff_mem,List.mem_cons,List.not_mem_nil,or_false,←UInt8.toNat_inj]
 simp
 omega
theorem trim_digs (s:List UInt8):(Lib.trimS s digCs=[])↔s.all isDig=true:=by
 rw [trimS_nil]
 have:(fun b=>digCs.contains b)=isDig:=funext digCs_dig
 rw [this]
theorem slices_IndexS (l:List (List UInt8)) (e:List UInt8):ACalls Tryz.prog 147 [strs l,.one (.str e)] (.x (.one (.int .i64 (match l.findIdx? (·==e) with | some i=>(i:Int) | none=>-1)))):=by
 refine ACalls.of mixed (fn:=Tryz.f147) (by kernel_rfl) (by kernel_rfl) rfl (by kernel_rfl) (by simp [Tryz.f147]) (fun hok=>?_)
 have hl:l.length≤maxLen:=by have:=hok _ List.mem_cons_self;simp [XV.ok,CV.ok] at this;exact this.1
 simp -implicitDefEqProofs +contextual [-Bool.and_eq_false_imp,Bool.and_eq_false_iff]
 refine ALoopS.of Nat (fun i=>[(0,.x (strs l)),(1,.x (.one (.str e))),(7,.x (.one (.int .i64 l.length))),(8,.x (.one (.int .i64 i)))]) (fun i=>i≤l.length∧∀j,(h:j<i)→(hj:j<l.length)→l[j]≠e) (fun i=>l.length-i) 0 ⟨Nat.zero_le _,fun j h=>by omega⟩ ?_ ?_
 ·simp
 rintro i ⟨hi,hp⟩
 by_cases hlt:i<l.length
 ·have hlt':((i:Int)<(l.length:Int))=True:=eq_true (by omega)
  have hwr:IntKind.i64.wrap ((i:Int)+1)=(i:Int)+1:=wrapS _ (by unfold maxLen at hl;omega)
  by_cases he:l[i]=e
  ·have hf:l.findIdx? (·==e)=some i:=by
    rw [List.findIdx?_eq_some_iff_getElem]
    exact ⟨hlt,by simp [he],fun j hj=>by simpa using hp j hj (by omega)⟩
   rw [hf]
   simp -implicitDefEqProofs [hlt,hlt',he]
  ·have he':(e=l[i])=False:=eq_false fun h=>he h.symm
   simp -implicitDefEqProofs [hlt,hlt',he',hwr]
   refine Again.of (i+1) ⟨by omega,fun j h hj=>?_⟩ (by omega) (by simp)
   by_cases hji:j=i
   ·subst hji;exact he
   ·exact hp j (by omega) hj
 ·have hf:l.findIdx? (·==e)=none:=by
   rw [List.findIdx?_eq_none_iff]
   intro x hx
   obtain ⟨j,hj,rfl⟩:=List.mem_iff_getElem.1 hx
   simpa using hp j (by omega) hj
  rw [hf]
  have hlt':((i:Int)<(l.length:Int))=False:=eq_false (by omega)
  simp -implicitDefEqProofs [hlt,hlt']
theorem slices_ContainsS (l:List (List UInt8)) (e:List UInt8):ACalls Tryz.prog 85 [strs l,.one (.str e)] (.x (.one (.bool (decide (e∈l))))):=by
 refine ACalls.of mixed (fn:=Tryz.f85) (by kernel_rfl) (by kernel_rfl) rfl (by kernel_rfl) (by simp [Tryz.f85]) (fun hok=>?_)
 simp -implicitDefEqProofs
 refine ACallK.of (slices_IndexS l e) ?_
 cases h:l.findIdx? (·==e) with
 | some i =>
  have hm:e∈l:=by
   rw [List.findIdx?_eq_some_iff_getElem] at h
   obtain ⟨hi,he,_⟩:=h
   have:l[i]=e:=by simpa using he
   rw [←this];exact List.getElem_mem hi
  simp -implicitDefEqProofs [hm]
 | none =>
  have hm:e∉l:=by
   rw [List.findIdx?_eq_none_iff] at h
   intro hm
   simpa using h e hm
  simp -implicitDefEqProofs [hm]
end Go.Proofs.YtlcmnclbljedfaaGreatDoor
namespace Go.Proofs.YtlcmnclbljedfaaGreatDoor
open Go
theorem dig_isDig (n:Nat):isDig (dig n)=true∧(dig n).toNat-48=n % 10:=by
 have h:n % 10<10:=Nat.mod_lt _ (by omega)
 have:(dig n).toNat=48+n % 10:=by
  unfold dig
  rw [UInt8.toNat_ofNat_of_lt' (by simp [UInt8.size];omega)]
 unfold isDig
 rw [this]
 simp;omega
theorem padD_isDig:∀(k n:Nat),(padD k n).all isDig=true
 | 0,_=>rfl
 | k+1,n=>by rw [padD,List.all_append,padD_isDig k];simp [dig_isDig]
theorem decV_padD:∀(k n:Nat),n<10 ^ k→decV (padD k n)=n
 | 0,n,h=>by simp at h;subst h;rfl
 | k+1,n,h=>by
  rw [padD,decV_snoc,decV_padD k (n / 10) (by rw [Nat.pow_succ] at h;omega),(dig_isDig n).2]
  omega
def okDate (y m d h i s:Int):Prop:=1970≤y∧(1≤m∧m≤12)∧(1≤d∧d≤mLen y m)∧(0≤h∧h≤23)∧(0≤i∧i≤59)∧(0≤s∧s≤59)
instance (y m d h i s:Int):Decidable (okDate y m d h i s):=by unfold okDate;infer_instance
def dateN (y m d h i s:Int):Int:=(dY y+dM y m+d-1)*86400+h*3600+i*60+s
theorem dY_1970:dY 1970=0:=by decide
theorem date_back {t:Int} (h0:0≤t):okDate (yearOf (t / 86400)) (monthOf (t / 86400)) (dayOf (t / 86400)) (t % 86400 / 3600) (t % 86400 / 60 % 60) (t % 86400 % 60) ∧
  dateN (yearOf (t / 86400)) (monthOf (t / 86400)) (dayOf (t / 86400)) (t % 86400 / 3600) (t % 86400 / 60 % 60) (t % 86400 % 60)=t:=by
 have hc:=civ_ok (t / 86400) (by omega)
 have hd:=hc.d
 have hdd:=hc.dd
 refine ⟨⟨hc.y0,⟨hc.m0,hc.m1⟩,hd,by omega,by omega,by omega⟩,?_⟩
 unfold dateN
 rw [show dY (yearOf (t / 86400))+dM (yearOf (t / 86400)) (monthOf (t / 86400))+dayOf (t / 86400)-1=t / 86400 by omega]
 omega
end Go.Proofs.YtlcmnclbljedfaaGreatDoor
namespace Go.Proofs.YtlcmnclbljedfaaGreatDoor
open Go Go.Ab
variable [Amb] [HasPow10 Tryz.prog]
set_option maxRecDepth 100000
set_option maxHeartbeats 4000000
def monthWs:List (List UInt8):=[[74,97,110],[70,101,98],[77,97,114],[65,112,114],[77,97,121],[74,117,110],[74,117,108],[65,117,103],[83,101,112],[79,99,116],[78,111,118],[68,101,99]]
def dayWs:List (List UInt8):=[[77,111,110],[84,117,101],[87,101,100],[84,104,117],[70,114,105],[83,97,116],[83,117,110]]
theorem message_months:ACalls Tryz.prog 229 [] (.x (strs monthWs)):=by
 refine ACalls.of mixed (fn:=Tryz.f229) (by kernel_rfl) (by kernel_rfl) rfl (by kernel_rfl) (by simp [Tryz.f229]) (fun hok=>?_)
 simp -implicitDefEqProofs [monthWs]
theorem message_weekdays:ACalls Tryz.prog 227 [] (.x (strs dayWs)):=by
 refine ACalls.of mixed (fn:=Tryz.f227) (by kernel_rfl) (by kernel_rfl) rfl (by kernel_rfl) (by simp [Tryz.f227]) (fun hok=>?_)
 simp -implicitDefEqProofs [dayWs]
theorem month_at (m:Nat) (h:1≤m∧m≤12):monthWs.getD (m-1) []=monthL m:=by
 have:∀k:Fin 12,monthWs.getD k.val []=monthL (k.val+1):=by decide
 have:=this ⟨m-1,by omega⟩
 simp only at this
 rw [this,show m-1+1=m by omega]
theorem day_at (k:Nat) (h:k<7):dayWs.getD k []=weekL ((k+1) % 7):=by
 have:∀k:Fin 7,dayWs.getD k.val []=weekL ((k.val+1) % 7):=by decide
 exact this ⟨k,h⟩
theorem message_dateText (t:Int) (h:momentB t=true):ACalls Tryz.prog 135 [.one (.int .i64 t)] (.x (.one (.str (dateL t)))):=by
 have hb:=moment_bounds h
 have hok:=date_ok h
 have k1:=message_DateOf t h
 unfold dateRow at k1
 unfold dateL
 obtain ⟨W,eW⟩:∃W,W=((t / 86400+4) % 7).toNat:=⟨_,rfl⟩
 obtain ⟨v,ev⟩:∃v:Nat,v=((t / 86400+3) % 7).toNat:=⟨_,rfl⟩
 have hv:v<7:=by omega
 have hW:W=(v+1) % 7:=by omega
 obtain ⟨⟨y1,y2⟩,⟨m1,m2⟩,⟨d1,d2⟩⟩:=hok
 have eQ:t.tdiv 86400=t / 86400:=tdiv_pos _ hb.1
 obtain ⟨Q,eq⟩:∃Q,Q=t / 86400:=⟨_,rfl⟩
 have q0:0≤Q∧Q≤2932896:=by omega
 have e7:(Q+3).tmod 7=(v:Int):=by rw [tmod_pos _ (by omega)];omega
 obtain ⟨H,eH⟩:∃H:Nat,H=(t % 86400 / 3600).toNat:=⟨_,rfl⟩
 obtain ⟨I,eI⟩:∃I:Nat,I=(t % 86400 / 60 % 60).toNat:=⟨_,rfl⟩
 obtain ⟨S,eS⟩:∃S:Nat,S=(t % 86400 % 60).toNat:=⟨_,rfl⟩
 obtain ⟨Y,eY⟩:∃Y:Nat,Y=(yearOf (t / 86400)).toNat:=⟨_,rfl⟩
 obtain ⟨M,eM⟩:∃M:Nat,M=(monthOf (t / 86400)).toNat:=⟨_,rfl⟩
 obtain ⟨D,eD⟩:∃D:Nat,D=(dayOf (t / 86400)).toNat:=⟨_,rfl⟩
 have hH:t % 86400 / 3600=(H:Int):=by omega
 have hI:t % 86400 / 60 % 60=(I:Int):=by omega
 have hS:t % 86400 % 60=(S:Int):=by omega
 have hY:yearOf (t / 86400)=(Y:Int):=by omega
 have hM:monthOf (t / 86400)=(M:Int):=by omega
 have hD:dayOf (t / 86400)=(D:Int):=by omega
 rw [hH,hI,hS,hY,hM,hD] at k1
 rw [←eW,←eH,←eI,←eS,←eY,←eM,←eD,hW]
 have p1:=message_Padded D 2 (by omega) (by omega) (by omega)
 have p2:=message_Padded Y 4 (by omega) (by omega) (by omega)
 have p3:=message_Padded H 2 (by omega) (by omega) (by omega)
 have p4:=message_Padded I 2 (by omega) (by omega) (by omega)
 have p5:=message_Padded S 2 (by omega) (by omega) (by omega)
 have w1:IntKind.i64.wrap (t / 86400)=Q:=by rw [←eq];exact wrapS _ (by omega)
 have w2:IntKind.i64.wrap (Q+3)=Q+3:=wrapS _ (by omega)
 have w3:IntKind.i64.wrap (v:Int)=(v:Int):=wrapS _ (by omega)
 have w4:IntKind.i64.wrap ((M:Int)-1)=(((M-1:Nat)):Int):=by rw [wrapS _ (by omega)];omega
 have lenP:∀k n,(padD k n).length=k:=padD_len
 have ha:=day_at v hv
 have hm:=month_at M (by omega)
 have hl7:dayWs.length=7:=rfl
 have hl12:monthWs.length=12:=rfl
 have i1:∀h,((dayWs.map fun s=>[CV.str s])[v]'h)=[.str (weekL ((v+1) % 7))]:=fun h=>by
  rw [List.getElem_map]
  rw [List.getD_eq_getElem?_getD,List.getElem?_eq_getElem (by omega)] at ha
  rw [←ha];rfl
 have i2:monthWs[M-1]?=some (monthL M):=by
  rw [List.getD_eq_getElem?_getD,List.getElem?_eq_getElem (by omega)] at hm
  rw [List.getElem?_eq_getElem (by omega),←hm];rfl
 have hM12:(((M-1:Nat):Int)<12)=True:=eq_true (by omega)
 refine ACalls.of mixed (fn:=Tryz.f135) (by kernel_rfl) (by kernel_rfl) rfl (by kernel_rfl) (by simp [Tryz.f135]) (fun hok=>?_)
 simp -implicitDefEqProofs
 refine ACallK.of k1 ?_
 simp -implicitDefEqProofs
 refine ACallK.of message_weekdays ?_
 simp -implicitDefEqProofs [eQ,w1,w2,e7,hl7,hv,i1]
 have lW:(weekL ((v+1) % 7)).length≤3:=by unfold weekL;simp only [List.length_take];omega
 have lM:(monthL M).length≤3:=by unfold monthL;simp only [List.length_take];omega
 clear ha hm i1
 generalize weekL ((v+1) % 7)=WD at *
 have mx:(1000:Nat)≤maxLen:=by unfold maxLen;omega
 have l1:(padD 2 D).length=2:=lenP 2 D
 have l2:(padD 4 Y).length=4:=lenP 4 Y
 have l3:(padD 2 H).length=2:=lenP 2 H
 have l4:(padD 2 I).length=2:=lenP 2 I
 have l5:(padD 2 S).length=2:=lenP 2 S
 generalize padD 2 D=PD at *
 generalize padD 4 Y=PY at *
 generalize padD 2 H=PH at *
 generalize padD 2 I=PI at *
 generalize padD 2 S=PS at *
 generalize monthL M=MD at *
 refine ⟨by omega,by omega,ACallK.of p1 ?_⟩
 simp -implicitDefEqProofs [l1]
 refine ⟨by omega,by omega,ACallK.of message_months ?_⟩
 simp -implicitDefEqProofs [w4,hl12,i2,hM12]
 refine ⟨by omega,by omega,ACallK.of p2 ?_⟩
 simp -implicitDefEqProofs [l1,l2]
 refine ⟨by omega,by omega,ACallK.of p3 ?_⟩
 simp -implicitDefEqProofs [l1,l2,l3]
 refine ⟨by omega,by omega,ACallK.of p4 ?_⟩
 simp -implicitDefEqProofs [l1,l2,l3,l4]
 refine ⟨by omega,by omega,ACallK.of p5 ?_⟩
 simp -implicitDefEqProofs [l1,l2,l3,l4,l5]
 exact ⟨by omega,by omega⟩
def rdD (s:List UInt8):List UInt8:=cutAt s 5 7
def rdY (s:List UInt8):List UInt8:=cutAt s 12 16
def rdH (s:List UInt8):List UInt8:=cutAt s 17 19
def rdI (s:List UInt8):List UInt8:=cutAt s 20 22
def rdS (s:List UInt8):List UInt8:=cutAt s 23 25
def rdParts (s:List UInt8):List (List UInt8):=[rdD s,rdY s,rdH s,rdI s,rdS s]
def rdM (s:List UInt8):Nat:=match monthWs.findIdx? (·==cutAt s 8 11) with
 | some i=>i+1
 | none=>0
def rdN (s:List UInt8):Int:=dateN (decV (rdY s):Nat) (rdM s:Nat) (decV (rdD s):Nat) (decV (rdH s):Nat) (decV (rdI s):Nat) (decV (rdS s):Nat)
def rdOk (s:List UInt8):Bool:=decide (s.length=29)&&((rdParts s).all (fun x=>x.all isDig)&&(decide (rdM s≠0)&&(decide (1970≤decV (rdY s))&&(momentB (rdN s)&&decide (dateL (rdN s)=s)))))
def rdV (s:List UInt8):Int:=if rdOk s=true then rdN s else 0
theorem rdM_le (s:List UInt8):rdM s≤12:=by
 unfold rdM
 cases h:monthWs.findIdx? (·==cutAt s 8 11) with
 | none=>simp
 | some i =>
  have:=(List.findIdx?_eq_some_iff_getElem.1 h).1
  simp [monthWs] at this ⊢
  omega
theorem cutAt_len {s:List UInt8} {a b:Int} (h0:0≤a) (h1:a≤b) (h2:b≤s.length):(cutAt s a b).length=(b-a).toNat:=by
 unfold cutAt
 simp
 omega
theorem trim_digs' (s:List UInt8):(Lib.trimS s digCs=[])↔s.all isDig=true:=trim_digs s
theorem message_readDate (s:List UInt8):ACalls Tryz.prog 194 [.one (.str s)] (.tup [.one (.int .i64 (rdV s)),.one (.bool (rdOk s))]):=by
 obtain ⟨B,eB⟩:∃B,B=rdOk s:=⟨_,rfl⟩
 obtain ⟨V,eV⟩:∃V,V=rdV s:=⟨_,rfl⟩
 rw [←eB,←eV]
 unfold rdV at eV
 rw [←eB] at eV
 unfold rdOk at eB
 by_cases hl:s.length=29
 rotate_left
 ·have hl':((s.length:Int)=29)=False:=eq_false (by omega)
  rw [decide_eq_false hl,Bool.false_and] at eB
  subst eB
  rw [if_neg (by decide)] at eV
  subst eV
  refine ACalls.of mixed (fn:=Tryz.f194) (by kernel_rfl) (by kernel_rfl) rfl (by kernel_rfl) (by simp [Tryz.f194]) (fun hok=>?_)
  simp -implicitDefEqProofs [hl']
 rw [decide_eq_true hl,Bool.true_and] at eB
 have hl':((s.length:Int)=29)=True:=eq_true (by omega)
 have k0:ACalls Tryz.prog 147 [strs monthWs,.one (.str (cutAt s 8 11))] (.x (.one (.int .i64 ((rdM s:Int)-1)))):=by
  have k:=slices_IndexS monthWs (cutAt s 8 11)
  unfold rdM
  cases h:monthWs.findIdx? (·==cutAt s 8 11) with
  | none=>rw [h] at k;exact k
  | some i=>rw [h] at k;simpa using k
 have hm12:=rdM_le s
 have wM:IntKind.i64.wrap ((rdM s:Int)-1+1)=(rdM s:Int):=by rw [wrapS _ (by omega)];omega
 have wM':IntKind.i64.wrap (rdM s:Int)=(rdM s:Int):=wrapS _ (by omega)
 refine ACalls.of mixed (fn:=Tryz.f194) (by kernel_rfl) (by kernel_rfl) rfl (by kernel_rfl) (by simp [Tryz.f194]) (fun hok=>?_)
 simp -implicitDefEqProofs [hl']
 refine ACallK.of message_months ?_
 simp -implicitDefEqProofs
 have p1:cutAt s 5 7=rdD s:=rfl
 have p2:cutAt s 12 16=rdY s:=rfl
 have p3:cutAt s 17 19=rdH s:=rfl
 have p4:cutAt s 20 22=rdI s:=rfl
 have p5:cutAt s 23 25=rdS s:=rfl
 have n1:(rdD s).length=2:=cutAt_len (by omega) (by omega) (by omega)
 have n2:(rdY s).length=4:=cutAt_len (by omega) (by omega) (by omega)
 have n3:(rdH s).length=2:=cutAt_len (by omega) (by omega) (by omega)
 have n4:(rdI s).length=2:=cutAt_len (by omega) (by omega) (by omega)
 have n5:(rdS s).length=2:=cutAt_len (by omega) (by omega) (by omega)
 have b7:(7≤(s.length:Int))=True:=eq_true (by omega)
 have b16:(16≤(s.length:Int))=True:=eq_true (by omega)
 have b19:(19≤(s.length:Int))=True:=eq_true (by omega)
 have b22:(22≤(s.length:Int))=True:=eq_true (by omega)
 have b25:(25≤(s.length:Int))=True:=eq_true (by omega)
 refine ⟨by omega,ACallK.of k0 ?_⟩
 simp -implicitDefEqProofs [wM,wM',p1,p2,p3,p4,p5,b7,b16,b19,b22,b25]
 have hPl:(rdParts s).length=5:=rfl
 have hP4:∀x∈rdParts s,1≤x.length∧x.length≤4:=by
  intro x hx
  simp only [rdParts,List.mem_cons,List.not_mem_nil,or_false] at hx
  rcases hx with rfl | rfl | rfl | rfl | rfl<;>omega
 have hEl:([[.str (rdD s)],[.str (rdY s)],[.str (rdH s)],[.str (rdI s)],[.str (rdS s)]]:List (List CV))=(rdParts s).map fun x=>[.str x]:=rfl
 have fin:∀(K:List (List UInt8)),K=rdParts s→True:=fun _ _=>trivial
 refine ALoopS.of Nat (fun i=>[(0,.x (.one (.str s))),(4,.x (.one (.int .i64 (rdM s:Nat)))),(5,.own 3 1 (((rdParts s).take i).map fun x=>[.int .i64 (decV x:Nat)])),(29,.own 9 1 ((rdParts s).map fun x=>[.str x])),(30,.x (.one (.int .i64 5))),(31,.x (.one (.int .i64 i)))]) (fun i=>i≤5∧((rdParts s).take i).all (fun x=>x.all isDig)=true) (fun i=>5-i) 0 ⟨by omega,by simp⟩ ?_ ?_
 ·simp [hEl]
 rintro i ⟨hi,hd⟩
 by_cases hlt:i<5
 ·have hlt':((i:Int)<5)=True:=eq_true (by omega)
  have hwr:IntKind.i64.wrap ((i:Int)+1)=(i:Int)+1:=wrapS _ (by omega)
  have hil:i<(rdParts s).length:=by omega
  obtain ⟨x,ex⟩:∃x,x=(rdParts s)[i]:=⟨_,rfl⟩
  have hx4:=hP4 x (by rw [ex];exact List.getElem_mem hil)
  have hat:(rdParts s)[i]?=some x:=by rw [ex];exact List.getElem?_eq_getElem hil
  have ht:(rdParts s).take (i+1)=(rdParts s).take i++[x]:=by rw [ex,List.take_succ_eq_append_getElem hil]
  have htl:((rdParts s).take i).length=i:=by rw [List.length_take,hPl];omega
  have k1:=strings_Trim x digCs (by decide) (by decide)
  have hc:=trim_digs' x
  generalize Lib.trimS x digCs=T at k1 hc
  unfold digCs at k1
  simp -implicitDefEqProofs [hlt',hat,hPl,hil]
  refine ACallK.of k1 ?_
  by_cases hT:T=[]
  ·have hxd:=hc.1 hT
   subst hT
   have hz:decV x<10 ^ 4:=Nat.lt_of_lt_of_le (decV_lt x hxd) (Nat.pow_le_pow_right (by omega) hx4.2)
   have k2:=strconv_Atoi1 x _ (by omega) (atoi_eq hxd (by rintro rfl;simp at hx4))
   simp -implicitDefEqProofs
   refine ACallK.of k2 ?_
   have hcap:i+1≤maxLen:=by unfold maxLen;omega
   simp -implicitDefEqProofs [htl,hwr]
   refine ⟨⟨by omega,by unfold maxLen;omega⟩,?_⟩
   refine Again.of (i+1) ⟨by omega,?_⟩ (by omega) (by simp [ht,hwr])
   rw [ht,List.all_append,hd]
   simp only [List.all_cons,List.all_nil,Bool.and_true,Bool.true_and]
   exact hxd
  ·have hB:B=false:=by
    rw [eB]
    have:((rdParts s).all fun x=>x.all isDig)=false:=by
     rw [List.all_eq_false]
     exact ⟨x,by rw [ex];exact List.getElem_mem hil,fun h=>hT (hc.2 h)⟩
    rw [this];rfl
   subst hB
   rw [if_neg (by decide)] at eV
   subst eV
   simp -implicitDefEqProofs [hT]
 ·have e5:i=5:=by omega
  subst e5
  have hall:((rdParts s).all fun x=>x.all isDig)=true:=by rw [List.take_of_length_le (by omega)] at hd;exact hd
  rw [hall,Bool.true_and] at eB
  have hdg:∀x∈rdParts s,x.all isDig=true:=fun x hx=>List.all_eq_true.1 hall x hx
  have v1:decV (rdD s)<100:=by have:=decV_lt (rdD s) (hdg _ (by simp [rdParts]));rw [n1] at this;exact this
  have v2:decV (rdY s)<10000:=by have:=decV_lt (rdY s) (hdg _ (by simp [rdParts]));rw [n2] at this;exact this
  have v3:decV (rdH s)<100:=by have:=decV_lt (rdH s) (hdg _ (by simp [rdParts]));rw [n3] at this;exact this
  have v4:decV (rdI s)<100:=by have:=decV_lt (rdI s) (hdg _ (by simp [rdParts]));rw [n4] at this;exact this
  have v5:decV (rdS s)<100:=by have:=decV_lt (rdS s) (hdg _ (by simp [rdParts]));rw [n5] at this;exact this
  have eN:rdN s=(dY (decV (rdY s):Nat)+dM (decV (rdY s):Nat) (rdM s:Nat)+(decV (rdD s):Nat)-1)*86400+(decV (rdH s):Nat)*3600+(decV (rdI s):Nat)*60+(decV (rdS s):Nat):=rfl
  have hrows:(((rdParts s).take 5).map fun x=>[CV.int .i64 (decV x:Nat)])=[[.int .i64 (decV (rdD s):Nat)],[.int .i64 (decV (rdY s):Nat)],[.int .i64 (decV (rdH s):Nat)],[.int .i64 (decV (rdI s):Nat)],[.int .i64 (decV (rdS s):Nat)]]:=rfl
  rw [hrows]
  generalize decV (rdD s)=D at *
  generalize decV (rdY s)=Y at *
  generalize decV (rdH s)=H at *
  generalize decV (rdI s)=I at *
  generalize decV (rdS s)=S at *
  generalize rdM s=M at *
  by_cases hM:M=0
  ·subst hM
   have hB:B=false:=by rw [eB];rfl
   subst hB
   rw [if_neg (by decide)] at eV
   subst eV
   simp -implicitDefEqProofs
  have hM':((M:Int)=0)=False:=eq_false (by omega)
  rw [decide_eq_true hM,Bool.true_and] at eB
  by_cases hY:1970≤Y
  rotate_left
  ·have hY':((Y:Int)<1970)=True:=eq_true (by omega)
   have hB:B=false:=by rw [eB,decide_eq_false hY];rfl
   subst hB
   rw [if_neg (by decide)] at eV
   subst eV
   simp -implicitDefEqProofs [hM,hM',hY']
  have hY':((Y:Int)<1970)=False:=eq_false (by omega)
  rw [decide_eq_true hY,Bool.true_and] at eB
  have kd:=message_days (Y:Int) (M:Int) (by omega) (by omega)
  obtain ⟨A,eA⟩:∃A,A=dY (Y:Int)+dM (Y:Int) (M:Int):=⟨_,rfl⟩
  have hA:-1000000≤A∧A≤4000000:=by
   have d1:=dM_mono (Y:Int) (a:=1) (b:=(M:Int)) (by omega) (by omega)
   have d2:=dM_mono (Y:Int) (a:=(M:Int)) (b:=13) (by omega) (by omega)
   rw [dM_one] at d1
   rw [dM_year] at d2
   have d3:yLen (Y:Int)≤366:=by unfold yLen;split<;>omega
   have d4:=dY_mono (a:=1970) (b:=(Y:Int)) (by omega)
   have d5:=dY_mono (a:=(Y:Int)) (b:=10000) (by omega)
   rw [dY_1970] at d4
   have d6:dY 10000=2932897:=by decide
   omega
  rw [←eA] at kd eN
  have w1:IntKind.i64.wrap (A+(D:Int))=A+(D:Int):=wrapS _ (by omega)
  have w2:IntKind.i64.wrap (A+(D:Int)-1)=A+(D:Int)-1:=wrapS _ (by omega)
  have w3:IntKind.i64.wrap ((A+(D:Int)-1)*86400)=(A+(D:Int)-1)*86400:=wrapS _ (by omega)
  have w4:IntKind.i64.wrap ((H:Int)*3600)=(H:Int)*3600:=wrapS _ (by omega)
  have w5:IntKind.i64.wrap ((A+(D:Int)-1)*86400+(H:Int)*3600)=(A+(D:Int)-1)*86400+(H:Int)*3600:=wrapS _ (by omega)
  have w6:IntKind.i64.wrap ((I:Int)*60)=(I:Int)*60:=wrapS _ (by omega)
  have w7:IntKind.i64.wrap ((A+(D:Int)-1)*86400+(H:Int)*3600+(I:Int)*60)=(A+(D:Int)-1)*86400+(H:Int)*3600+(I:Int)*60:=wrapS _ (by omega)
  have w8:IntKind.i64.wrap ((A+(D:Int)-1)*86400+(H:Int)*3600+(I:Int)*60+(S:Int))=rdN s:=by rw [eN];exact wrapS _ (by omega)
  have km:=isMoment (rdN s)
  have kt:=message_dateText (rdN s)
  simp -implicitDefEqProofs [hM,hM',hY']
  refine ACallK.of kd ?_
  simp -implicitDefEqProofs [w1,w2,w3,w4,w5,w6,w7,w8]
  refine ACallK.of km ?_
  generalize rdN s=N at *
  cases hm:momentB N
  ·rw [hm] at eB
   simp only [Bool.false_and] at eB
   subst eB
   rw [if_neg (by decide)] at eV
   subst eV
   simp -implicitDefEqProofs
   refine ACallGS.of (fun h=>by cases h) (r:=.x (.one (.str []))) rfl ?_
   simp -implicitDefEqProofs
  ·rw [hm,Bool.true_and] at eB
   simp -implicitDefEqProofs
   refine ACallGS.of (fun _=>kt hm) rfl ?_
   by_cases hE:dateL N=s
   ·rw [decide_eq_true hE] at eB
    subst eB
    rw [if_pos rfl] at eV
    subst eV
    simp -implicitDefEqProofs [hE]
   ·rw [decide_eq_false hE] at eB
    subst eB
    rw [if_neg (by decide)] at eV
    subst eV
    simp -implicitDefEqProofs [hE]
theorem message_ReadDate (s:List UInt8):ACalls Tryz.prog 106 [.one (.str s)] (.tup [.one (.int .i64 (rdV s)),.one (.int .i64 (if rdOk s=true then 0 else 10))]):=by
 have k:=message_readDate s
 have h:rdOk s=false→rdV s=0:=fun h=>by unfold rdV;rw [h];rfl
 generalize rdV s=V at *
 generalize rdOk s=B at *
 refine ACalls.of mixed (fn:=Tryz.f106) (by kernel_rfl) (by kernel_rfl) rfl (by kernel_rfl) (by simp [Tryz.f106]) (fun hok=>?_)
 simp -implicitDefEqProofs
 refine ACallK.of k ?_
 cases B
 ·rw [h rfl]
  simp -implicitDefEqProofs
 ·simp -implicitDefEqProofs
theorem message_DateText (t:Int):ACalls Tryz.prog 79 [.one (.int .i64 t)] (.tup [.one (.str (if momentB t=true then dateL t else [])),.one (.int .i64 (if momentB t=true then 0 else 1))]):=by
 have km:=isMoment t
 have kt:=message_dateText t
 generalize dateL t=D at *
 generalize momentB t=B at *
 refine ACalls.of mixed (fn:=Tryz.f79) (by kernel_rfl) (by kernel_rfl) rfl (by kernel_rfl) (by simp [Tryz.f79]) (fun hok=>?_)
 simp -implicitDefEqProofs
 refine ACallK.of km ?_
 cases B
 ·simp -implicitDefEqProofs
 ·simp -implicitDefEqProofs
  refine ACallK.of (kt rfl) ?_
  simp -implicitDefEqProofs
end Go.Proofs.YtlcmnclbljedfaaGreatDoor
namespace Go.Proofs.YtlcmnclbljedfaaGreatDoor
open Go Go.Ab
def hexC (c:UInt8):Bool:=isDig c || ((decide (97≤c.toNat)&&decide (c.toNat≤102)) || (decide (65≤c.toNat)&&decide (c.toNat≤70)))
def smallC (c:UInt8):UInt8:=if 65≤c.toNat∧c.toNat≤90 then c+32 else c
def smallL (s:List UInt8):List UInt8:=s.map smallC
def badCs:List UInt8:=[34,35,60,62,92,94,123,124,125,96]
def rowC (c:UInt8):Bool:=(decide (33≤c.toNat)&&decide (c.toNat≤126))&&!badCs.contains c
def hex2:List UInt8→Bool
 | a::b::_=>hexC a&&hexC b
 | _=>false
def rowEndL (w:List UInt8):List UInt8→Nat×Bool
 | []=>(0,true)
 | c::r=>if w.contains c=true then (0,true) else if rowC c=false∨(c=37∧hex2 r=false) then (0,false) else ((rowEndL w r).1+1,(rowEndL w r).2)
structure Addr where
 scheme:List UInt8
 host:List UInt8
 port:List UInt8
 path:List UInt8
 query:List UInt8
 hasQ:Bool
 frag:List UInt8
 hasF:Bool
 deriving DecidableEq
def Addr.row (a:Addr):List CV:=[.str a.scheme,.str a.host,.str a.port,.str a.path,.str a.query,.bool a.hasQ,.str a.frag,.bool a.hasF]
def comL:List UInt8→List UInt8→Nat
 | w::ws,t::ts=>if smallC t=w then comL ws ts+1 else 0
 | _,_=>0
structure RestR where
 ok:Bool
 n:Nat
 path:List UInt8
 query:List UInt8
 hasQ:Bool
 frag:List UInt8
 hasF:Bool
theorem u8_all {p:UInt8→Prop} (h:∀n:Fin 256,p (UInt8.ofNat n.1)) (c:UInt8):p c:=by
 have:=h ⟨c.toNat,c.toNat_lt⟩
 simpa using this
end Go.Proofs.YtlcmnclbljedfaaGreatDoor
namespace Go.Proofs.YtlcmnclbljedfaaGreatDoor
open Go Go.Ab
variable [Amb]
set_option maxRecDepth 100000
set_option maxHeartbeats 4000000
abbrev byteX (c:UInt8):XV:=.one (.int .u8 c.toNat)
theorem smallC_nat (c:UInt8):((smallC c).toNat:Int)=if 65≤c.toNat∧c.toNat≤90 then (c.toNat:Int)+32 else c.toNat:=by
 have:∀c:UInt8,((smallC c).toNat:Int)=if 65≤c.toNat∧c.toNat≤90 then (c.toNat:Int)+32 else c.toNat:=u8_all (by decide +kernel)
 exact this c
def halfL (s:List UInt8) (i:Nat):List UInt8:=smallL (s.take i)++s.drop i
@[simp] theorem halfL_len (s:List UInt8) (i:Nat):(halfL s i).length=s.length:=by
 unfold halfL smallL
 rw [List.length_append,List.length_map,←List.length_append,List.take_append_drop]
theorem halfL_zero (s:List UInt8):halfL s 0=s:=by simp [halfL,smallL]
theorem halfL_full (s:List UInt8):halfL s s.length=smallL s:=by simp [halfL]
theorem halfL_at {s:List UInt8} {i:Nat} (h:i<s.length):(halfL s i)[i]'(by simpa using h)=s[i]:=by
 have hl:(smallL (s.take i)).length=i:=by simp [smallL];omega
 unfold halfL
 rw [List.getElem_append_right (by omega)]
 simp [hl]
theorem halfL_step {s:List UInt8} {i:Nat} (h:i<s.length):halfL s (i+1)=(halfL s i).set i (smallC s[i]):=by
 have hl:(smallL (s.take i)).length=i:=by simp [smallL];omega
 have e:smallL (s.take (i+1))=smallL (s.take i)++[smallC s[i]]:=by
  show (s.take (i+1)).map smallC=_
  rw [List.take_add_one,List.getElem?_eq_getElem h,List.map_append];rfl
 unfold halfL
 rw [e,List.set_append_right _ _ (by omega),hl,Nat.sub_self,List.drop_eq_getElem_cons h,List.set_cons_zero]
 simp
theorem byteRows_set (l:List UInt8) (i:Nat) (c:UInt8):(byteRows l).set i (byteRow c)=byteRows (l.set i c):=by
 unfold byteRows;rw [List.map_set]
theorem set_same {l:List UInt8} {i:Nat} (h:i<l.length):l.set i l[i]=l:=List.set_getElem_self h
theorem strB_rows (l:List UInt8):strB (byteRows l)=l:=by
 unfold strB byteRows
 rw [List.map_map]
 have:(cellB∘byteRow)=id:=by funext b;simp [cellB,byteRow]
 rw [this,List.map_id]
theorem okB_rows (l:List UInt8):okB (byteRows l):=by
 intro x hx
 obtain ⟨b,_,rfl⟩:=List.mem_map.1 hx
 exact ⟨_,rfl⟩
theorem byteRows_at {l:List UInt8} {i:Nat} (h:i<l.length):(byteRows l)[i]?=some (byteRow l[i]):=by simp [byteRows,h]
theorem rows_at {l:List UInt8} {i:Nat} (h:i<(byteRows l).length):(byteRows l)[i]=byteRow (l[i]'(by simpa [byteRows] using h)):=by simp [byteRows]
theorem rows_len (l:List UInt8):(byteRows l).length=l.length:=by simp [byteRows]
theorem address_Small (s:List UInt8):ACalls Tryz.prog 134 [.one (.str s)] (.x (.one (.str (smallL s)))):=by
 refine ACalls.of mixed (fn:=Tryz.f134) (by kernel_rfl) (by kernel_rfl) rfl (by kernel_rfl) (by simp [Tryz.f134]) (fun hok=>?_)
 have hl:s.length≤maxLen:=by simpa [XV.ok,CV.ok] using hok
 have hR:=rows_len
 have hR0:=halfL_len s
 simp -implicitDefEqProofs [hR]
 refine ALoopS.of Nat (fun i=>[(3,.own 5 1 (byteRows (halfL s i))),(8,.alias 3),(9,.x (.one (.int .i64 s.length))),(10,.x (.one (.int .i64 i)))]) (fun i=>i≤s.length) (fun i=>s.length-i) 0 (Nat.zero_le _) ?_ ?_
 ·simp [halfL_zero]
 intro i hi
 by_cases hlt:i<s.length
 ·have hlt':((i:Int)<(s.length:Int))=True:=eq_true (by omega)
  have hwr:IntKind.i64.wrap ((i:Int)+1)=(i:Int)+1:=wrapS _ (by unfold maxLen at hl;omega)
  have hat:∀h,(byteRows (halfL s i))[i]'h=byteRow s[i]:=fun h=>by rw [rows_at,halfL_at hlt]
  have hst:=halfL_step hlt
  by_cases hc:65≤s[i].toNat∧s[i].toNat≤90
  ·have c1:(65≤(s[i].toNat:Int))=True:=eq_true (by omega)
   have c2:((s[i].toNat:Int)≤90)=True:=eq_true (by omega)
   have hw:IntKind.u8.wrap (IntKind.u8.wrap ((s[i].toNat:Int)+97)-65)=((smallC s[i]).toNat:Int):=by
    rw [smallC_nat,if_pos hc];simp [IntKind.wrap,IntKind.signed,IntKind.bits];omega
   simp -implicitDefEqProofs [hlt,hlt',hR,hat,c1,c2,hw]
   refine Again.of (i+1) hlt (by omega) ?_
   have hst2:byteRows (halfL s (i+1))=(byteRows (halfL s i)).set i (byteRow (smallC s[i])):=by rw [hst,byteRows_set]
   simp [hst2,hwr]
  ·have hsame:smallC s[i]=s[i]:=by unfold smallC;rw [if_neg hc]
   have hst':halfL s (i+1)=halfL s i:=by
    rw [hst,hsame,←halfL_at hlt,set_same]
   by_cases h1:65≤s[i].toNat
   ·have c1:(65≤(s[i].toNat:Int))=True:=eq_true (by omega)
    have c2:((s[i].toNat:Int)≤90)=False:=eq_false (by omega)
    simp -implicitDefEqProofs [hlt,hlt',hR,hat,c1,c2]
    refine Again.of (i+1) hlt (by omega) ?_
    simp [hst',hwr]
   ·have c1:(65≤(s[i].toNat:Int))=False:=eq_false (by omega)
    simp -implicitDefEqProofs [hlt,hlt',hR,hat,c1]
    refine Again.of (i+1) hlt (by omega) ?_
    simp [hst',hwr]
 ·have hlt':((i:Int)<(s.length:Int))=False:=eq_false (by omega)
  have hi':i=s.length:=by omega
  subst hi'
  have ho:=okB_rows (smallL s)
  have hb:=strB_rows (smallL s)
  have hf:=halfL_full s
  have hsl:(smallL s).length=s.length:=by simp [smallL]
  simp -implicitDefEqProofs [hlt',hf,ho,hb,hsl,hR]
def atByte (s:List UInt8) (c:UInt8):Int:=if c∈s then ((befC c s).length:Int) else -1
theorem atByte_in {s:List UInt8} {c:UInt8} (h:s.contains c=true):0≤atByte s c:=by
 unfold atByte;rw [if_pos (by simpa using h)];omega
theorem atByte_no {s:List UInt8} {c:UInt8} (h:s.contains c=false):atByte s c=-1:=by
 unfold atByte;rw [if_neg (by intro hm;rw [List.contains_iff_mem.2 hm] at h;cases h)]
theorem strings_IndexByte (s:List UInt8) (c:UInt8):ACalls Tryz.prog 215 [.one (.str s),byteX c] (.x (.one (.int .i64 (atByte s c)))):=by
 unfold atByte
 rw [←index_byte]
 refine ACalls.ofKit [.string ⟨s.toArray⟩,.int .u8 c.toNat] _ (callable_of Tryz.f215 (by kernel_rfl) (by kernel_rfl) rfl) rfl (fun _ _=>repR_int _ _) (fun _ w=>?_)
 refine (Any.strings_IndexByte { layn160 with } ⟨s.toArray⟩ c.toNat w).mono ?_
 rintro e w' ⟨rfl,rfl⟩
 have:(c.toNat:Int).toNat.toUInt8=c:=by simp
 rw [this]
 exact ⟨rfl,RowKit.Below.refl _ _⟩
structure RowAt (w s:List UInt8) (i:Nat):Prop where
 le:i≤s.length
 eq:rowEndL w s=(i+(rowEndL w (s.drop i)).1,(rowEndL w (s.drop i)).2)
structure Addr.Fit (a:Addr):Prop where
 scheme:a.scheme.length≤300000000000000
 host:a.host.length≤300000000000000
 port:a.port.length≤300000000000000
 path:a.path.length≤300000000000000
 query:a.query.length≤300000000000000
 frag:a.frag.length≤300000000000000
end Go.Proofs.YtlcmnclbljedfaaGreatDoor
namespace Go.Proofs.YtlcmnclbljedfaaGreatDoor
open Go Go.Ab
end Go.Proofs.YtlcmnclbljedfaaGreatDoor
namespace Go.Proofs.YtlcmnclbljedfaaGreatDoor
open Go Go.Ab
variable [Amb]
set_option maxRecDepth 100000
set_option maxHeartbeats 4000000
end Go.Proofs.YtlcmnclbljedfaaGreatDoor
namespace Go.Proofs.YtlcmnclbljedfaaGreatDoor
open Go Go.Ab
structure ComAt (u t:List UInt8) (i:Nat):Prop where
 le:i≤u.length
 le2:i≤t.length
 eq:comL u t=i+comL (u.drop i) (t.drop i)
end Go.Proofs.YtlcmnclbljedfaaGreatDoor
namespace Go.Proofs.YtlcmnclbljedfaaGreatDoor
open Go Go.Ab
variable [Amb]
set_option maxRecDepth 100000
set_option maxHeartbeats 4000000
structure DocR where
 path:List UInt8
 query:List UInt8
 hasQ:Bool
 frag:List UInt8
 hasF:Bool
 bad:Int
end Go.Proofs.YtlcmnclbljedfaaGreatDoor
namespace Go.Proofs.YtlcmnclbljedfaaGreatDoor
open Go Go.Ab
end Go.Proofs.YtlcmnclbljedfaaGreatDoor
namespace Go.Proofs.YtlcmnclbljedfaaGreatDoor
open Go Go.Ab
variable [Amb]
set_option maxRecDepth 100000
set_option maxHeartbeats 4000000
end Go.Proofs.YtlcmnclbljedfaaGreatDoor
namespace Go.Proofs.YtlcmnclbljedfaaGreatDoor
open Go Go.Ab
variable [Amb] [HasPow10 Tryz.prog]
set_option maxRecDepth 100000
set_option maxHeartbeats 4000000
def tokCs:List UInt8:=[33,35,36,37,38,39,42,43,45,46,94,95,124,126]
def tokC (c:UInt8):Bool:=(decide (97≤c.toNat)&&decide (c.toNat≤122)) || (decide (65≤c.toNat)&&decide (c.toNat≤90)) || (decide (48≤c.toNat)&&decide (c.toNat≤57)) || tokCs.contains c
theorem tokC_in {c:UInt8} (h:(97≤c.toNat∧c.toNat≤122)∨(65≤c.toNat∧c.toNat≤90)∨(48≤c.toNat∧c.toNat≤57)):tokC c=true:=by
 unfold tokC
 rcases h with h | h | h<;>simp [h.1,h.2]
theorem tokC_cs {c:UInt8} (h:tokCs.contains c=true):tokC c=true:=by unfold tokC;rw [h,Bool.or_true]
theorem tokC_out {c:UInt8} (h:¬((97≤c.toNat∧c.toNat≤122)∨(65≤c.toNat∧c.toNat≤90)∨(48≤c.toNat∧c.toNat≤57))) (hc:tokCs.contains c=false):tokC c=false:=by
 unfold tokC
 rw [hc]
 cases h1:decide (97≤c.toNat)<;>cases h2:decide (c.toNat≤122)<;>cases h3:decide (65≤c.toNat)<;>cases h4:decide (c.toNat≤90)<;>cases h5:decide (48≤c.toNat)<;>cases h6:decide (c.toNat≤57) <;>
  simp only [decide_eq_true_eq,decide_eq_false_iff_not] at h1 h2 h3 h4 h5 h6<;>first | rfl | (exfalso;omega)
def tokB (s:List UInt8):Bool:=inB 1 40 s.length&&s.all tokC
theorem message_isToken (s:List UInt8):ACalls Tryz.prog 192 [.one (.str s)] (.x (.one (.bool (tokB s)))):=by
 obtain ⟨B,eB⟩:∃B,B=tokB s:=⟨_,rfl⟩
 rw [←eB]
 have hbad:∀i (h:i<s.length),tokC s[i]=false→B=false:=fun i h hc=>by rw [eB];unfold tokB;rw [all_bad h hc,Bool.and_false]
 refine ACalls.of mixed (fn:=Tryz.f192) (by kernel_rfl) (by kernel_rfl) rfl (by kernel_rfl) (by simp [Tryz.f192]) (fun hok=>?_)
 cases hin:inB 1 40 s.length
 ·have hB:B=false:=by rw [eB];unfold tokB;rw [hin,Bool.false_and]
  by_cases h1:s.length<1
  ·have h1':((s.length:Int)<1)=True:=eq_true (by omega)
   simp -implicitDefEqProofs [h1',hB]
  ·have h1':((s.length:Int)<1)=False:=eq_false (by omega)
   have h2:(40<(s.length:Int))=True:=eq_true (by simp [inB] at hin;omega)
   simp -implicitDefEqProofs [h1',h2,hB]
 have h1:((s.length:Int)<1)=False:=by simp [inB] at hin;exact eq_false (by omega)
 have h2:(40<(s.length:Int))=False:=by simp [inB] at hin;exact eq_false (by omega)
 simp -implicitDefEqProofs [h1,h2]
 refine ALoopS.of Nat (fun i=>[(0,.x (.one (.str s))),(14,.x (.one (.int .i64 s.length))),(15,.x (.one (.int .i64 i)))]) (Upto tokC s) (fun i=>s.length-i) 0 Upto.zero ?_ ?_
 ·simp
 intro i hi
 have hle:=hi.1
 by_cases hlt:i<s.length
 ·have hlt':((i:Int)<(s.length:Int))=True:=eq_true (by omega)
  have hwr:IntKind.i64.wrap ((i:Int)+1)=(i:Int)+1:=wrapS _ (by simp [inB] at hin;omega)
  have h255:=s[i].toNat_lt
  have hcl:(s[i].toNat≤47)∨(48≤s[i].toNat∧s[i].toNat≤57)∨(58≤s[i].toNat∧s[i].toNat≤64)∨(65≤s[i].toNat∧s[i].toNat≤90)∨(91≤s[i].toNat∧s[i].toNat≤96)∨(97≤s[i].toNat∧s[i].toNat≤122)∨(123≤s[i].toNat):=by omega
  rcases hcl with hcl | hcl | hcl | hcl | hcl | hcl | hcl
  ·-- 0..47
   have p0:(97≤(s[i].toNat:Int))=False:=eq_false (by omega)
   have p1:((s[i].toNat:Int)≤122)=True:=eq_true (by omega)
   have p2:(65≤(s[i].toNat:Int))=False:=eq_false (by omega)
   have p3:((s[i].toNat:Int)≤90)=True:=eq_true (by omega)
   have p4:(48≤(s[i].toNat:Int))=False:=eq_false (by omega)
   have p5:((s[i].toNat:Int)≤57)=True:=eq_true (by omega)
   simp -implicitDefEqProofs [hlt,hlt',p0,p1,p2,p3,p4,p5]
   refine ACallGS.of (fun _=>strings_IndexByte [33,35,36,37,38,39,42,43,45,46,94,95,124,126] s[i]) rfl ?_
   cases hc:tokCs.contains s[i]
   ·have g:atByte [33,35,36,37,38,39,42,43,45,46,94,95,124,126] s[i]=-1:=atByte_no hc
    have hB:=hbad i hlt (tokC_out (by omega) hc)
    simp -implicitDefEqProofs [g,hB]
   ·have g:(0≤atByte [33,35,36,37,38,39,42,43,45,46,94,95,124,126] s[i])=True:=eq_true (atByte_in hc)
    have g2:(atByte [33,35,36,37,38,39,42,43,45,46,94,95,124,126] s[i]<0)=False:=eq_false (by have h0:0≤atByte [33,35,36,37,38,39,42,43,45,46,94,95,124,126] s[i]:=atByte_in hc;omega)
    simp -implicitDefEqProofs [g,g2,hwr]
    exact Again.of (i+1) (hi.step hlt (tokC_cs hc)) (by omega) (by simp [hwr])
  ·-- 48..57
   have p0:(97≤(s[i].toNat:Int))=False:=eq_false (by omega)
   have p1:((s[i].toNat:Int)≤122)=True:=eq_true (by omega)
   have p2:(65≤(s[i].toNat:Int))=False:=eq_false (by omega)
   have p3:((s[i].toNat:Int)≤90)=True:=eq_true (by omega)
   have p4:(48≤(s[i].toNat:Int))=True:=eq_true (by omega)
   have p5:((s[i].toNat:Int)≤57)=True:=eq_true (by omega)
   simp -implicitDefEqProofs [hlt,hlt',p0,p1,p2,p3,p4,p5]
   refine ACallGS.of (fun h=>by cases h) (r:=.x (.one (.int .i64 0))) rfl ?_
   simp -implicitDefEqProofs [hwr,p0,p1,p2,p3,p4,p5]
   exact Again.of (i+1) (hi.step hlt (tokC_in (by omega))) (by omega) (by simp [hwr])
  ·-- 58..64
   have p0:(97≤(s[i].toNat:Int))=False:=eq_false (by omega)
   have p1:((s[i].toNat:Int)≤122)=True:=eq_true (by omega)
   have p2:(65≤(s[i].toNat:Int))=False:=eq_false (by omega)
   have p3:((s[i].toNat:Int)≤90)=True:=eq_true (by omega)
   have p4:(48≤(s[i].toNat:Int))=True:=eq_true (by omega)
   have p5:((s[i].toNat:Int)≤57)=False:=eq_false (by omega)
   simp -implicitDefEqProofs [hlt,hlt',p0,p1,p2,p3,p4,p5]
   refine ACallGS.of (fun _=>strings_IndexByte [33,35,36,37,38,39,42,43,45,46,94,95,124,126] s[i]) rfl ?_
   cases hc:tokCs.contains s[i]
   ·have g:atByte [33,35,36,37,38,39,42,43,45,46,94,95,124,126] s[i]=-1:=atByte_no hc
    have hB:=hbad i hlt (tokC_out (by omega) hc)
    simp -implicitDefEqProofs [g,hB]
   ·have g:(0≤atByte [33,35,36,37,38,39,42,43,45,46,94,95,124,126] s[i])=True:=eq_true (atByte_in hc)
    have g2:(atByte [33,35,36,37,38,39,42,43,45,46,94,95,124,126] s[i]<0)=False:=eq_false (by have h0:0≤atByte [33,35,36,37,38,39,42,43,45,46,94,95,124,126] s[i]:=atByte_in hc;omega)
    simp -implicitDefEqProofs [g,g2,hwr]
    exact Again.of (i+1) (hi.step hlt (tokC_cs hc)) (by omega) (by simp [hwr])
  ·-- 65..90
   have p0:(97≤(s[i].toNat:Int))=False:=eq_false (by omega)
   have p1:((s[i].toNat:Int)≤122)=True:=eq_true (by omega)
   have p2:(65≤(s[i].toNat:Int))=True:=eq_true (by omega)
   have p3:((s[i].toNat:Int)≤90)=True:=eq_true (by omega)
   have p4:(48≤(s[i].toNat:Int))=True:=eq_true (by omega)
   have p5:((s[i].toNat:Int)≤57)=False:=eq_false (by omega)
   simp -implicitDefEqProofs [hlt,hlt',p0,p1,p2,p3,p4,p5]
   refine ACallGS.of (fun h=>by cases h) (r:=.x (.one (.int .i64 0))) rfl ?_
   simp -implicitDefEqProofs [hwr,p0,p1,p2,p3,p4,p5]
   exact Again.of (i+1) (hi.step hlt (tokC_in (by omega))) (by omega) (by simp [hwr])
  ·-- 91..96
   have p0:(97≤(s[i].toNat:Int))=False:=eq_false (by omega)
   have p1:((s[i].toNat:Int)≤122)=True:=eq_true (by omega)
   have p2:(65≤(s[i].toNat:Int))=True:=eq_true (by omega)
   have p3:((s[i].toNat:Int)≤90)=False:=eq_false (by omega)
   have p4:(48≤(s[i].toNat:Int))=True:=eq_true (by omega)
   have p5:((s[i].toNat:Int)≤57)=False:=eq_false (by omega)
   simp -implicitDefEqProofs [hlt,hlt',p0,p1,p2,p3,p4,p5]
   refine ACallGS.of (fun _=>strings_IndexByte [33,35,36,37,38,39,42,43,45,46,94,95,124,126] s[i]) rfl ?_
   cases hc:tokCs.contains s[i]
   ·have g:atByte [33,35,36,37,38,39,42,43,45,46,94,95,124,126] s[i]=-1:=atByte_no hc
    have hB:=hbad i hlt (tokC_out (by omega) hc)
    simp -implicitDefEqProofs [g,hB]
   ·have g:(0≤atByte [33,35,36,37,38,39,42,43,45,46,94,95,124,126] s[i])=True:=eq_true (atByte_in hc)
    have g2:(atByte [33,35,36,37,38,39,42,43,45,46,94,95,124,126] s[i]<0)=False:=eq_false (by have h0:0≤atByte [33,35,36,37,38,39,42,43,45,46,94,95,124,126] s[i]:=atByte_in hc;omega)
    simp -implicitDefEqProofs [g,g2,hwr]
    exact Again.of (i+1) (hi.step hlt (tokC_cs hc)) (by omega) (by simp [hwr])
  ·-- 97..122
   have p0:(97≤(s[i].toNat:Int))=True:=eq_true (by omega)
   have p1:((s[i].toNat:Int)≤122)=True:=eq_true (by omega)
   have p2:(65≤(s[i].toNat:Int))=True:=eq_true (by omega)
   have p3:((s[i].toNat:Int)≤90)=False:=eq_false (by omega)
   have p4:(48≤(s[i].toNat:Int))=True:=eq_true (by omega)
   have p5:((s[i].toNat:Int)≤57)=False:=eq_false (by omega)
   simp -implicitDefEqProofs [hlt,hlt',p0,p1,p2,p3,p4,p5]
   refine ACallGS.of (fun h=>by cases h) (r:=.x (.one (.int .i64 0))) rfl ?_
   simp -implicitDefEqProofs [hwr,p0,p1,p2,p3,p4,p5]
   exact Again.of (i+1) (hi.step hlt (tokC_in (by omega))) (by omega) (by simp [hwr])
  ·-- 123..255
   have p0:(97≤(s[i].toNat:Int))=True:=eq_true (by omega)
   have p1:((s[i].toNat:Int)≤122)=False:=eq_false (by omega)
   have p2:(65≤(s[i].toNat:Int))=True:=eq_true (by omega)
   have p3:((s[i].toNat:Int)≤90)=False:=eq_false (by omega)
   have p4:(48≤(s[i].toNat:Int))=True:=eq_true (by omega)
   have p5:((s[i].toNat:Int)≤57)=False:=eq_false (by omega)
   simp -implicitDefEqProofs [hlt,hlt',p0,p1,p2,p3,p4,p5]
   refine ACallGS.of (fun _=>strings_IndexByte [33,35,36,37,38,39,42,43,45,46,94,95,124,126] s[i]) rfl ?_
   cases hc:tokCs.contains s[i]
   ·have g:atByte [33,35,36,37,38,39,42,43,45,46,94,95,124,126] s[i]=-1:=atByte_no hc
    have hB:=hbad i hlt (tokC_out (by omega) hc)
    simp -implicitDefEqProofs [g,hB]
   ·have g:(0≤atByte [33,35,36,37,38,39,42,43,45,46,94,95,124,126] s[i])=True:=eq_true (atByte_in hc)
    have g2:(atByte [33,35,36,37,38,39,42,43,45,46,94,95,124,126] s[i]<0)=False:=eq_false (by have h0:0≤atByte [33,35,36,37,38,39,42,43,45,46,94,95,124,126] s[i]:=atByte_in hc;omega)
    simp -implicitDefEqProofs [g,g2,hwr]
    exact Again.of (i+1) (hi.step hlt (tokC_cs hc)) (by omega) (by simp [hwr])
 ·have hlt':((i:Int)<(s.length:Int))=False:=eq_false (by omega)
  have hB:B=true:=by rw [eB];unfold tokB;rw [hin,hi.done hlt];rfl
  simp -implicitDefEqProofs [hlt',hB]
end Go.Proofs.YtlcmnclbljedfaaGreatDoor
