/- A part of the proof: lemmas and contracts of functions. -/
import Derived.Shelf.Lays
import Derived.Test.YtlcmnclbljedfaaGreatDoorProg
import Derived.KernelRfl
import Derived.Test.YtlcmnclbljedfaaGreatDoorAbJ4
import Derived.Test.YtlcmnclbljedfaaGreatDoorAbJ5
import Derived.Shelf.Small.Strs
import Derived.Shelf.Strings.SlTrimAscii
import Derived.Shelf.LaysM
import Derived.Lib.ItoaLen
import Derived.Shelf.Strconv.Itoa3
import Derived.Shelf.Strings.OnBuilder
import Derived.Lib.ItoaNum
import Derived.Lib.Atoi
import Derived.Shelf.Strings.BuilderX
import Derived.Shelf.Strings.Repeat
import Derived.Lib.Split
import Derived.Shelf.Strings.SplitCore
import Derived.Shelf.Strings.Search3
import Derived.Shelf.Strings.Count
import Derived.Shelf.Strconv.Atoi
import Derived.Lib.SplitLaws
import Derived.Lib.AtoiErrMem
set_option linter.all false
namespace Go.Proofs.YtlcmnclbljedfaaGreatDoor
open Go
set_option maxRecDepth 100000
end Go.Proofs.YtlcmnclbljedfaaGreatDoor
namespace Go.Proofs.YtlcmnclbljedfaaGreatDoor
open Go Go.Ab
@[simp]theorem zUQ:tk Tryz.prog 3=TK.one:=by kernel_rfl
@[simp]theorem zBV:za6 Tryz.prog 3=false:=by kernel_rfl
@[simp]theorem zM1:zbp Tryz.prog 3=some
 (XV.one (CV.int IntKind.i64 0)):=by kernel_rfl
@[simp]theorem zFr:zdZ Tryz.prog 3=some 8:=by kernel_rfl
@[simp]theorem zLA:zdQ Tryz.prog 3=true:=by kernel_rfl
@[simp]theorem zRa:zsJ Tryz.prog 3=some IntKind.i64:=by kernel_rfl
@[simp]theorem zU7:tk Tryz.prog 4=TK.one:=by kernel_rfl
@[simp]theorem zLl:zbp Tryz.prog 4=some (XV.one (CV.bool false)):=by kernel_rfl
@[simp]theorem zVw:tk Tryz.prog 5=TK.one:=by kernel_rfl
@[simp]theorem zL5:zbp Tryz.prog 5=some
 (XV.one (CV.int IntKind.u8 0)):=by kernel_rfl
@[simp]theorem zFF:zdZ Tryz.prog 5=some 1:=by kernel_rfl
@[simp]theorem zL3:zdQ Tryz.prog 5=true:=by kernel_rfl
@[simp]theorem zKC:zj5 Tryz.prog 5=true:=by kernel_rfl
@[simp]theorem zU1:tk Tryz.prog 9=TK.one:=by kernel_rfl
@[simp]theorem zyT:zaD Tryz.prog 9=true:=by kernel_rfl
@[simp]theorem zBU:za6 Tryz.prog 9=false:=by kernel_rfl
@[simp]theorem zNd:zbp Tryz.prog 9=some (XV.one (CV.str [])):=by kernel_rfl
@[simp]theorem zG2:zeroOf Tryz.prog 9=some [CV.str []]:=by kernel_rfl
@[simp]theorem zID:zdZ Tryz.prog 9=some 16:=by kernel_rfl
@[simp]theorem zJE:zdQ Tryz.prog 9=true:=by kernel_rfl
@[simp]theorem zzn:za6 Tryz.prog 21=false:=by kernel_rfl
@[simp]theorem zLF:zsJ Tryz.prog 21=some IntKind.i32:=by kernel_rfl
@[simp]theorem zSV:tk Tryz.prog 22=TK.one:=by kernel_rfl
@[simp]theorem zEc:sliceT Tryz.prog 22=some (36,9):=by kernel_rfl
@[simp]theorem zHN:zbp Tryz.prog 22=some (XV.one CV.nil):=by kernel_rfl
@[simp]theorem zSP:tk Tryz.prog 23=TK.one:=by kernel_rfl
@[simp]theorem zED:sliceT Tryz.prog 23=some (120,2):=by kernel_rfl
@[simp]theorem zG4:zbp Tryz.prog 23=some (XV.one CV.nil):=by kernel_rfl
@[simp]theorem zSt:tk Tryz.prog 24=TK.one:=by kernel_rfl
@[simp]theorem zD0:sliceT Tryz.prog 24=some (181,2):=by kernel_rfl
@[simp]theorem zE1:zbp Tryz.prog 24=some (XV.one CV.nil):=by kernel_rfl
@[simp]theorem zSJ:tk Tryz.prog 26=TK.agg 3:=by kernel_rfl
@[simp]theorem zG5:zbp Tryz.prog 26=some (XV.agg [CV.nil,CV.nil,CV.nil]):=by kernel_rfl
@[simp]theorem zvQ:fieldAt Tryz.prog 26 0=some (0,TK.one):=by kernel_rfl
@[simp]theorem zyL:fieldAt Tryz.prog 26 1=some (1,TK.one):=by kernel_rfl
@[simp]theorem zvF:fieldAt Tryz.prog 26 2=some (2,TK.one):=by kernel_rfl
@[simp]theorem zTG:tk Tryz.prog 28=TK.agg 5:=by kernel_rfl
@[simp]theorem zIJ:zbp Tryz.prog 28=some
 (XV.agg
  [CV.str [],CV.int IntKind.i64 0,CV.int IntKind.i64 0,CV.int IntKind.i64 0,
   CV.int IntKind.i64 0]):=by kernel_rfl
@[simp]theorem zCf:zeroOf Tryz.prog 28=some
 [CV.str [],CV.int IntKind.i64 0,CV.int IntKind.i64 0,CV.int IntKind.i64 0,
  CV.int IntKind.i64 0]:=by kernel_rfl
@[simp]theorem zEx:zd1 Tryz.prog 28=some
 ([CV.str [],CV.int IntKind.i64 0,CV.int IntKind.i64 0,CV.int IntKind.i64 0,
   CV.int IntKind.i64 0],
  [(0,1),(1,1),(2,1),(3,1),(4,1)]):=by kernel_rfl
@[simp]theorem zNU:eqT Tryz.prog 28=some [BK.s,BK.i,BK.i,BK.i,BK.i]:=by kernel_rfl
@[simp]theorem zHb:zdQ Tryz.prog 28=true:=by kernel_rfl
@[simp]theorem zxe:fieldAt Tryz.prog 28 0=some (0,TK.one):=by kernel_rfl
@[simp]theorem zxA:fieldAt Tryz.prog 28 1=some (1,TK.one):=by kernel_rfl
@[simp]theorem zwt:fieldAt Tryz.prog 28 2=some (2,TK.one):=by kernel_rfl
@[simp]theorem zwU:fieldAt Tryz.prog 28 3=some (3,TK.one):=by kernel_rfl
@[simp]theorem zyt:fieldAt Tryz.prog 28 4=some (4,TK.one):=by kernel_rfl
@[simp]theorem zS4:tk Tryz.prog 34=TK.agg 2:=by kernel_rfl
@[simp]theorem zET:zbp Tryz.prog 34=some
 (XV.agg [CV.int IntKind.i64 0,CV.int IntKind.i64 0]):=by kernel_rfl
@[simp]theorem zDE:zd1 Tryz.prog 34=some
 ([CV.int IntKind.i64 0,CV.int IntKind.i64 0],[(0,1),(1,1)]):=by kernel_rfl
@[simp]theorem zvO:fieldAt Tryz.prog 34 0=some (0,TK.one):=by kernel_rfl
@[simp]theorem zw6:fieldAt Tryz.prog 34 1=some (1,TK.one):=by kernel_rfl
@[simp]theorem zSc:tk Tryz.prog 36=TK.agg 9:=by kernel_rfl
@[simp]theorem zFR:zbp Tryz.prog 36=some
 (XV.agg
  [CV.str [],CV.int IntKind.i64 0,CV.int IntKind.i64 0,CV.str [],CV.str [],CV.str [],
   CV.int IntKind.i64 0,CV.int IntKind.i64 0,CV.bool false]):=by kernel_rfl
@[simp]theorem zEz:zeroOf Tryz.prog 36=some
 [CV.str [],CV.int IntKind.i64 0,CV.int IntKind.i64 0,CV.str [],CV.str [],CV.str [],
  CV.int IntKind.i64 0,CV.int IntKind.i64 0,CV.bool false]:=by kernel_rfl
@[simp]theorem zEy:zd1 Tryz.prog 36=some
 ([CV.str [],CV.int IntKind.i64 0,CV.int IntKind.i64 0,CV.str [],CV.str [],CV.str [],
   CV.int IntKind.i64 0,CV.int IntKind.i64 0,CV.bool false],
  [(0,1),(1,1),(2,1),(3,1),(4,1),(5,1),(6,2),(8,1)]):=by kernel_rfl
@[simp]theorem zFd:zdQ Tryz.prog 36=true:=by kernel_rfl
@[simp]theorem zyz:fieldAt Tryz.prog 36 0=some (0,TK.one):=by kernel_rfl
@[simp]theorem zwb:fieldAt Tryz.prog 36 1=some (1,TK.one):=by kernel_rfl
@[simp]theorem zx5:fieldAt Tryz.prog 36 2=some (2,TK.one):=by kernel_rfl
@[simp]theorem zwn:fieldAt Tryz.prog 36 3=some (3,TK.one):=by kernel_rfl
@[simp]theorem zwN:fieldAt Tryz.prog 36 4=some (4,TK.one):=by kernel_rfl
@[simp]theorem zvN:fieldAt Tryz.prog 36 5=some (5,TK.one):=by kernel_rfl
@[simp]theorem zwP:fieldAt Tryz.prog 36 6=some (6,TK.agg 2):=by kernel_rfl
@[simp]theorem zTW:tk Tryz.prog 40=TK.one:=by kernel_rfl
@[simp]theorem zC3:sliceT Tryz.prog 40=some (84,2):=by kernel_rfl
@[simp]theorem zy7:za6 Tryz.prog 40=true:=by kernel_rfl
@[simp]theorem zIs:zbp Tryz.prog 40=some (XV.one CV.nil):=by kernel_rfl
@[simp]theorem zNc:rowT Tryz.prog 40=some (84,2,[CV.str [],CV.str []]):=by kernel_rfl
@[simp]theorem zGZ:zdQ Tryz.prog 40=true:=by kernel_rfl
@[simp]theorem zTo:tk Tryz.prog 41=TK.one:=by kernel_rfl
@[simp]theorem zEK:sliceT Tryz.prog 41=some (5,1):=by kernel_rfl
@[simp]theorem zy1:za6 Tryz.prog 41=true:=by kernel_rfl
@[simp]theorem zJn:zrr Tryz.prog 41=none:=by kernel_rfl
@[simp]theorem zFh:zbp Tryz.prog 41=some (XV.one CV.nil):=by kernel_rfl
@[simp]theorem zKa:rowT Tryz.prog 41=some
 (5,1,[CV.int IntKind.u8 0]):=by kernel_rfl
@[simp]theorem zG7:zdQ Tryz.prog 41=true:=by kernel_rfl
@[simp]theorem zvo:zcT Tryz.prog 41=true:=by kernel_rfl
@[simp]theorem zS6:tk Tryz.prog 43=TK.agg 4:=by kernel_rfl
@[simp]theorem zJh:zbp Tryz.prog 43=some
 (XV.agg [CV.int IntKind.i64 0,CV.str [],CV.nil,CV.nil]):=by kernel_rfl
@[simp]theorem zEt:zeroOf Tryz.prog 43=some
 [CV.int IntKind.i64 0,CV.str [],CV.nil,CV.nil]:=by kernel_rfl
@[simp]theorem zCP:zd1 Tryz.prog 43=some
 ([CV.int IntKind.i64 0,CV.str [],CV.nil,CV.nil],[(0,1),(1,1),(2,1),(3,1)]):=by kernel_rfl
@[simp]theorem zGz:zdQ Tryz.prog 43=true:=by kernel_rfl
@[simp]theorem zxX:fieldAt Tryz.prog 43 0=some (0,TK.one):=by kernel_rfl
@[simp]theorem zxt:fieldAt Tryz.prog 43 1=some (1,TK.one):=by kernel_rfl
@[simp]theorem zxY:fieldAt Tryz.prog 43 2=some (2,TK.one):=by kernel_rfl
@[simp]theorem zyq:fieldAt Tryz.prog 43 3=some (3,TK.one):=by kernel_rfl
@[simp]theorem zTc:tk Tryz.prog 49=TK.one:=by kernel_rfl
@[simp]theorem zEa:sliceT Tryz.prog 49=some (55,7):=by kernel_rfl
@[simp]theorem zIq:zbp Tryz.prog 49=some (XV.one CV.nil):=by kernel_rfl
@[simp]theorem zJS:rowT Tryz.prog 49=some
 (55,7,
  [CV.int IntKind.i64 0,CV.str [],CV.str [],CV.int IntKind.i64 0,CV.str [],CV.nil,
   CV.nil]):=by kernel_rfl
@[simp]theorem zSs:tk Tryz.prog 55=TK.agg 7:=by kernel_rfl
@[simp]theorem zIu:zbp Tryz.prog 55=some
 (XV.agg
  [CV.int IntKind.i64 0,CV.str [],CV.str [],CV.int IntKind.i64 0,CV.str [],CV.nil,
   CV.nil]):=by kernel_rfl
@[simp]theorem zD6:zeroOf Tryz.prog 55=some
 [CV.int IntKind.i64 0,CV.str [],CV.str [],CV.int IntKind.i64 0,CV.str [],CV.nil,
  CV.nil]:=by kernel_rfl
@[simp]theorem zDV:zdZ Tryz.prog 55=some 112:=by kernel_rfl
@[simp]theorem zEw:zd1 Tryz.prog 55=some
 ([CV.int IntKind.i64 0,CV.str [],CV.str [],CV.int IntKind.i64 0,CV.str [],CV.nil,
   CV.nil],
  [(0,1),(1,1),(2,1),(3,1),(4,1),(5,1),(6,1)]):=by kernel_rfl
@[simp]theorem zHY:zdQ Tryz.prog 55=true:=by kernel_rfl
@[simp]theorem zxI:fieldAt Tryz.prog 55 0=some (0,TK.one):=by kernel_rfl
@[simp]theorem zyD:fieldAt Tryz.prog 55 1=some (1,TK.one):=by kernel_rfl
@[simp]theorem zxb:fieldAt Tryz.prog 55 2=some (2,TK.one):=by kernel_rfl
@[simp]theorem zwr:fieldAt Tryz.prog 55 3=some (3,TK.one):=by kernel_rfl
@[simp]theorem zxx:fieldAt Tryz.prog 55 4=some (4,TK.one):=by kernel_rfl
@[simp]theorem zyh:fieldAt Tryz.prog 55 5=some (5,TK.one):=by kernel_rfl
@[simp]theorem zya:fieldAt Tryz.prog 55 6=some (6,TK.one):=by kernel_rfl
@[simp]theorem zTs:tk Tryz.prog 67=TK.agg 2:=by kernel_rfl
@[simp]theorem zFx:zbp Tryz.prog 67=some
 (XV.agg [CV.int IntKind.i64 0,CV.int IntKind.i64 0]):=by kernel_rfl
@[simp]theorem zEm:zeroOf Tryz.prog 67=some
 [CV.int IntKind.i64 0,CV.int IntKind.i64 0]:=by kernel_rfl
@[simp]theorem zCJ:zd1 Tryz.prog 67=some
 ([CV.int IntKind.i64 0,CV.int IntKind.i64 0],[(0,1),(1,1)]):=by kernel_rfl
@[simp]theorem zP6:eqT Tryz.prog 67=some [BK.i,BK.i]:=by kernel_rfl
@[simp]theorem zFC:zdQ Tryz.prog 67=true:=by kernel_rfl
@[simp]theorem zDf:sliceT Tryz.prog 70=some (9,1):=by kernel_rfl
@[simp]theorem zLZ:zrr Tryz.prog 70=none:=by kernel_rfl
@[simp]theorem zJ0:rowT Tryz.prog 70=some (9,1,[CV.str []]):=by kernel_rfl
@[simp]theorem zTA:tk Tryz.prog 71=TK.one:=by kernel_rfl
@[simp]theorem zCj:sliceT Tryz.prog 71=some (28,5):=by kernel_rfl
@[simp]theorem zGQ:zbp Tryz.prog 71=some (XV.one CV.nil):=by kernel_rfl
@[simp]theorem zD3:zd1 Tryz.prog 73=some
 ([CV.bool false,CV.nil,CV.str [],CV.int IntKind.i64 0,CV.int IntKind.i64 0,CV.str [],
   CV.str [],CV.str [],CV.int IntKind.i64 0,CV.int IntKind.i64 0,CV.bool false,CV.nil,
   CV.nil,CV.int IntKind.i64 0],
  [(0,1),(1,1),(2,9),(11,1),(12,1),(13,1)]):=by kernel_rfl
@[simp]theorem zxw:fieldAt Tryz.prog 73 4=some (12,TK.one):=by kernel_rfl
@[simp]theorem zSE:tk Tryz.prog 84=TK.agg 2:=by kernel_rfl
@[simp]theorem zGV:zbp Tryz.prog 84=some (XV.agg [CV.str [],CV.str []]):=by kernel_rfl
@[simp]theorem zCZ:zeroOf Tryz.prog 84=some [CV.str [],CV.str []]:=by kernel_rfl
@[simp]theorem zEb:zdZ Tryz.prog 84=some 32:=by kernel_rfl
@[simp]theorem zDv:zd1 Tryz.prog 84=some
 ([CV.str [],CV.str []],[(0,1),(1,1)]):=by kernel_rfl
@[simp]theorem zGy:zdQ Tryz.prog 84=true:=by kernel_rfl
@[simp]theorem zxi:fieldAt Tryz.prog 84 0=some (0,TK.one):=by kernel_rfl
@[simp]theorem zwv:fieldAt Tryz.prog 84 1=some (1,TK.one):=by kernel_rfl
@[simp]theorem zDM:sliceT Tryz.prog 97=some (101,3):=by kernel_rfl
@[simp]theorem zND:rowT Tryz.prog 97=some
 (101,3,[CV.str [],CV.int IntKind.i64 0,CV.int IntKind.i64 0]):=by kernel_rfl
@[simp]theorem zOz:tk Tryz.prog 101=TK.agg 3:=by kernel_rfl
@[simp]theorem zEr:zbp Tryz.prog 101=some
 (XV.agg [CV.str [],CV.int IntKind.i64 0,CV.int IntKind.i64 0]):=by kernel_rfl
@[simp]theorem zAG:zeroOf Tryz.prog 101=some
 [CV.str [],CV.int IntKind.i64 0,CV.int IntKind.i64 0]:=by kernel_rfl
@[simp]theorem zBb:zdZ Tryz.prog 101=some 32:=by kernel_rfl
@[simp]theorem zBz:zd1 Tryz.prog 101=some
 ([CV.str [],CV.int IntKind.i64 0,CV.int IntKind.i64 0],[(0,1),(1,2)]):=by kernel_rfl
@[simp]theorem zEA:zdQ Tryz.prog 101=true:=by kernel_rfl
@[simp]theorem zvy:fieldAt Tryz.prog 101 0=some (0,TK.one):=by kernel_rfl
@[simp]theorem zvu:fieldAt Tryz.prog 101 1=some (1,TK.agg 2):=by kernel_rfl
@[simp]theorem zPW:tk Tryz.prog 116=TK.one:=by kernel_rfl
@[simp]theorem zIV:zrr Tryz.prog 116=some (KK.s,123):=by kernel_rfl
@[simp]theorem zDX:zbp Tryz.prog 116=some (XV.one (CV.atom (Value.map none))):=by kernel_rfl
@[simp]theorem zAh:zd1 Tryz.prog 118=some
 ([CV.nil,CV.nil,CV.nil,CV.atom (Value.map none)],[(0,3),(3,1)]):=by kernel_rfl
@[simp]theorem zvx:fieldAt Tryz.prog 118 0=some (0,TK.agg 3):=by kernel_rfl
@[simp]theorem zvf:fieldAt Tryz.prog 118 1=some (3,TK.one):=by kernel_rfl
@[simp]theorem zPY:tk Tryz.prog 120=TK.agg 2:=by kernel_rfl
@[simp]theorem zDB:zbp Tryz.prog 120=some (XV.agg [CV.str [],CV.nil]):=by kernel_rfl
@[simp]theorem zz2:zeroOf Tryz.prog 120=some [CV.str [],CV.nil]:=by kernel_rfl
@[simp]theorem zDJ:zdQ Tryz.prog 120=true:=by kernel_rfl
@[simp]theorem zvj:fieldAt Tryz.prog 120 0=some (0,TK.one):=by kernel_rfl
@[simp]theorem zvt:fieldAt Tryz.prog 120 1=some (1,TK.one):=by kernel_rfl
@[simp]theorem zOM:tk Tryz.prog 121=TK.one:=by kernel_rfl
@[simp]theorem zHK:zrr Tryz.prog 121=some (KK.st [BK.i,BK.i],9):=by kernel_rfl
@[simp]theorem zC4:zbp Tryz.prog 121=some (XV.one (CV.atom (Value.map none))):=by kernel_rfl
@[simp]theorem zN8:tk Tryz.prog 123=TK.agg 2:=by kernel_rfl
@[simp]theorem zCE:zbp Tryz.prog 123=some
 (XV.agg [CV.nil,CV.atom (Value.map none)]):=by kernel_rfl
@[simp]theorem zAT:zeroOf Tryz.prog 123=some
 [CV.nil,CV.atom (Value.map none)]:=by kernel_rfl
@[simp]theorem zzP:zd1 Tryz.prog 123=some
 ([CV.nil,CV.atom (Value.map none)],[(0,1),(1,1)]):=by kernel_rfl
@[simp]theorem zC1:zdQ Tryz.prog 123=true:=by kernel_rfl
@[simp]theorem zu6:fieldAt Tryz.prog 123 0=some (0,TK.one):=by kernel_rfl
@[simp]theorem zvd:fieldAt Tryz.prog 123 1=some (1,TK.one):=by kernel_rfl
@[simp]theorem zGc:zrr Tryz.prog 140=some (KK.s,4):=by kernel_rfl
@[simp]theorem zvD:za6 Tryz.prog 156=false:=by kernel_rfl
@[simp]theorem zGx:zsJ Tryz.prog 156=some IntKind.u64:=by kernel_rfl
@[simp]theorem zxC:za6 Tryz.prog 165=false:=by kernel_rfl
@[simp]theorem zF6:zsJ Tryz.prog 165=some IntKind.u64:=by kernel_rfl
@[simp]theorem zQw:tk Tryz.prog 168=TK.one:=by kernel_rfl
@[simp]theorem zz3:zd1 Tryz.prog 170=some
 ([CV.nil,CV.int IntKind.i64 0,CV.int IntKind.i64 0,CV.str [],CV.str [],
   CV.int IntKind.i64 0,CV.str [],CV.nil,CV.nil,CV.int IntKind.i64 0,CV.str []],
  [(0,1),(1,1),(2,7),(9,1),(10,1)]):=by kernel_rfl
@[simp]theorem zvz:fieldAt Tryz.prog 170 0=some (0,TK.one):=by kernel_rfl
@[simp]theorem zu9:fieldAt Tryz.prog 170 1=some (1,TK.one):=by kernel_rfl
@[simp]theorem zu1:fieldAt Tryz.prog 170 2=some (2,TK.agg 7):=by kernel_rfl
@[simp]theorem zvg:fieldAt Tryz.prog 170 3=some (9,TK.one):=by kernel_rfl
@[simp]theorem zve:fieldAt Tryz.prog 170 4=some (10,TK.one):=by kernel_rfl
@[simp]theorem zPa:tk Tryz.prog 181=TK.agg 2:=by kernel_rfl
@[simp]theorem zC5:zbp Tryz.prog 181=some
 (XV.agg [CV.int IntKind.i64 0,CV.str []]):=by kernel_rfl
@[simp]theorem zAE:zeroOf Tryz.prog 181=some
 [CV.int IntKind.i64 0,CV.str []]:=by kernel_rfl
@[simp]theorem zDF:zdQ Tryz.prog 181=true:=by kernel_rfl
@[simp]theorem zu8:fieldAt Tryz.prog 181 0=some (0,TK.one):=by kernel_rfl
@[simp]theorem zvp:fieldAt Tryz.prog 181 1=some (1,TK.one):=by kernel_rfl
@[simp]theorem zP1:tk Tryz.prog 212=TK.agg 256:=by kernel_rfl
@[simp]theorem zz8:sliceT Tryz.prog 212=none:=by kernel_rfl
@[simp]theorem zFi:zJN Tryz.prog 212=some (256,1):=by kernel_rfl
@[simp]theorem zBw:zeroOf Tryz.prog 212=some
 [CV.bool false,CV.bool false,CV.bool false,CV.bool false,CV.bool false,CV.bool false,CV.bool false,
  CV.bool false,CV.bool false,CV.bool false,CV.bool false,CV.bool false,CV.bool false,CV.bool false,
  CV.bool false,CV.bool false,CV.bool false,CV.bool false,CV.bool false,CV.bool false,CV.bool false,
  CV.bool false,CV.bool false,CV.bool false,CV.bool false,CV.bool false,CV.bool false,CV.bool false,
  CV.bool false,CV.bool false,CV.bool false,CV.bool false,CV.bool false,CV.bool false,CV.bool false,
  CV.bool false,CV.bool false,CV.bool false,CV.bool false,CV.bool false,CV.bool false,CV.bool false,
  CV.bool false,CV.bool false,CV.bool false,CV.bool false,CV.bool false,CV.bool false,CV.bool false,
  CV.bool false,CV.bool false,CV.bool false,CV.bool false,CV.bool false,CV.bool false,CV.bool false,
  CV.bool false,CV.bool false,CV.bool false,CV.bool false,CV.bool false,CV.bool false,CV.bool false,
  CV.bool false,CV.bool false,CV.bool false,CV.bool false,CV.bool false,CV.bool false,CV.bool false,
  CV.bool false,CV.bool false,CV.bool false,CV.bool false,CV.bool false,CV.bool false,CV.bool false,
  CV.bool false,CV.bool false,CV.bool false,CV.bool false,CV.bool false,CV.bool false,CV.bool false,
  CV.bool false,CV.bool false,CV.bool false,CV.bool false,CV.bool false,CV.bool false,CV.bool false,
  CV.bool false,CV.bool false,CV.bool false,CV.bool false,CV.bool false,CV.bool false,CV.bool false,
  CV.bool false,CV.bool false,CV.bool false,CV.bool false,CV.bool false,CV.bool false,CV.bool false,
  CV.bool false,CV.bool false,CV.bool false,CV.bool false,CV.bool false,CV.bool false,CV.bool false,
  CV.bool false,CV.bool false,CV.bool false,CV.bool false,CV.bool false,CV.bool false,CV.bool false,
  CV.bool false,CV.bool false,CV.bool false,CV.bool false,CV.bool false,CV.bool false,CV.bool false,
  CV.bool false,CV.bool false,CV.bool false,CV.bool false,CV.bool false,CV.bool false,CV.bool false,
  CV.bool false,CV.bool false,CV.bool false,CV.bool false,CV.bool false,CV.bool false,CV.bool false,
  CV.bool false,CV.bool false,CV.bool false,CV.bool false,CV.bool false,CV.bool false,CV.bool false,
  CV.bool false,CV.bool false,CV.bool false,CV.bool false,CV.bool false,CV.bool false,CV.bool false,
  CV.bool false,CV.bool false,CV.bool false,CV.bool false,CV.bool false,CV.bool false,CV.bool false,
  CV.bool false,CV.bool false,CV.bool false,CV.bool false,CV.bool false,CV.bool false,CV.bool false,
  CV.bool false,CV.bool false,CV.bool false,CV.bool false,CV.bool false,CV.bool false,CV.bool false,
  CV.bool false,CV.bool false,CV.bool false,CV.bool false,CV.bool false,CV.bool false,CV.bool false,
  CV.bool false,CV.bool false,CV.bool false,CV.bool false,CV.bool false,CV.bool false,CV.bool false,
  CV.bool false,CV.bool false,CV.bool false,CV.bool false,CV.bool false,CV.bool false,CV.bool false,
  CV.bool false,CV.bool false,CV.bool false,CV.bool false,CV.bool false,CV.bool false,CV.bool false,
  CV.bool false,CV.bool false,CV.bool false,CV.bool false,CV.bool false,CV.bool false,CV.bool false,
  CV.bool false,CV.bool false,CV.bool false,CV.bool false,CV.bool false,CV.bool false,CV.bool false,
  CV.bool false,CV.bool false,CV.bool false,CV.bool false,CV.bool false,CV.bool false,CV.bool false,
  CV.bool false,CV.bool false,CV.bool false,CV.bool false,CV.bool false,CV.bool false,CV.bool false,
  CV.bool false,CV.bool false,CV.bool false,CV.bool false,CV.bool false,CV.bool false,CV.bool false,
  CV.bool false,CV.bool false,CV.bool false,CV.bool false,CV.bool false,CV.bool false,CV.bool false,
  CV.bool false,CV.bool false,CV.bool false,CV.bool false,CV.bool false,CV.bool false,CV.bool false,
  CV.bool false,CV.bool false,CV.bool false,CV.bool false]:=by kernel_rfl
@[simp]theorem zEE:zdQ Tryz.prog 212=true:=by kernel_rfl
@[simp]theorem zIP:zrr Tryz.prog 221=some (KK.i IntKind.i64,49):=by kernel_rfl
@[simp]theorem zBx:sliceT Tryz.prog 235=some (3,1):=by kernel_rfl
@[simp]theorem zGw:rowT Tryz.prog 235=some
 (3,1,[CV.int IntKind.i64 0]):=by kernel_rfl
@[simp]theorem zNO:tk Tryz.prog 236=TK.one:=by kernel_rfl
@[simp]theorem zQl:tk Tryz.prog 265=TK.agg 6:=by kernel_rfl
@[simp]theorem zCk:zbp Tryz.prog 265=some
 (XV.agg
  [CV.int IntKind.i64 0,CV.int IntKind.i64 0,CV.int IntKind.i64 0,
   CV.int IntKind.i64 0,CV.int IntKind.i64 0,
   CV.int IntKind.i64 0]):=by kernel_rfl
@[simp]theorem zAs:zeroOf Tryz.prog 265=some
 [CV.int IntKind.i64 0,CV.int IntKind.i64 0,CV.int IntKind.i64 0,
  CV.int IntKind.i64 0,CV.int IntKind.i64 0,
  CV.int IntKind.i64 0]:=by kernel_rfl
@[simp]theorem zBM:zd1 Tryz.prog 265=some
 ([CV.int IntKind.i64 0,CV.int IntKind.i64 0,CV.int IntKind.i64 0,
   CV.int IntKind.i64 0,CV.int IntKind.i64 0,CV.int IntKind.i64 0],
  [(0,1),(1,1),(2,1),(3,1),(4,1),(5,1)]):=by kernel_rfl
@[simp]theorem zDb:zdQ Tryz.prog 265=true:=by kernel_rfl
@[simp]theorem zvi:fieldAt Tryz.prog 265 0=some (0,TK.one):=by kernel_rfl
@[simp]theorem zu7:fieldAt Tryz.prog 265 1=some (1,TK.one):=by kernel_rfl
@[simp]theorem zvq:fieldAt Tryz.prog 265 2=some (2,TK.one):=by kernel_rfl
@[simp]theorem zva:fieldAt Tryz.prog 265 3=some (3,TK.one):=by kernel_rfl
@[simp]theorem zu4:fieldAt Tryz.prog 265 4=some (4,TK.one):=by kernel_rfl
@[simp]theorem zvk:fieldAt Tryz.prog 265 5=some (5,TK.one):=by kernel_rfl
end Go.Proofs.YtlcmnclbljedfaaGreatDoor
namespace Go.Proofs.YtlcmnclbljedfaaGreatDoor
open Go
set_option maxRecDepth 100000
def zHH:Go.Shelf.Ren:=⟨fun x=>if x=106 then 94 else if x=213 then 168 else if x=265 then 245 else x,fun x=>if x=3 then 3 else if x=9 then 9 else x,fun x=>x⟩
theorem zG3:Go.Proofs.Lays.n106 Tryz.prog zHH where
 mixed:=by kernel_rfl
 f106:=Tryz.func94.trans (congrArg some (by kernel_rfl))
 f213:=Tryz.func168.trans (congrArg some (by kernel_rfl))
 f265:=Tryz.func245.trans (congrArg some (by kernel_rfl))
 t3:=Tryz.underlying3
 a3:=Tryz.isAgg3
 z3:=Tryz.sizeOf3
 v3:=Tryz.zeroValue3
 t9:=Tryz.underlying9
 a9:=Tryz.isAgg9
 z9:=Tryz.sizeOf9
 v9:=Tryz.zeroValue9
def zFn:Go.Shelf.Ren:=⟨fun x=>if x=119 then 303 else if x=120 then 279 else if x=137 then 215 else if x=151 then 233 else if x=152 then 255 else if x=160 then 82 else if x=197 then 232 else if x=217 then 267 else if x=224 then 265 else if x=225 then 304 else if x=227 then 141 else if x=228 then 231 else if x=231 then 139 else if x=232 then 140 else if x=233 then 142 else if x=234 then 143 else if x=235 then 144 else if x=236 then 145 else if x=260 then 278 else if x=266 then 309 else if x=271 then 234 else x,fun x=>if x=0 then 0 else if x=3 then 3 else if x=4 then 4 else if x=5 then 5 else if x=9 then 9 else if x=21 then 21 else if x=46 then 165 else if x=105 then 270 else if x=116 then 212 else if x=117 then 213 else if x=119 then 333 else if x=124 then 216 else if x=138 then 335 else if x=139 then 336 else x,fun x=>if x=3 then 2 else if x=4 then 3 else x⟩
theorem zwY:Go.Proofs.Lays.n160 Tryz.prog zFn where
 mixed:=by kernel_rfl
 f119:=Tryz.func303.trans (congrArg some (by kernel_rfl))
 f120:=Tryz.func279.trans (congrArg some (by kernel_rfl))
 f137:=Tryz.func215.trans (congrArg some (by kernel_rfl))
 f151:=Tryz.func233.trans (congrArg some (by kernel_rfl))
 f152:=Tryz.func255.trans (congrArg some (by kernel_rfl))
 f160:=Tryz.func82.trans (congrArg some (by kernel_rfl))
 f197:=Tryz.func232.trans (congrArg some (by kernel_rfl))
 f217:=Tryz.func267.trans (congrArg some (by kernel_rfl))
 f224:=Tryz.func265.trans (congrArg some (by kernel_rfl))
 f225:=Tryz.func304.trans (congrArg some (by kernel_rfl))
 f227:=Tryz.func141.trans (congrArg some (by kernel_rfl))
 f228:=Tryz.func231.trans (congrArg some (by kernel_rfl))
 f231:=Tryz.func139.trans (congrArg some (by kernel_rfl))
 f232:=Tryz.func140.trans (congrArg some (by kernel_rfl))
 f233:=Tryz.func142.trans (congrArg some (by kernel_rfl))
 f234:=Tryz.func143.trans (congrArg some (by kernel_rfl))
 f235:=Tryz.func144.trans (congrArg some (by kernel_rfl))
 f236:=Tryz.func145.trans (congrArg some (by kernel_rfl))
 f260:=Tryz.func278.trans (congrArg some (by kernel_rfl))
 f266:=Tryz.func309.trans (congrArg some (by kernel_rfl))
 f271:=Tryz.func234.trans (congrArg some (by kernel_rfl))
 t0:=Tryz.underlying0
 a0:=Tryz.isAgg0
 z0:=Tryz.sizeOf0
 v0:=Tryz.zeroValue0
 t3:=Tryz.underlying3
 a3:=Tryz.isAgg3
 z3:=Tryz.sizeOf3
 v3:=Tryz.zeroValue3
 t4:=Tryz.underlying4
 a4:=Tryz.isAgg4
 z4:=Tryz.sizeOf4
 v4:=Tryz.zeroValue4
 t5:=Tryz.underlying5
 a5:=Tryz.isAgg5
 z5:=Tryz.sizeOf5
 v5:=Tryz.zeroValue5
 t9:=Tryz.underlying9
 a9:=Tryz.isAgg9
 z9:=Tryz.sizeOf9
 v9:=Tryz.zeroValue9
 t21:=Tryz.underlying21
 a21:=Tryz.isAgg21
 z21:=Tryz.sizeOf21
 v21:=Tryz.zeroValue21
 t46:=Tryz.underlying165
 a46:=Tryz.isAgg165
 z46:=Tryz.sizeOf165
 v46:=Tryz.zeroValue165
 t105:=Tryz.underlying270
 a105:=Tryz.isAgg270
 z105:=Tryz.sizeOf270
 v105:=Tryz.zeroValue270
 t116:=Tryz.underlying212
 a116:=Tryz.isAgg212
 z116:=Tryz.sizeOf212
 t117:=Tryz.underlying213
 a117:=Tryz.isAgg213
 z117:=Tryz.sizeOf213
 v117:=Tryz.zeroValue213
 t119:=Tryz.underlying333
 a119:=Tryz.isAgg333
 z119:=Tryz.sizeOf333
 t124:=Tryz.underlying216
 a124:=Tryz.isAgg216
 z124:=Tryz.sizeOf216
 v124:=Tryz.zeroValue216
 t138:=Tryz.underlying335
 a138:=Tryz.isAgg335
 z138:=Tryz.sizeOf335
 v138:=Tryz.zeroValue335
 t139:=Tryz.underlying336
 a139:=Tryz.isAgg336
 z139:=Tryz.sizeOf336
 v139:=Tryz.zeroValue336
 g3:=by kernel_rfl
 g4:=by kernel_rfl
end Go.Proofs.YtlcmnclbljedfaaGreatDoor
namespace Go.Proofs.YtlcmnclbljedfaaGreatDoor
open Go Go.Ab
variable [Amb]
set_option maxRecDepth 100000
set_option maxHeartbeats 4000000
theorem mixed:Tryz.prog.follows .mixedOrders=true:=by kernel_rfl
theorem zaq(n:Int)(h:-9223372036854775808≤n∧n≤9223372036854775807):IntKind.i64.wrap n=n:=IntWalk.i64_in n h
section
variable {α:Type}{p:α→Bool}{l:List α}{i:Nat}
theorem zoX(hlt:i<l.length)(h:p l[i]=false):l.all p=false:=by
 rw[List.all_eq_false]
 exact⟨l[i],List.getElem_mem hlt,by simp[h]⟩
def zlp(p:α→Bool)(l:List α)(i:Nat):Prop:=i≤l.length∧(l.take i).all p=true
theorem zlp.zero:zlp p l 0:=⟨Nat.zero_le _,by simp⟩
theorem zlp.step(h:zlp p l i)(hlt:i<l.length)(hp:p l[i]=true):zlp p l (i+1):=by
 refine⟨hlt,?_⟩
 rw[List.take_add_one,List.getElem?_eq_getElem hlt]
 simp only[Option.toList,List.all_append,h.2,List.all_cons,hp,List.all_nil,Bool.and_self]
theorem zlp.done(h:zlp p l i)(hge:¬i<l.length):l.all p=true:=by
 have:=h.2
 rwa[List.take_of_length_le (by omega)] at this
end
def inB(lo hi n:Int):Bool:=decide (lo≤n)&&decide (n≤hi)
def zhH(b:UInt8):Bool:=decide (33≤b.toNat)&&decide (b.toNat≤126)
def zqv(l:List UInt8):Bool:=l.all zhH
def zqY(l:List UInt8)(most:Int):Bool:=zqv l&&inB 1 most l.length
def zuu(l:List UInt8):Bool:=zqY l 2000
def zbf(n:Int):Bool:=inB 0 253402300799 n
theorem zdU(x a b:Int):zab Tryz.prog 98 [.one (.int .i64 x),.one (.int .i64 a),.one (.int .i64 b)] (.x (.one (.bool (inB a b x)))):=by
 refine zab.of mixed (fn:=Tryz.f98) (by kernel_rfl) (by kernel_rfl) rfl (by kernel_rfl) (by simp[Tryz.f98]) (fun hok=>?_)
 simp[inB]
theorem zhb(x:Int):zab Tryz.prog 56 [.one (.int .i64 x)] (.x (.one (.bool (zbf x)))):=by
 refine zab.of mixed (fn:=Tryz.f56) (by kernel_rfl) (by kernel_rfl) rfl (by kernel_rfl) (by simp[Tryz.f56]) (fun hok=>?_)
 simp[zbf,inB]
theorem zll{b:UInt8}(h:((b.toNat:Nat):Int)<33∨126<((b.toNat:Nat):Int)):zhH b=false:=by
 unfold zhH;rcases h with h | h<;>simp<;>omega
theorem zkc{b:UInt8}(h1:33≤((b.toNat:Nat):Int))(h2:((b.toNat:Nat):Int)≤126):zhH b=true:=by
 unfold zhH;simp;omega
theorem isKey(l:List UInt8):zab Tryz.prog 55 [.one (.str l)] (.x (.one (.bool (zuu l)))):=by
 refine zab.of mixed (fn:=Tryz.f55) (by kernel_rfl) (by kernel_rfl) rfl (by kernel_rfl) (by simp[Tryz.f55]) (fun hok=>?_)
 have hl:l.length≤maxLen:=by simpa[XV.ok,CV.ok] using hok
 simp -implicitDefEqProofs
 refine zaK.of Nat (fun i=>[(0,.x (.one (.str l))),(5,.x (.one (.int .i64 l.length))),(6,.x (.one (.int .i64 i)))]) (zlp zhH l) (fun i=>l.length-i) 0 zlp.zero ?_ ?_
 ·simp
 intro i hi
 by_cases hlt:i<l.length
 ·simp -implicitDefEqProofs[hlt]
  refine⟨fun h=>?_,fun h1 h2=>zaz.of (i+1) (hi.step hlt (zkc (by omega) (by omega))) (by omega) ?_⟩
  ·simp[zuu,zqY,zqv,zoX hlt (zll h)]
  ·simp
   exact zaq _ (by unfold maxLen at hl;omega)
 ·simp -implicitDefEqProofs[hlt]
  simp[zuu,zqY,zqv,hi.done hlt,inB]
theorem isWord(l:List UInt8)(most:Int):zab Tryz.prog 90 [.one (.str l),.one (.int .i64 most)] (.x (.one (.bool (zqY l most)))):=by
 refine zab.of mixed (fn:=Tryz.f90) (by kernel_rfl) (by kernel_rfl) rfl (by kernel_rfl) (by simp[Tryz.f90]) (fun hok=>?_)
 have hl:l.length≤maxLen:=by simpa[XV.ok,CV.ok] using hok _ (List.mem_cons_self)
 simp -implicitDefEqProofs
 refine zaK.of Nat (fun i=>[(0,.x (.one (.str l))),(1,.x (.one (.int .i64 most))),(7,.x (.one (.int .i64 l.length))),(8,.x (.one (.int .i64 i)))]) (zlp zhH l) (fun i=>l.length-i) 0 zlp.zero ?_ ?_
 ·simp
 intro i hi
 by_cases hlt:i<l.length
 ·simp -implicitDefEqProofs[hlt]
  refine⟨fun h=>?_,fun h1 h2=>zaz.of (i+1) (hi.step hlt (zkc (by omega) (by omega))) (by omega) ?_⟩
  ·simp[zqY,zqv,zoX hlt (zll h)]
  ·simp
   exact zaq _ (by unfold maxLen at hl;omega)
 ·simp -implicitDefEqProofs[hlt]
  refine zac.of (zdU _ _ _) ?_
  simp[zqY,zqv,hi.done hlt]
theorem zrv:∀(a b:List UInt8),Lib.compareBytes a b=if ltB a b=true then -1 else if a=b then 0 else 1
 |[],[]=>by simp[Lib.compareBytes,ltB,Op.bytesLess]
 |[],_::_=>by simp[Lib.compareBytes,ltB,Op.bytesLess]
 |_::_,[]=>by simp[Lib.compareBytes,ltB,Op.bytesLess]
 |a::x,b::y=>by
  have ih:=zrv x y
  unfold ltB at ih
  simp only[Lib.compareBytes,ltB,Op.bytesLess]
  by_cases h1:a<b
  ·simp[h1]
  ·by_cases h2:b<a
   ·have hab:a≠b:=fun e=>h1 (e▸h2)
    simp[h1,h2,hab]
   ·have hab:a=b:=UInt8.le_antisymm (UInt8.not_lt.1 h2) (UInt8.not_lt.1 h1)
    subst hab
    simp[h1,ih]
def zk2(a b:Int):Int:=if a<b then -1 else if b<a then 1 else 0
theorem strings_Compare(a b:List UInt8):zab Tryz.prog 94 [.one (.str a),.one (.str b)] (.x (.one (.int .i64 (Lib.compareBytes a b)))):=by
 refine zab.ztJ [.string ⟨a.toArray⟩,.string ⟨b.toArray⟩] _ (zbm Tryz.f94 (by kernel_rfl) (by kernel_rfl) rfl) rfl (fun _ _=>zpm _ _) (fun hok w=>?_)
 refine(Any.strings_Compare zG3 ⟨a.toArray⟩ ⟨b.toArray⟩ w).mono ?_
 rintro e w' ⟨rfl,rfl⟩
 exact⟨rfl,RowKit.Below.refl _ _⟩
theorem isNaN(a:Int):zab Tryz.prog 169 [.one (.int .i64 a)] (.x (.one (.bool false))):=by
 refine zab.of mixed (fn:=Tryz.f169) (by kernel_rfl) (by kernel_rfl) rfl (by kernel_rfl) (by simp[Tryz.f169]) (fun hok=>?_)
 simp -implicitDefEqProofs
theorem zeq(a b:Int):zab Tryz.prog 95 [.one (.int .i64 a),.one (.int .i64 b)] (.x (.one (.int .i64 (zk2 a b)))):=by
 refine zab.of mixed (fn:=Tryz.f95) (by kernel_rfl) (by kernel_rfl) rfl (by kernel_rfl) (by simp[Tryz.f95]) (fun hok=>?_)
 simp -implicitDefEqProofs
 refine zac.of (isNaN _) ?_
 simp -implicitDefEqProofs
 refine zac.of (isNaN _) ?_
 simp -implicitDefEqProofs
 refine⟨fun h=>?_,fun h=>⟨fun h2=>?_,fun h2=>?_⟩⟩<;>unfold zk2
 ·rw[if_pos h]
 ·rw[if_neg (by omega),if_pos h2]
 ·rw[if_neg (by omega),if_neg (by omega)]
end Go.Proofs.YtlcmnclbljedfaaGreatDoor
namespace Go.Proofs.YtlcmnclbljedfaaGreatDoor
open Go Go.Ab
variable [Amb]
set_option maxRecDepth 100000
set_option maxHeartbeats 4000000
theorem ziX(l cs:List UInt8):(Lib.trimS l cs=[])↔l.all (cs.contains ·)=true:=by
 have dw:∀(l:List UInt8),l.dropWhile (cs.contains ·)=[]↔l.all (cs.contains ·)=true:=by
  intro l
  induction l with
  |nil=>simp
  |cons a l ih =>
   by_cases h:cs.contains a=true
   ·rw[List.dropWhile_cons_of_pos h,ih]
    simp only[List.all_cons,h,Bool.true_and]
   ·rw[List.dropWhile_cons_of_neg h]
    simp only[List.all_cons,h,Bool.false_and]
    simp
 have rv:∀(l:List UInt8),l.reverse.all (cs.contains ·)=l.all (cs.contains ·):=by
  intro l;rw[List.all_reverse]
 unfold Lib.trimS Lib.trimLeftS Lib.trimRightS
 rw[dw,rv]
 have:∀(m:List UInt8),(m.dropWhile (cs.contains ·)).all (cs.contains ·)=m.all (cs.contains ·):=by
  intro m
  induction m with
  |nil=>rfl
  |cons a m ih =>
   by_cases h:cs.contains a=true
   ·rw[List.dropWhile_cons_of_pos h,ih]
    simp only[List.all_cons,h,Bool.true_and]
   ·rw[List.dropWhile_cons_of_neg h]
 rw[this,rv]
theorem zAD(l cs:List UInt8):(Lib.trimS l cs).length≤l.length:=by
 have dw:∀(m:List UInt8),(m.dropWhile (cs.contains ·)).length≤m.length:=fun m=>(List.dropWhile_sublist _).length_le
 unfold Lib.trimS Lib.trimLeftS Lib.trimRightS
 have h1:=dw (List.dropWhile (fun x=>cs.contains x) l.reverse).reverse
 have h2:=dw l.reverse
 simp only[List.length_reverse] at h1 h2
 omega
theorem zcP(l cs:List UInt8)(h:cs.all (fun b=>decide (b.toNat<128))=true)(h2:cs.length<1000):zab Tryz.prog 82 [.one (.str l),.one (.str cs)] (.x (.one (.str (Lib.trimS l cs)))):=by
 by_cases hl:l.length≤maxLen
 ·refine zab.ztJ [.string ⟨l.toArray⟩,.string ⟨cs.toArray⟩] _ (zbm Tryz.f82 (by kernel_rfl) (by kernel_rfl) rfl) rfl (fun _ _=>zoU _ (Nat.le_trans (zAD l cs) hl)) (fun hok w=>?_)
  have hm:maxLen≤9223372036854775807:=by decide
  exact Any.strings_Trim_laid zwY (by kernel_rfl) ⟨l.toArray⟩ ⟨cs.toArray⟩ w (by simp only[ByteArray.size,List.size_toArray];omega) (by simp only[ByteArray.size,List.size_toArray];omega) (Go.Proofs.ascii_of_all h)
 ·refine⟨zbm Tryz.f82 (by kernel_rfl) (by kernel_rfl) rfl,fun w S vs hS ha=>?_⟩
  exact absurd (by simpa[XV.ok,CV.ok] using zow ha _ (List.mem_cons_self)) hl
def zog:List UInt8:=[48,49,50,51,52,53,54,55,56,57,97,98,99,100,101,102]
def zqe:List UInt8:=[97,98,99,100,101,102,103,104,105,106,107,108,109,110,111,112,113,114,115,116,117,118,119,120,121,122,48,49,50,51,52,53,54,55,56,57,45]
def zJz(b:UInt8):Bool:=inB 48 57 b.toNat || inB 97 102 b.toNat
def zVI(b:UInt8):Bool:=inB 97 122 b.toNat
def zin(b:UInt8):Bool:=zVI b || (b.toNat==45) || inB 48 57 b.toNat
theorem ztm:∀b:UInt8,zog.contains b=zJz b:=by
 intro b
 have:∀n:Fin 256,zog.contains (UInt8.ofNat n.val)=zJz (UInt8.ofNat n.val):=by decide +kernel
 have h:=this ⟨b.toNat,b.toNat_lt⟩
 simpa using h
theorem zwx:∀b:UInt8,zqe.contains b=zin b:=by
 intro b
 have:∀n:Fin 256,zqe.contains (UInt8.ofNat n.val)=zin (UInt8.ofNat n.val):=by decide +kernel
 have h:=this ⟨b.toNat,b.toNat_lt⟩
 simpa using h
def zhX(l:List UInt8):Bool:=l.all zJz&&(l.length==16)
def nameB(l:List UInt8):Bool:=l.all zin&&(zVI (l[0]?.getD 0)&&inB 1 40 l.length)
theorem isName(l:List UInt8):zab Tryz.prog 40 [.one (.str l)] (.x (.one (.bool (nameB l)))):=by
 refine zab.of mixed (fn:=Tryz.f40) (by kernel_rfl) (by kernel_rfl) rfl (by kernel_rfl) (by simp[Tryz.f40]) (fun hok=>?_)
 have e:=ziX l zqe
 simp only[zwx] at e
 simp -implicitDefEqProofs +contextual[-Bool.and_eq_false_imp,Bool.and_eq_false_iff]
 refine⟨fun h _=>by omega,fun h _ _=>by omega,zah.of (fun _=>zcP l zqe (by decide) (by decide)) rfl ?_⟩
 simp -implicitDefEqProofs +contextual[-Bool.and_eq_false_imp,Bool.and_eq_false_iff]
 unfold nameB zVI inB
 generalize ((l[0]?.getD 0).toNat:Int)=n
 by_cases h:Lib.trimS l zqe=[]
 ·rw[e.1 h,h]
  rw[Bool.eq_iff_iff];simp;omega
 ·have:(l.all zin)=false:=by
   cases hb:l.all zin with
   |true=>exact absurd (e.2 hb) h
   |false=>rfl
  rw[this]
  simp[h]
structure Entry where
 key:List UInt8
 time:Int
 status:Int
 type:List UInt8
 digest:List UInt8
 file:List UInt8
 lo:Int
 hi:Int
 same:Bool
 deriving DecidableEq
def Entry.row(e:Entry):List CV:=[.str e.key,.int .i64 e.time,.int .i64 e.status,.str e.type,.str e.digest,.str e.file,.int .i64 e.lo,.int .i64 e.hi,.bool e.same]
def intRow(n:Int):List CV:=[.int .i64 n]
def zbS:List Int→Int
 |[]=>0
 |a::r=>if a=0 then zbS r else a
theorem znU:∀{l:List Int} {i:Nat},(l.take i).all (·==0)=true→(h:i<l.length)→l[i]≠0→zbS l=l[i]
 |a::r,0,_,_,hn=>by simp[zbS] at hn ⊢;intro h;exact absurd h hn
 |a::r,i+1,hp,h,hn=>by
  simp only[List.take_succ_cons,List.all_cons,Bool.and_eq_true,beq_iff_eq] at hp
  simp only[zbS,hp.1,if_true,List.getElem_cons_succ]
  exact znU hp.2 (by simpa using h) (by simpa using hn)
theorem zmk:∀{l:List Int},l.all (·==0)=true→zbS l=0
 |[],_=>rfl
 |a::r,hp=>by
  simp only[List.all_cons,Bool.and_eq_true,beq_iff_eq] at hp
  simp only[zbS,hp.1,if_true]
  exact zmk hp.2
def cmpL(a b:Entry):List Int:=[Lib.compareBytes a.key b.key,zk2 a.time b.time,Lib.compareBytes a.file b.file,zk2 a.lo b.lo]
def zPb(a b:Entry):Int:=zbS (cmpL a b)
theorem zsU(l:List Int):zab Tryz.prog 93 [.one (.list 1 (l.map intRow))] (.x (.one (.int .i64 (zbS l)))):=by
 refine zab.of mixed (fn:=Tryz.f93) (by kernel_rfl) (by kernel_rfl) rfl (by kernel_rfl) (by simp[Tryz.f93]) (fun hok=>?_)
 have hl:l.length≤maxLen:=by have:=hok _ List.mem_cons_self;simp[XV.ok,CV.ok] at this;exact this.1
 simp -implicitDefEqProofs +contextual[-Bool.and_eq_false_imp,Bool.and_eq_false_iff]
 refine zaK.of Nat (fun i=>[(3,.x (.one (.int .i64 0))),(6,.x (.one (.list 1 (l.map intRow)))),(7,.x (.one (.int .i64 l.length))),(8,.x (.one (.int .i64 i)))]) (zlp (·==0) l) (fun i=>l.length-i) 0 zlp.zero ?_ ?_
 ·simp
 intro i hi
 by_cases hlt:i<l.length
 ·simp -implicitDefEqProofs +contextual[-Bool.and_eq_false_imp,Bool.and_eq_false_iff,hlt,intRow]
  refine⟨fun h=>znU hi.2 hlt h,fun h=>zaz.of (i+1) (hi.step hlt (by simp[h])) (by omega) ?_⟩
  simp
  exact zaq _ (by unfold maxLen at hl;omega)
 ·simp -implicitDefEqProofs +contextual[-Bool.and_eq_false_imp,Bool.and_eq_false_iff,hlt]
  exact zmk (hi.done hlt)
theorem zo7(a b:Entry):zab Tryz.prog 47 [.agg a.row,.agg b.row] (.x (.one (.int .i64 (zPb a b)))):=by
 refine zab.of mixed (fn:=Tryz.f47) (by kernel_rfl) (by kernel_rfl) rfl (by kernel_rfl) (by simp[Tryz.f47]) (fun hok=>?_)
 simp -implicitDefEqProofs +contextual[-Bool.and_eq_false_imp,Bool.and_eq_false_iff,Entry.row]
 refine zac.of (strings_Compare _ _) ?_
 simp -implicitDefEqProofs +contextual[-Bool.and_eq_false_imp,Bool.and_eq_false_iff]
 refine zac.of (zeq _ _) ?_
 simp -implicitDefEqProofs +contextual[-Bool.and_eq_false_imp,Bool.and_eq_false_iff]
 refine zac.of (strings_Compare _ _) ?_
 simp -implicitDefEqProofs +contextual[-Bool.and_eq_false_imp,Bool.and_eq_false_iff]
 refine zac.of (zeq _ _) ?_
 simp -implicitDefEqProofs +contextual[-Bool.and_eq_false_imp,Bool.and_eq_false_iff]
 refine zac.of (zsU (cmpL a b)) ?_
 simp -implicitDefEqProofs +contextual[-Bool.and_eq_false_imp,Bool.and_eq_false_iff]
 rfl
def zgk(e:Entry):Int:=
 if zuu e.key=false then 3
 else if zbf e.time=false∨(e.status≠0∧inB 100 599 e.status=false) then 1
 else if e.type≠[]∧zqY e.type 40=false then 3
 else if zhX e.digest=false then 3
 else if nameB e.file=false then 5
 else if inB 0 500000 e.lo=false∨inB e.lo 500000 e.hi=false then 1
 else 0
theorem zrS(l:List UInt8):(zhX l=false)↔(l.length≠16∨Lib.trimS l zog≠[]):=by
 have e:=ziX l zog
 simp only[ztm] at e
 unfold zhX
 cases hb:l.all zJz with
 |true=>simp[e.2 hb]
 |false =>
  have:Lib.trimS l zog≠[]:=fun h=>by rw[e.1 h] at hb;cases hb
  simp[this]
theorem zkJ(e:Entry):zab Tryz.prog 49 [.agg e.row] (.x (.one (.int .i64 (zgk e)))):=by
 refine zab.of mixed (fn:=Tryz.f49) (by kernel_rfl) (by kernel_rfl) rfl (by kernel_rfl) (by simp[Tryz.f49]) (fun hok=>?_)
 have ed:=zrS e.digest
 generalize hF:zgk e=F
 unfold zgk at hF
 simp -implicitDefEqProofs +contextual[-Bool.and_eq_false_imp,Bool.and_eq_false_iff,Entry.row]
 refine zac.of (isKey _) ?_
 simp -implicitDefEqProofs +contextual[-Bool.and_eq_false_imp,Bool.and_eq_false_iff]
 refine⟨fun h=>?_,fun h1=>?_⟩
 ·rw[←hF,if_pos h]
 rw[if_neg (by simp[h1])] at hF
 refine zac.of (zhb _) ?_
 simp -implicitDefEqProofs +contextual[-Bool.and_eq_false_imp,Bool.and_eq_false_iff]
 refine zah.of (fun _=>zdU _ _ _) rfl ?_
 simp -implicitDefEqProofs +contextual[-Bool.and_eq_false_imp,Bool.and_eq_false_iff]
 refine⟨fun h=>?_,fun h2 h3=>zah.of (fun _=>isWord _ _) rfl ?_⟩
 ·rw[←hF,if_pos h]
 rw[if_neg (by simp[h2];exact fun a=>h3.resolve_left a)] at hF
 simp -implicitDefEqProofs +contextual[-Bool.and_eq_false_imp,Bool.and_eq_false_iff]
 refine⟨fun h4 h5=>?_,fun h4=>zah.of (fun _=>zcP _ zog (by decide) (by decide)) rfl ?_⟩
 ·rw[←hF,if_pos ⟨h4,h5⟩]
 rw[if_neg (by rintro⟨a,b⟩;rcases h4 with h4 | h4<;>simp_all)] at hF
 simp -implicitDefEqProofs +contextual[-Bool.and_eq_false_imp,Bool.and_eq_false_iff]
 have h16:((e.digest.length:Int)=16)↔(e.digest.length=16):=by omega
 refine⟨fun h=>?_,fun h5 h6=>zac.of (isName _) ?_⟩
 ·rw[←hF,if_pos (ed.2 (by rcases h with h | h;exact .inl (fun a=>h (h16.2 a));exact .inr h))]
 rw[if_neg (fun h=>by rcases ed.1 h with h | h;exact h (h16.1 h5);exact h h6)] at hF
 simp -implicitDefEqProofs +contextual[-Bool.and_eq_false_imp,Bool.and_eq_false_iff]
 refine⟨fun h=>?_,fun h7=>zac.of (zdU _ _ _) ?_⟩
 ·rw[←hF,if_pos h]
 rw[if_neg (by simp[h7])] at hF
 simp -implicitDefEqProofs +contextual[-Bool.and_eq_false_imp,Bool.and_eq_false_iff]
 refine zah.of (fun _=>zdU _ _ _) rfl ?_
 simp -implicitDefEqProofs +contextual[-Bool.and_eq_false_imp,Bool.and_eq_false_iff]
 refine⟨fun h=>?_,fun h8 h9=>?_⟩
 ·rw[←hF,if_pos h]
 ·rw[←hF,if_neg (by simp[h8,h9])]
def zhL:Option Entry→List Entry→Int
 |_,[]=>0
 |none,e::r=>if zgk e=0 then zhL (some e) r else zgk e
 |some q,e::r=>if zgk e=0 then (if 0<zPb q e then 8 else if zPb q e=0 then 7 else zhL (some e) r) else zgk e
def zbB(l:List Entry):Int:=if 3000<l.length then 2 else zhL none l
def prev(l:List Entry)(i:Nat):Option Entry:=if i=0 then none else l[i-1]?
def zko(l:List Entry)(i:Nat):Prop:=i≤l.length∧zhL none l=zhL (prev l i) (l.drop i)
theorem zko.zero{l:List Entry}:zko l 0:=⟨Nat.zero_le _,rfl⟩
theorem zko.at{l:List Entry}{i:Nat}(h:zko l i)(hlt:i<l.length):zhL none l=zhL (prev l i) (l[i]::l.drop (i+1)):=by
 rw[h.2,List.drop_eq_getElem_cons hlt]
theorem zpQ{l:List Entry}{i:Nat}(hlt:i<l.length):prev l (i+1)=some l[i]:=by
 simp[prev,hlt]
theorem zko.done{l:List Entry}{i:Nat}(h:zko l i)(hge:¬i<l.length):zhL none l=0:=by
 rw[h.2,List.drop_eq_nil_of_le (by omega)]
 cases prev l i<;>rfl
theorem zeR(l:List Entry):zab Tryz.prog 21 [.one (.list 9 (l.map Entry.row))] (.x (.one (.int .i64 (zbB l)))):=by
 refine zab.of mixed (fn:=Tryz.f21) (by kernel_rfl) (by kernel_rfl) rfl (by kernel_rfl) (by simp[Tryz.f21]) (fun hok=>?_)
 simp -implicitDefEqProofs +contextual[-Bool.and_eq_false_imp,Bool.and_eq_false_iff]
 refine⟨fun h=>?_,fun h=>?_⟩
 ·unfold zbB;rw[if_pos (by omega)]
 have hv:zbB l=zhL none l:=by unfold zbB;rw[if_neg (by omega)]
 rw[hv]
 refine zaK.of Nat (fun i=>[(0,.x (.one (.list 9 (l.map Entry.row)))),(10,.x (.one (.list 9 (l.map Entry.row)))),(11,.x (.one (.int .i64 l.length))),(12,.x (.one (.int .i64 i)))]) (zko l) (fun i=>l.length-i) 0 zko.zero ?_ ?_
 ·simp
 intro i hi
 by_cases hlt:i<l.length
 ·have hat:=hi.at hlt
  simp -implicitDefEqProofs +contextual[-Bool.and_eq_false_imp,Bool.and_eq_false_iff,hlt,Entry.row]
  refine zac.of (zkJ l[i]) ?_
  simp -implicitDefEqProofs +contextual[-Bool.and_eq_false_imp,Bool.and_eq_false_iff]
  refine⟨fun hf=>?_,fun hf=>⟨fun hpos=>?_,fun hz=>?_⟩⟩
  ·rw[hat]
   unfold zhL
   cases prev l i<;>simp[hf]
  ·have hw:IntKind.i64.wrap ((i:Int)-1)=((i-1:Nat):Int):=by rw[zaq _ (by omega)];omega
   have hlt1:i-1<l.length:=by omega
   have hp:prev l i=some l[i-1]:=by simp[prev,hlt1];omega
   rw[hp] at hat
   simp only[zhL,hf,if_true] at hat
   simp -implicitDefEqProofs +contextual[-Bool.and_eq_false_imp,Bool.and_eq_false_iff,hw,hlt1,Entry.row]
   refine zac.of (zo7 l[i-1] l[i]) ?_
   simp -implicitDefEqProofs +contextual[-Bool.and_eq_false_imp,Bool.and_eq_false_iff]
   refine⟨fun h1=>?_,fun h1=>⟨fun h2=>?_,fun h2=>?_⟩⟩
   ·rw[hat,if_pos h1]
   ·rw[hat,if_neg (by omega),if_pos h2]
   ·rw[if_neg (by omega),if_neg h2] at hat
    refine zaz.of (i+1) ⟨hlt,by rw[hat,zpQ hlt]⟩ (by omega) ?_
    simp
    exact zaq _ (by omega)
  ·subst hz
   refine zaz.of 1 ⟨hlt,?_⟩ (by omega) ?_
   ·rw[hat,zpQ hlt]
    simp[prev,zhL,hf]
   ·simp
    exact zaq _ (by omega)
 ·simp -implicitDefEqProofs[hlt]
  exact hi.done hlt
section
variable (e:Entry)
@[simp]theorem zNE:e.row.length=9:=rfl
@[simp]theorem zSx:List.take 9 e.row=e.row:=rfl
@[simp]theorem zQR(z:Option XV)(p:Prop):znl .one z p e.row=(p,.x (.one (.str e.key))):=rfl
@[simp]theorem zS1:e.row.tail=[.int .i64 e.time,.int .i64 e.status,.str e.type,.str e.digest,.str e.file,.int .i64 e.lo,.int .i64 e.hi,.bool e.same]:=rfl
end
@[simp]theorem zQU{α β:Type}(f:α→β)(l:List α)(a b:Int):cutAt (l.map f) a b=(cutAt l a b).map f:=by simp[cutAt]
@[simp]theorem zNy{α:Type}(l:List α)(a:Int):cutAt l a (l.length:Int)=l.drop a.toNat:=by simp[cutAt]
@[simp]theorem zNq{α:Type}(l:List α)(b:Int):cutAt l 0 b=l.take b.toNat:=by simp[cutAt]
abbrev entries(l:List Entry):XV:=.one (.list 9 (l.map Entry.row))
def zdp(s p:List UInt8):Bool:=p.isPrefixOf s
theorem stringslite_HasPrefix(s p:List UInt8):zab Tryz.prog 283 [.one (.str s),.one (.str p)] (.x (.one (.bool (zdp s p)))):=by
 refine zab.of mixed (fn:=Tryz.f283) (by kernel_rfl) (by kernel_rfl) rfl (by kernel_rfl) (by simp[Tryz.f283]) (fun hok=>?_)
 simp -implicitDefEqProofs +contextual[-Bool.and_eq_false_imp,Bool.and_eq_false_iff]
 have h:(p.isPrefixOf s=true)↔p=s.take p.length:=by rw[List.isPrefixOf_iff_prefix,List.prefix_iff_eq_take]
 unfold zdp
 rw[Bool.eq_iff_iff,h]
 simp
 constructor
 ·intro e
  refine⟨?_,e.symm⟩
  have:=congrArg List.length e
  rw[List.length_take] at this
  omega
 ·intro e;exact e.2.symm
theorem strings_HasPrefix(s p:List UInt8):zab Tryz.prog 246 [.one (.str s),.one (.str p)] (.x (.one (.bool (zdp s p)))):=by
 refine zab.of mixed (fn:=Tryz.f246) (by kernel_rfl) (by kernel_rfl) rfl (by kernel_rfl) (by simp[Tryz.f246]) (fun hok=>?_)
 simp -implicitDefEqProofs +contextual[-Bool.and_eq_false_imp,Bool.and_eq_false_iff]
 refine zac.of (stringslite_HasPrefix _ _) ?_
 simp -implicitDefEqProofs +contextual[-Bool.and_eq_false_imp,Bool.and_eq_false_iff]
end Go.Proofs.YtlcmnclbljedfaaGreatDoor
namespace Go.Proofs.YtlcmnclbljedfaaGreatDoor
open Go Go.Ab
variable [Amb]
set_option maxRecDepth 100000
set_option maxHeartbeats 4000000
theorem zhC{l:List Entry}(h:zbB l=0):l.length≤3000:=by
 unfold zbB at h
 split at h
 ·cases h
 ·omega
end Go.Proofs.YtlcmnclbljedfaaGreatDoor
namespace Go.Proofs.YtlcmnclbljedfaaGreatDoor
open Go
set_option maxRecDepth 100000
def zA8:Go.Shelf.Ren:=⟨fun x=>if x=129 then 167 else if x=171 then 80 else if x=243 then 136 else if x=246 then 230 else if x=283 then 274 else if x=284 then 275 else if x=285 then 276 else if x=286 then 277 else if x=317 then 316 else if x=318 then 317 else if x=319 then 318 else if x=320 then 319 else if x=337 then 332 else if x=338 then 333 else x,fun x=>if x=0 then 0 else if x=2 then 2 else if x=3 then 3 else if x=4 then 4 else if x=5 then 5 else if x=9 then 9 else if x=20 then 20 else if x=37 then 41 else if x=46 then 165 else if x=51 then 233 else if x=53 then 156 else if x=171 then 302 else if x=173 then 304 else if x=212 then 331 else if x=213 then 332 else if x=232 then 354 else if x=233 then 355 else x,fun x=>if x=17 then 1 else if x=18 then 6 else if x=19 then 7 else x⟩
theorem zB2:Go.Proofs.LaysM.n171 Tryz.prog zA8 where
 i0:=by kernel_rfl
 i2:=by kernel_rfl
 i3:=by kernel_rfl
 i4:=by kernel_rfl
 i5:=by kernel_rfl
 i9:=by kernel_rfl
 i20:=by kernel_rfl
 i37:=by kernel_rfl
 i46:=by kernel_rfl
 i51:=by kernel_rfl
 i53:=by kernel_rfl
 i171:=by kernel_rfl
 i173:=by kernel_rfl
 i212:=by kernel_rfl
 i232:=by kernel_rfl
 i233:=by kernel_rfl
 m17:=by kernel_rfl
 m18:=by kernel_rfl
 m19:=by kernel_rfl
 mixed:=by kernel_rfl
 f129:=Tryz.func167.trans (congrArg some (by kernel_rfl))
 f171:=Tryz.func80.trans (congrArg some (by kernel_rfl))
 f243:=Tryz.func136.trans (congrArg some (by kernel_rfl))
 f246:=Tryz.func230.trans (congrArg some (by kernel_rfl))
 f283:=Tryz.func274.trans (congrArg some (by kernel_rfl))
 f284:=Tryz.func275.trans (congrArg some (by kernel_rfl))
 f285:=Tryz.func276.trans (congrArg some (by kernel_rfl))
 f286:=Tryz.func277.trans (congrArg some (by kernel_rfl))
 f317:=Tryz.func316.trans (congrArg some (by kernel_rfl))
 f318:=Tryz.func317.trans (congrArg some (by kernel_rfl))
 f319:=Tryz.func318.trans (congrArg some (by kernel_rfl))
 f320:=Tryz.func319.trans (congrArg some (by kernel_rfl))
 f337:=Tryz.func332.trans (congrArg some (by kernel_rfl))
 f338:=Tryz.func333.trans (congrArg some (by kernel_rfl))
 t0:=Tryz.underlying0
 a0:=Tryz.isAgg0
 z0:=Tryz.sizeOf0
 v0:=Tryz.zeroValue0
 t2:=Tryz.underlying2
 a2:=Tryz.isAgg2
 z2:=Tryz.sizeOf2
 v2:=Tryz.zeroValue2
 t3:=Tryz.underlying3
 a3:=Tryz.isAgg3
 z3:=Tryz.sizeOf3
 v3:=Tryz.zeroValue3
 t4:=Tryz.underlying4
 a4:=Tryz.isAgg4
 z4:=Tryz.sizeOf4
 v4:=Tryz.zeroValue4
 t5:=Tryz.underlying5
 a5:=Tryz.isAgg5
 z5:=Tryz.sizeOf5
 v5:=Tryz.zeroValue5
 t9:=Tryz.underlying9
 a9:=Tryz.isAgg9
 z9:=Tryz.sizeOf9
 v9:=Tryz.zeroValue9
 t20:=Tryz.underlying20
 a20:=Tryz.isAgg20
 z20:=Tryz.sizeOf20
 v20:=Tryz.zeroValue20
 t37:=Tryz.underlying41
 a37:=Tryz.isAgg41
 z37:=Tryz.sizeOf41
 v37:=Tryz.zeroValue41
 t46:=Tryz.underlying165
 a46:=Tryz.isAgg165
 z46:=Tryz.sizeOf165
 v46:=Tryz.zeroValue165
 t51:=Tryz.underlying233
 a51:=Tryz.isAgg233
 z51:=Tryz.sizeOf233
 v51:=Tryz.zeroValue233
 t53:=Tryz.underlying156
 a53:=Tryz.isAgg156
 z53:=Tryz.sizeOf156
 v53:=Tryz.zeroValue156
 t171:=Tryz.underlying302
 a171:=Tryz.isAgg302
 z171:=Tryz.sizeOf302
 v171:=Tryz.zeroValue302
 t173:=Tryz.underlying304
 a173:=Tryz.isAgg304
 z173:=Tryz.sizeOf304
 v173:=Tryz.zeroValue304
 t212:=Tryz.underlying331
 a212:=Tryz.isAgg331
 z212:=Tryz.sizeOf331
 v212:=Tryz.zeroValue331
 t213:=Tryz.underlying332
 a213:=Tryz.isAgg332
 z213:=Tryz.sizeOf332
 t232:=Tryz.underlying354
 a232:=Tryz.isAgg354
 z232:=Tryz.sizeOf354
 v232:=Tryz.zeroValue354
 t233:=Tryz.underlying355
 a233:=Tryz.isAgg355
 z233:=Tryz.sizeOf355
 v233:=Tryz.zeroValue355
 g17:=by kernel_rfl
 g18:=by kernel_rfl
 g19:=by kernel_rfl
end Go.Proofs.YtlcmnclbljedfaaGreatDoor
namespace Go.Proofs.YtlcmnclbljedfaaGreatDoor
open Go Go.Ab
variable [Amb][zal Tryz.prog]
set_option maxRecDepth 100000
set_option maxHeartbeats 4000000
def zrK(n:Int):List UInt8:=Lib.itoa n
def I64(n:Int):Prop:=-9223372036854775808≤n∧n≤9223372036854775807
theorem zrn{n:Int}(h:I64 n):(zrK n).length≤21:=Lib.itoa_length_le n h.1 h.2
theorem below_grow(w:World)(k:Nat)(os:Array Obj):RowKit.Below w.heap.size w (Sort.grow (w.drewN k) os):=
 ⟨rfl,rfl,rfl,by simp[Sort.grow,World.drewN],fun j hj=>by
  show (w.heap++os)[j]?=w.heap[j]?
  rw[Array.getElem?_append_left hj]⟩
theorem strconv_Itoa(n:Int)(h:I64 n):zab Tryz.prog 80 [.one (.int .i64 n)] (.x (.one (.str (zrK n)))):=by
 refine zab.znw [.int .i64 n] _ (zbm Tryz.f80 (by kernel_rfl) (by kernel_rfl) rfl) rfl (fun _ _=>zoU _ (Nat.le_trans (zrn h) (by decide))) (fun _ w hw=>?_)
 refine(Any.strconv_Itoa zB2 n h.1 h.2 w (zal.tab w hw)).mono ?_
 rintro e w' ⟨rfl,k,os,rfl⟩
 exact⟨rfl,below_grow _ _ _⟩
abbrev strs(l:List (List UInt8)):XV:=.one (.list 1 (l.map fun s=>[.str s]))
structure Right(e:Entry):Prop where
 key:e.key.length≤2000
 time:0≤e.time∧e.time≤253402300799
 status:e.status=0∨(100≤e.status∧e.status≤599)
 type:e.type.length≤40
 digest:e.digest.length=16
 file:e.file.length≤40
 lo:0≤e.lo∧e.lo≤500000
 hi:e.lo≤e.hi∧e.hi≤500000
end Go.Proofs.YtlcmnclbljedfaaGreatDoor
namespace Go.Proofs.YtlcmnclbljedfaaGreatDoor
open Go
def dig(n:Nat):UInt8:=UInt8.ofNat (48+n % 10)
def zgg:Nat→Nat→List UInt8
 |0,_=>[]
 |k+1,n=>zgg k (n / 10)++[dig n]
@[simp]theorem zfJ:∀(k n:Nat),(zgg k n).length=k
 |0,_=>rfl
 |k+1,n=>by simp[zgg,zfJ k]
theorem zpA:∀k,zgg k 0=List.replicate k 48
 |0=>rfl
 |k+1=>by
  simp only[zgg,Nat.zero_div,zpA k,List.replicate_succ']
  rfl
theorem zyb:∀(k n:Nat),n<10 ^ k→1≤k→(Lib.decDigits n).length≤k∧zgg k n=List.replicate (k-(Lib.decDigits n).length) 48++Lib.decDigits n
 |0,n,_,h=>by omega
 |k+1,n,hn,_=>by
  by_cases h10:n<10
  ·have e:Lib.decDigits n=[UInt8.ofNat (48+n)]:=by rw[Lib.decDigits,dif_pos h10]
   rw[e]
   refine⟨by simp,?_⟩
   simp only[zgg,List.length_cons,List.length_nil,Nat.add_sub_cancel,Nat.zero_add]
   rw[show n / 10=0 by omega,zpA,dig,Nat.mod_eq_of_lt h10]
  ·have e:Lib.decDigits n=Lib.decDigits (n / 10)++[UInt8.ofNat (48+n % 10)]:=by rw[Lib.decDigits,dif_neg h10]
   have hk:1≤k:=by
    rcases Nat.eq_zero_or_pos k with h0 | h0
    ·subst h0;simp at hn;omega
    ·exact h0
   have hlt:n / 10<10 ^ k:=by rw[Nat.pow_succ] at hn;omega
   obtain⟨h1,h2⟩:=zyb k (n / 10) hlt hk
   rw[e]
   refine⟨by simp;omega,?_⟩
   simp only[zgg,List.length_append,List.length_cons,List.length_nil,h2]
   rw[show k+1-((Lib.decDigits (n / 10)).length+(0+1))=k-(Lib.decDigits (n / 10)).length by omega,List.append_assoc]
   rfl
theorem zyA(k n:Nat)(h:n<10 ^ k)(hk:1≤k):(Lib.itoa (n:Int)).length≤k∧List.replicate (k-(Lib.itoa (n:Int)).length) 48++Lib.itoa (n:Int)=zgg k n:=by
 have e:Lib.itoa (n:Int)=Lib.decDigits n:=by unfold Lib.itoa;rw[if_neg (by omega)];rfl
 rw[e]
 obtain⟨h1,h2⟩:=zyb k n h hk
 exact⟨h1,h2.symm⟩
def zdV(b:UInt8):Bool:=decide (48≤b.toNat)&&decide (b.toNat≤57)
def ze7(s:List UInt8):Nat:=s.foldl (fun a b=>a*10+(b.toNat-48)) 0
def zN9(s:List UInt8):Bool:=decide (s.head?=some 48)&&decide (s.length≠1)
theorem zxz(s:List UInt8)(b:UInt8):ze7 (s++[b])=ze7 s*10+(b.toNat-48):=by simp[ze7,List.foldl_append]
theorem zG9{α:Type}(l:List α)(h:l≠[]):∃t b,l=t++[b]:=⟨l.dropLast,l.getLast h,(List.dropLast_concat_getLast h).symm⟩
theorem zAx{α:Type}{p:List α→Prop}(h0:p [])(h1:∀t b,p t→p (t++[b]))(l:List α):p l:=by
 generalize hn:l.length=n
 induction n generalizing l with
 |zero=>rw[List.eq_nil_of_length_eq_zero hn];exact h0
 |succ n ih =>
  obtain⟨t,b,rfl⟩:=zG9 l (by rintro rfl;simp at hn)
  exact h1 t b (ih t (by simpa using hn))
theorem znI:∀(s:List UInt8) (a:Nat),s.all zdV=true→Lib.decFrom a s=some (s.foldl (fun a b=>a*10+(b.toNat-48)) a)
 |[],a,_=>rfl
 |b::r,a,h=>by
  simp only[List.all_cons,Bool.and_eq_true,zdV,decide_eq_true_eq] at h
  have hd:Lib.digitVal b=some (b.toNat-48):=by unfold Lib.digitVal;rw[if_pos ⟨h.1.1,h.1.2⟩]
  unfold Lib.decFrom
  rw[hd]
  exact znI r _ h.2
theorem zwZ{s:List UInt8}(h:s.all zdV=true)(h0:s≠[]):Lib.atoi s=some (ze7 s:Int):=by
 cases s with
 |nil=>exact absurd rfl h0
 |cons b r =>
  have hb:=h
  simp only[List.all_cons,Bool.and_eq_true,zdV,decide_eq_true_eq] at hb
  have h45:(b==45)=false:=by
   simp only[beq_eq_false_iff_ne,ne_eq];rintro rfl;exact absurd hb.1.1 (by decide)
  have h43:(b==43)=false:=by
   simp only[beq_eq_false_iff_ne,ne_eq];rintro rfl;exact absurd hb.1.1 (by decide)
  unfold Lib.atoi
  dsimp only
  rw[h45,h43]
  simp only[Bool.false_eq_true,if_false,Lib.decNat,List.isEmpty_cons]
  rw[znI _ 0 h]
  rfl
theorem zQV{b:UInt8}(h:zdV b=true):UInt8.ofNat (48+(b.toNat-48))=b∧b.toNat-48<10:=by
 simp only[zdV,Bool.and_eq_true,decide_eq_true_eq] at h
 refine⟨?_,by omega⟩
 rw[show 48+(b.toNat-48)=b.toNat by omega]
 simp
theorem zgh:∀(s:List UInt8),s.all zdV=true→ze7 s<10 ^ s.length:=by
 intro s
 induction s using zAx with
 |h0=>intro _;simp[ze7]
 |h1 t b ih =>
  intro h
  simp only[List.all_append,List.all_cons,List.all_nil,Bool.and_true,Bool.and_eq_true] at h
  have h1:=ih h.1
  have h2:=(zQV h.2).2
  rw[zxz,List.length_append,List.length_singleton,Nat.pow_succ]
  omega
end Go.Proofs.YtlcmnclbljedfaaGreatDoor
namespace Go.Proofs.YtlcmnclbljedfaaGreatDoor
def zqd(y:Int):Bool:=decide (y % 4=0)&&(decide (y % 100≠0) || decide (y % 400=0))
def dY(y:Int):Int:=365*(y-1)+(y-1) / 4-(y-1) / 100+(y-1) / 400-719162
def zzj(y:Int):Int:=if zqd y=true then 366 else 365
def zuP(y m:Int):Int:=if m=4∨m=6∨m=9∨m=11 then 30 else if m=2 then (if zqd y=true then 29 else 28) else 31
def dMN(y:Int):Nat→Int
 |0=>0
 |n+1=>if n=0 then 0 else dMN y n+zuP y n
def dM(y m:Int):Int:=dMN y m.toNat
theorem zox(y:Int):dY (y+1)=dY y+zzj y:=by
 unfold dY zzj zqd
 simp only[Bool.and_eq_true,Bool.or_eq_true,decide_eq_true_eq]
 split<;>omega
theorem zoe(y:Int):365≤zzj y∧zzj y≤366:=by unfold zzj;split<;>omega
theorem zqj(y:Int):dM y 1=0:=rfl
theorem zjD(y m:Int)(h:1≤m):dM y (m+1)=dM y m+zuP y m:=by
 unfold dM
 obtain⟨n,rfl⟩:∃n:Nat,m=(n:Int)+1:=⟨(m-1).toNat,by omega⟩
 have e1:((n:Int)+1+1).toNat=n+2:=by omega
 have e2:((n:Int)+1).toNat=n+1:=by omega
 rw[e1,e2]
 show (if n+1=0 then 0 else dMN y (n+1)+zuP y ((n+1:Nat):Int))=_
 rw[if_neg (by omega)]
 congr 1
theorem ziM(y m:Int):28≤zuP y m∧zuP y m≤31:=by unfold zuP;repeat' split<;>omega
theorem zwV(y:Int):dM y 13=zzj y:=by
 have h:=fun m h=>zjD y m h
 have h1:=h 1 (by omega);have h2:=h 2 (by omega);have h3:=h 3 (by omega);have h4:=h 4 (by omega);have h5:=h 5 (by omega);have h6:=h 6 (by omega)
 have h7:=h 7 (by omega);have h8:=h 8 (by omega);have h9:=h 9 (by omega);have h10:=h 10 (by omega);have h11:=h 11 (by omega);have h12:=h 12 (by omega)
 simp only[zuP,Int.reduceAdd] at h1 h2 h3 h4 h5 h6 h7 h8 h9 h10 h11 h12
 rw[zqj] at h1
 unfold zzj
 cases hl:zqd y<;>simp[hl] at*<;> omega
theorem zlw(y:Int){a b:Int}(ha:1≤a)(h:a≤b):dM y a≤dM y b:=by
 obtain⟨n,rfl⟩:∃n:Nat,b=a+n:=⟨(b-a).toNat,by omega⟩
 clear h
 induction n with
 |zero=>simp
 |succ n ih =>
  have:=zjD y (a+n) (by omega)
  have:=ziM y (a+n)
  rw[show a+((n+1:Nat):Int)=a+n+1 by omega]
  omega
theorem zmN{a b:Int}(h:a≤b):dY a≤dY b:=by
 obtain⟨n,rfl⟩:∃n:Nat,b=a+n:=⟨(b-a).toNat,by omega⟩
 clear h
 induction n with
 |zero=>simp
 |succ n ih =>
  have:=zox (a+n)
  have:=zoe (a+n)
  rw[show a+((n+1:Nat):Int)=a+n+1 by omega]
  omega
structure zvL(day y m d:Int):Prop where
 y0:1970≤y
 lo:dY y≤day
 hi:day<dY (y+1)
 m0:1≤m
 m1:m≤12
 ml:dY y+dM y m≤day
 mh:day<dY y+dM y (m+1)
 dd:d=day-dY y-dM y m+1
theorem zvL.d{day y m d:Int}(h:zvL day y m d):1≤d∧d≤zuP y m:=by
 have:=zjD y m h.m0;have:=h.ml;have:=h.mh;have:=h.dd
 omega
def ziT:Nat→Int
 |0=>1970
 |n+1=>if ((n+1:Nat):Int)<dY (ziT n+1) then ziT n else ziT n+1
theorem zzB(n:Nat):1970≤ziT n∧dY (ziT n)≤n∧(n:Int)<dY (ziT n+1):=by
 induction n with
 |zero=>exact⟨by decide,by decide,by decide⟩
 |succ n ih =>
  obtain⟨h0,h1,h2⟩:=ih
  unfold ziT
  split
  ·rename_i h
   exact⟨h0,by omega,h⟩
  ·have:=zox (ziT n+1)
   have:=zoe (ziT n+1)
   exact⟨by omega,by omega,by omega⟩
theorem zx8(y r:Int)(h0:0≤r)(h1:r<zzj y):∃m,1≤m∧m≤12∧dM y m≤r∧r<dM y (m+1):=by
 have key:∀n:Nat,n≤11→(∃m,1≤m∧m≤12∧dM y m≤r∧r<dM y (m+1))∨dM y ((n:Int)+2)≤r:=by
  intro n
  induction n with
  |zero =>
   intro _
   by_cases h:r<dM y 2
   ·exact .inl ⟨1,by omega,by omega,by rw[zqj];exact h0,h⟩
   ·exact .inr (by simpa using h)
  |succ n ih =>
   intro hn
   rcases ih (by omega) with h | h
   ·exact .inl h
   ·by_cases h':r<dM y ((n:Int)+2+1)
    ·exact .inl ⟨(n:Int)+2,by omega,by omega,h,h'⟩
    ·refine .inr ?_
     rw[show ((n+1:Nat):Int)+2=(n:Int)+2+1 by omega]
     omega
 rcases key 11 (by omega) with h | h
 ·exact h
 ·have:=zwV y
  have e:dM y (((11:Nat):Int)+2)=dM y 13:=rfl
  omega
def zbV(day:Int):Int:=ziT day.toNat
def monthOf(day:Int):Int:=((((List.range 12).find? (fun (k:Nat)=>decide (day<dY (zbV day)+dM (zbV day) ((k:Int)+2)))).getD 0:Nat):Int)+1
def dayOf(day:Int):Int:=day-dY (zbV day)-dM (zbV day) (monthOf day)+1
theorem zxM(day:Int)(h:0≤day):zvL day (zbV day) (monthOf day) (dayOf day):=by
 have hy:=zzB day.toNat
 rw[show ((day.toNat:Nat):Int)=day by omega] at hy
 obtain⟨h0,h1,h2⟩:=hy
 have hs:=zox (ziT day.toNat)
 obtain⟨m,m0,m1,m2,m3⟩:=zx8 (ziT day.toNat) (day-dY (ziT day.toNat)) (by omega) (by omega)
 have hm:monthOf day=m:=by
  have hfind:(List.range 12).find? (fun (k:Nat)=>decide (day<dY (zbV day)+dM (zbV day) ((k:Int)+2)))=some (m-1).toNat:=by
   rw[List.find?_eq_some_iff_getElem]
   refine⟨?_,(m-1).toNat,by simp;omega,by simp,fun j hj=>?_⟩
   ·have e2:(((m-1).toNat:Nat):Int)+2=m+1:=by omega
    have:day<dY (zbV day)+dM (zbV day) ((((m-1).toNat:Nat):Int)+2):=by rw[e2];simp only[zbV];omega
    simpa using this
   ·have hj':(j:Int)+2≤m:=by omega
    have:=zlw (ziT day.toNat) (a:=(j:Int)+2) (b:=m) (by omega) hj'
    simp only[List.getElem_range,zbV]
    simp;omega
  unfold monthOf
  rw[hfind]
  simp only[Option.getD_some]
  omega
 unfold dayOf
 rw[hm]
 exact⟨h0,h1,h2,m0,m1,by unfold zbV;omega,by unfold zbV;omega,rfl⟩
theorem zvL.top{day y m d:Int}(h:zvL day y m d)(hd:day≤2932896):y≤9999:=by
 refine Classical.byContradiction fun hn=>?_
 have h1:=zmN (a:=10000) (b:=y) (by omega)
 have h2:dY 10000=2932897:=by decide
 have:=h.lo
 omega
end Go.Proofs.YtlcmnclbljedfaaGreatDoor
namespace Go.Proofs.YtlcmnclbljedfaaGreatDoor
open Go
set_option maxRecDepth 100000
def zyC:Go.Shelf.Ren:=⟨fun x=>if x=99 then 246 else if x=105 then 273 else if x=165 then 312 else if x=166 then 313 else if x=169 then 315 else if x=170 then 314 else if x=206 then 283 else if x=212 then 311 else if x=240 then 330 else if x=241 then 331 else if x=263 then 328 else if x=264 then 329 else if x=276 then 337 else if x=277 then 338 else x,fun x=>if x=0 then 0 else if x=3 then 3 else if x=4 then 4 else if x=5 then 5 else if x=9 then 9 else if x=20 then 20 else if x=37 then 41 else if x=46 then 165 else if x=51 then 233 else if x=53 then 156 else if x=70 then 324 else if x=72 then 326 else if x=75 then 240 else if x=76 then 241 else if x=80 then 329 else if x=109 then 322 else if x=127 then 345 else if x=146 then 320 else if x=148 then 343 else if x=164 then 351 else x,fun x=>x⟩
theorem zH3:Go.Proofs.Lays.n105 Tryz.prog zyC where
 mixed:=by kernel_rfl
 f99:=Tryz.func246.trans (congrArg some (by kernel_rfl))
 f105:=Tryz.func273.trans (congrArg some (by kernel_rfl))
 f165:=Tryz.func312.trans (congrArg some (by kernel_rfl))
 f166:=Tryz.func313.trans (congrArg some (by kernel_rfl))
 f169:=Tryz.func315.trans (congrArg some (by kernel_rfl))
 f170:=Tryz.func314.trans (congrArg some (by kernel_rfl))
 f206:=Tryz.func283.trans (congrArg some (by kernel_rfl))
 f212:=Tryz.func311.trans (congrArg some (by kernel_rfl))
 f240:=Tryz.func330.trans (congrArg some (by kernel_rfl))
 f241:=Tryz.func331.trans (congrArg some (by kernel_rfl))
 f263:=Tryz.func328.trans (congrArg some (by kernel_rfl))
 f264:=Tryz.func329.trans (congrArg some (by kernel_rfl))
 f276:=Tryz.func337.trans (congrArg some (by kernel_rfl))
 f277:=Tryz.func338.trans (congrArg some (by kernel_rfl))
 t0:=Tryz.underlying0
 a0:=Tryz.isAgg0
 z0:=Tryz.sizeOf0
 v0:=Tryz.zeroValue0
 t3:=Tryz.underlying3
 a3:=Tryz.isAgg3
 z3:=Tryz.sizeOf3
 v3:=Tryz.zeroValue3
 t4:=Tryz.underlying4
 a4:=Tryz.isAgg4
 z4:=Tryz.sizeOf4
 v4:=Tryz.zeroValue4
 t5:=Tryz.underlying5
 a5:=Tryz.isAgg5
 z5:=Tryz.sizeOf5
 v5:=Tryz.zeroValue5
 t9:=Tryz.underlying9
 a9:=Tryz.isAgg9
 z9:=Tryz.sizeOf9
 v9:=Tryz.zeroValue9
 t20:=Tryz.underlying20
 a20:=Tryz.isAgg20
 z20:=Tryz.sizeOf20
 v20:=Tryz.zeroValue20
 t37:=Tryz.underlying41
 a37:=Tryz.isAgg41
 z37:=Tryz.sizeOf41
 v37:=Tryz.zeroValue41
 t46:=Tryz.underlying165
 a46:=Tryz.isAgg165
 z46:=Tryz.sizeOf165
 v46:=Tryz.zeroValue165
 t51:=Tryz.underlying233
 a51:=Tryz.isAgg233
 z51:=Tryz.sizeOf233
 v51:=Tryz.zeroValue233
 t53:=Tryz.underlying156
 a53:=Tryz.isAgg156
 z53:=Tryz.sizeOf156
 v53:=Tryz.zeroValue156
 t70:=Tryz.underlying324
 a70:=Tryz.isAgg324
 z70:=Tryz.sizeOf324
 v70:=Tryz.zeroValue324
 t72:=Tryz.underlying326
 a72:=Tryz.isAgg326
 z72:=Tryz.sizeOf326
 v72:=Tryz.zeroValue326
 t75:=Tryz.underlying240
 a75:=Tryz.isAgg240
 z75:=Tryz.sizeOf240
 v75:=Tryz.zeroValue240
 t76:=Tryz.underlying241
 a76:=Tryz.isAgg241
 z76:=Tryz.sizeOf241
 v76:=Tryz.zeroValue241
 t109:=Tryz.underlying322
 a109:=Tryz.isAgg322
 z109:=Tryz.sizeOf322
 v109:=Tryz.zeroValue322
 t127:=Tryz.underlying345
 a127:=Tryz.isAgg345
 z127:=Tryz.sizeOf345
 v127:=Tryz.zeroValue345
 t146:=Tryz.underlying320
 a146:=Tryz.isAgg320
 z146:=Tryz.sizeOf320
 v146:=Tryz.zeroValue320
 t148:=Tryz.underlying343
 a148:=Tryz.isAgg343
 z148:=Tryz.sizeOf343
 v148:=Tryz.zeroValue343
 t164:=Tryz.underlying351
 a164:=Tryz.isAgg351
 z164:=Tryz.sizeOf351
 v164:=Tryz.zeroValue351
theorem zjf:Go.Proofs.Builder.Extra Tryz.prog zyC where
 t5:=Tryz.underlying5
 a5:=Tryz.isAgg5
 z5:=Tryz.sizeOf5
 v5:=Tryz.zeroValue5
 infoByte:=by kernel_rfl
 cellsByte:=by kernel_rfl
 sizeByte:=by kernel_rfl
 neB5:=by decide
 sizeBuilder:=by kernel_rfl
 liesBuilder:=by kernel_rfl
end Go.Proofs.YtlcmnclbljedfaaGreatDoor
namespace Go.Proofs.YtlcmnclbljedfaaGreatDoor
open Go Go.Ab
variable [Amb][zal Tryz.prog]
set_option maxRecDepth 100000
set_option maxHeartbeats 4000000
theorem zqP(b:UInt8):∀n:Nat,Lib.repeatL [b] n=List.replicate n b
 |0=>rfl
 |n+1=>by
  rw[Lib.repeatL,zqP b n];rfl
theorem strings_Repeat(b:UInt8)(n:Nat)(h:n≤1000000):zab Tryz.prog 273 [.one (.str [b]),.one (.int .i64 n)] (.x (.one (.str (List.replicate n b)))):=by
 refine zab.ztJ [.string ⟨#[b]⟩,.int .i64 n] _ (zbm Tryz.f273 (by kernel_rfl) (by kernel_rfl) rfl) rfl (fun _ _=>zoU _ (by simp;unfold maxLen;omega)) (fun _ w=>?_)
 refine(Any.strings_Repeat zH3 zjf ⟨#[b]⟩ n w (by omega) (by show 1*n≤_;omega)).mono ?_
 rintro e w' ⟨rfl,hb⟩
 refine⟨?_,hb⟩
 rw[show (⟨#[b]⟩:ByteArray).data.toList=[b] from rfl,zqP]
theorem zct(n k:Nat)(hn:n<10 ^ k)(hk:1≤k)(hk2:k≤18):zab Tryz.prog 228 [.one (.int .i64 n),.one (.int .i64 k)] (.x (.one (.str (zgg k n)))):=by
 refine zab.of mixed (fn:=Tryz.f228) (by kernel_rfl) (by kernel_rfl) rfl (by kernel_rfl) (by simp[Tryz.f228]) (fun hok=>?_)
 obtain⟨h1,h2⟩:=zyA k n hn hk
 have hp:10 ^ k≤10 ^ 18:=Nat.pow_le_pow_right (by omega) hk2
 have h64:I64 (n:Int):=by unfold I64;omega
 rw[←h2]
 simp -implicitDefEqProofs
 refine zac.of (strconv_Itoa _ h64) ?_
 obtain⟨s,es⟩:∃s,s=zrK (n:Int):=⟨_,rfl⟩
 rw[show Lib.itoa (n:Int)=s from es.symm] at h1 ⊢
 rw[←es]
 have w1:IntKind.i64.wrap ((k:Int)-s.length)=((k-s.length:Nat):Int):=by rw[zaq _ (by omega)];omega
 have w2:max 0 ((k-s.length:Nat):Int)=((k-s.length:Nat):Int):=by omega
 simp -implicitDefEqProofs[w1,w2]
 refine zac.of (strings_Repeat 48 _ (by omega)) ?_
 have m1:k-s.length+s.length≤maxLen:=by unfold maxLen;omega
 simp -implicitDefEqProofs[m1]
theorem zw3(y:Int):(y % 4=0∧(y % 100≠0∨y % 400=0))↔zqd y=true:=by
 unfold zqd;simp
theorem zfR{a:Int}(b:Int)(h:0≤a):a.tmod b=a % b:=Int.tmod_eq_emod_of_nonneg h
theorem zeU{a:Int}(b:Int)(h:0≤a):a.tdiv b=a / b:=Int.tdiv_eq_ediv_of_nonneg h
theorem zjm(y m:Int)(hy:0≤y∧y≤100000):zab Tryz.prog 301 [.one (.int .i64 y),.one (.int .i64 m)] (.x (.one (.int .i64 (zuP y m)))):=by
 refine zab.of mixed (fn:=Tryz.f301) (by kernel_rfl) (by kernel_rfl) rfl (by kernel_rfl) (by simp[Tryz.f301]) (fun hok=>?_)
 have t1:y.tmod 4=y % 4:=zfR _ hy.1
 have t2:y.tmod 100=y % 100:=zfR _ hy.1
 have t3:y.tmod 400=y % 400:=zfR _ hy.1
 have w1:IntKind.i64.wrap (y % 4)=y % 4:=zaq _ (by omega)
 have w2:IntKind.i64.wrap (y % 100)=y % 100:=zaq _ (by omega)
 have w3:IntKind.i64.wrap (y % 400)=y % 400:=zaq _ (by omega)
 have e:zuP y m=if m=4∨m=6∨m=9∨m=11 then 30 else if m=2 then (if zqd y=true then 29 else 28) else 31:=rfl
 generalize zuP y m=r at e ⊢
 by_cases h4:m=4
 ·subst h4;rw[if_pos (.inl rfl)] at e;subst e;simp -implicitDefEqProofs
 by_cases h6:m=6
 ·subst h6;rw[if_pos (.inr (.inl rfl))] at e;subst e;simp -implicitDefEqProofs
 by_cases h9:m=9
 ·subst h9;rw[if_pos (.inr (.inr (.inl rfl)))] at e;subst e;simp -implicitDefEqProofs
 by_cases h11:m=11
 ·subst h11;rw[if_pos (.inr (.inr (.inr rfl)))] at e;subst e;simp -implicitDefEqProofs
 rw[if_neg (by simp[h4,h6,h9,h11])] at e
 by_cases h2:m=2
 ·subst h2
  rw[if_pos rfl] at e
  have hl:=zw3 y
  cases hb:zqd y with
  |true =>
   obtain⟨l1,l2⟩:=hl.2 hb
   rw[if_pos hb] at e
   subst e
   by_cases l3:y % 100=0
   ·have l4:=l2.resolve_left (fun h=>h l3)
    simp -implicitDefEqProofs[t1,t2,t3,w1,w2,w3,l1,l3,l4]
   ·simp -implicitDefEqProofs[t1,t2,t3,w1,w2,w3,l1,l3]
  |false =>
   rw[if_neg (by simp[hb])] at e
   subst e
   by_cases l1:y % 4=0
   ·have l3:y % 100=0:=Classical.byContradiction fun h=>by rw[hl.1 ⟨l1,.inl h⟩] at hb;cases hb
    have l4:¬y % 400=0:=fun h=>by rw[hl.1 ⟨l1,.inr h⟩] at hb;cases hb
    simp -implicitDefEqProofs[t1,t2,t3,w1,w2,w3,l1,l3,l4]
   ·simp -implicitDefEqProofs[t1,t2,t3,w1,w2,w3,l1]
 ·rw[if_neg h2] at e
  subst e
  simp -implicitDefEqProofs[h4,h6,h9,h11,h2]
theorem zb9(y m:Int)(hy:1≤y∧y≤100000)(hm:1≤m∧m≤100):zab Tryz.prog 253 [.one (.int .i64 y),.one (.int .i64 m)] (.x (.one (.int .i64 (dY y+dM y m)))):=by
 refine zab.of mixed (fn:=Tryz.f253) (by kernel_rfl) (by kernel_rfl) rfl (by kernel_rfl) (by simp[Tryz.f253]) (fun hok=>?_)
 have t1:(y-1).tdiv 4=(y-1) / 4:=zeU _ (by omega)
 have t2:(y-1).tdiv 100=(y-1) / 100:=zeU _ (by omega)
 have t3:(y-1).tdiv 400=(y-1) / 400:=zeU _ (by omega)
 have w0:IntKind.i64.wrap (y-1)=y-1:=zaq _ (by omega)
 have w1:IntKind.i64.wrap (365*(y-1))=365*(y-1):=zaq _ (by omega)
 have w2:IntKind.i64.wrap ((y-1) / 4)=(y-1) / 4:=zaq _ (by omega)
 have w3:IntKind.i64.wrap ((y-1) / 100)=(y-1) / 100:=zaq _ (by omega)
 have w4:IntKind.i64.wrap ((y-1) / 400)=(y-1) / 400:=zaq _ (by omega)
 have w5:IntKind.i64.wrap (365*(y-1)+(y-1) / 4)=365*(y-1)+(y-1) / 4:=zaq _ (by omega)
 have w6:IntKind.i64.wrap (365*(y-1)+(y-1) / 4-(y-1) / 100)=365*(y-1)+(y-1) / 4-(y-1) / 100:=zaq _ (by omega)
 have w7:IntKind.i64.wrap (365*(y-1)+(y-1) / 4-(y-1) / 100+(y-1) / 400)=365*(y-1)+(y-1) / 4-(y-1) / 100+(y-1) / 400:=zaq _ (by omega)
 have w8:IntKind.i64.wrap (365*(y-1)+(y-1) / 4-(y-1) / 100+(y-1) / 400-719162)=dY y:=zaq _ (by omega)
 have hdb:-800000≤dY y∧dY y≤40000000:=by unfold dY;omega
 simp -implicitDefEqProofs[t1,t2,t3,w0,w1,w2,w3,w4,w5,w6,w7,w8]
 refine zaK.of Nat (fun k=>[(0,.x (.one (.int .i64 y))),(1,.x (.one (.int .i64 m))),(6,.x (.one (.int .i64 (dY y+dM y (k+1))))),(7,.x (.one (.int .i64 ((k:Int)+1))))]) (fun k=>(k:Int)+1≤m) (fun k=>m.toNat-k) 0 (by omega) ?_ ?_
 ·simp[dM,dMN]
 intro k hk
 by_cases hlt:(k:Int)+1<m
 ·have hst:=zjD y (k+1) (by omega)
  have hb:=ziM y (k+1)
  have hmono:=zlw y (a:=1) (b:=(k:Int)+1) (by omega) (by omega)
  have hup:dM y ((k:Int)+1)≤31*k:=by
   clear hlt hst hb hmono hk
   induction k with
   |zero=>simp[dM,dMN]
   |succ k ih =>
    have:=zjD y (k+1) (by omega)
    have:=ziM y (k+1)
    rw[show ((k+1:Nat):Int)+1=(k:Int)+1+1 by omega]
    omega
  rw[zqj] at hmono
  have w9:IntKind.i64.wrap (dY y+dM y ((k:Int)+1)+zuP y ((k:Int)+1))=dY y+dM y ((k:Int)+1+1):=by rw[zaq _ (by omega)];omega
  have w10:IntKind.i64.wrap ((k:Int)+1+1)=(k:Int)+1+1:=zaq _ (by omega)
  simp -implicitDefEqProofs[hlt]
  refine zac.of (zjm y (k+1) (by omega)) ?_
  simp -implicitDefEqProofs[w9,w10]
  refine zaz.of (k+1) (by omega) (by omega) ?_
  simp
 ·have e:(k:Int)+1=m:=by omega
  simp -implicitDefEqProofs[hlt,e]
def zss(t:Int):List CV:=[.int .i64 (zbV (t / 86400)),.int .i64 (monthOf (t / 86400)),.int .i64 (dayOf (t / 86400)),.int .i64 (t % 86400 / 3600),.int .i64 (t % 86400 / 60 % 60),.int .i64 (t % 86400 % 60)]
structure zPq(t:Int):Prop where
 y:1970≤zbV (t / 86400)∧zbV (t / 86400)≤9999
 m:1≤monthOf (t / 86400)∧monthOf (t / 86400)≤12
 d:1≤dayOf (t / 86400)∧dayOf (t / 86400)≤31
theorem zd5{t:Int}(h:zbf t=true):0≤t∧t≤253402300799:=by simpa[zbf,inB] using h
theorem zrz{t:Int}(h:zbf t=true):zPq t:=by
 have hb:=zd5 h
 have hc:=zxM (t / 86400) (by omega)
 have:=hc.d
 have:=ziM (zbV (t / 86400)) (monthOf (t / 86400))
 exact⟨⟨hc.y0,hc.top (by omega)⟩,⟨hc.m0,hc.m1⟩,by omega⟩
theorem zBA(n:Nat):dY (1970+n)≤366*n:=by
 induction n with
 |zero=>decide
 |succ n ih =>
  have:=zox (1970+n)
  have:=zoe (1970+n)
  rw[show (1970:Int)+((n+1:Nat):Int)=1970+n+1 by omega]
  omega
theorem ztM{d:Int}(h:0≤d):1970+d / 366≤zbV d:=by
 have hc:=zxM d h
 have h1:=zBA (d / 366).toNat
 rw[show (((d / 366).toNat:Nat):Int)=d / 366 by omega] at h1
 refine Classical.byContradiction fun hn=>?_
 have:=zmN (a:=zbV d+1) (b:=1970+d / 366) (by omega)
 have:=hc.hi
 omega
theorem znh(t:Int)(h:zbf t=true):zab Tryz.prog 226 [.one (.int .i64 t)] (.x (.agg (zss t))):=by
 refine zab.of mixed (fn:=Tryz.f226) (by kernel_rfl) (by kernel_rfl) rfl (by kernel_rfl) (by simp[Tryz.f226]) (fun hok=>?_)
 have hb:=zd5 h
 have hok:=zrz h
 have hc:=zxM (t / 86400) (by omega)
 have hys:=ztM (d:=t / 86400) (by omega)
 unfold zss
 obtain⟨day,ed⟩:∃day,day=t / 86400:=⟨_,rfl⟩
 obtain⟨rest,er⟩:∃rest,rest=t % 86400:=⟨_,rfl⟩
 obtain⟨Y,eY⟩:∃Y,Y=zbV (t / 86400):=⟨_,rfl⟩
 obtain⟨M,eM⟩:∃M,M=monthOf (t / 86400):=⟨_,rfl⟩
 obtain⟨D,eD⟩:∃D,D=dayOf (t / 86400):=⟨_,rfl⟩
 obtain⟨⟨y1,y2⟩,⟨m1,m2⟩,⟨d1,d2⟩⟩:=hok
 rw[←ed] at hys hc eY eM eD y1 y2 m1 m2 d1 d2
 rw[←eY] at hys hc y1 y2
 rw[←eM] at hc m1 m2
 rw[←eD] at hc d1 d2
 rw[←ed,←eY,←eM,←eD,←er]
 clear eY eM eD
 have t1:t.tdiv 86400=day:=by rw[zeU _ hb.1,ed]
 have t2:t.tmod 86400=rest:=by rw[zfR _ hb.1,er]
 have r0:0≤rest∧rest<86400:=by omega
 have d0:0≤day∧day≤2932896:=by omega
 have t3:day.tdiv 366=day / 366:=zeU _ d0.1
 have t4:rest.tdiv 3600=rest / 3600:=zeU _ r0.1
 have t5:rest.tdiv 60=rest / 60:=zeU _ r0.1
 have t6:(rest / 60).tmod 60=rest / 60 % 60:=zfR _ (by omega)
 have t7:rest.tmod 60=rest % 60:=zfR _ r0.1
 have w1:IntKind.i64.wrap day=day:=zaq _ (by omega)
 have w2:IntKind.i64.wrap rest=rest:=zaq _ (by omega)
 have w3:IntKind.i64.wrap (day / 366)=day / 366:=zaq _ (by omega)
 have w4:IntKind.i64.wrap (1970+day / 366)=1970+day / 366:=zaq _ (by omega)
 have w5:IntKind.i64.wrap (rest / 3600)=rest / 3600:=zaq _ (by omega)
 have w6:IntKind.i64.wrap (rest / 60)=rest / 60:=zaq _ (by omega)
 have w7:IntKind.i64.wrap (rest / 60 % 60)=rest / 60 % 60:=zaq _ (by omega)
 have w8:IntKind.i64.wrap (rest % 60)=rest % 60:=zaq _ (by omega)
 simp -implicitDefEqProofs[t1,t2,t3,t4,t5,t6,t7,w1,w2,w3,w4,w5,w6,w7,w8]
 refine zaK.of Int (fun y=>[(2,.box [.int .i64 0,.int .i64 0,.int .i64 0,.int .i64 0,.int .i64 0,.int .i64 0]),(3,.x (.one (.int .i64 day))),(5,.box [.int .i64 y,.int .i64 1,.int .i64 0,.int .i64 (rest / 3600),.int .i64 (rest / 60 % 60),.int .i64 (rest % 60)])]) (fun y=>1970≤y∧y≤Y) (fun y=>(Y-y).toNat) (1970+day / 366) ⟨by omega,hys⟩ ?_ ?_
 ·simp
 rintro y ⟨g1,g2⟩
 have v1:IntKind.i64.wrap (y+1)=y+1:=zaq _ (by omega)
 have hd1:dY (y+1)+dM (y+1) 1=dY (y+1):=by rw[zqj,Int.add_zero]
 simp -implicitDefEqProofs[v1]
 refine zac.of (zb9 (y+1) 1 (by omega) (by omega)) ?_
 rw[hd1]
 by_cases hlt:y<Y
 ·have:=zmN (a:=y+1) (b:=Y) (by omega)
  have:=hc.lo
  have hle:dY (y+1)≤day:=by omega
  simp -implicitDefEqProofs[hle,v1]
  refine zaz.of (y+1) ⟨by omega,by omega⟩ (by omega) ?_
  simp
 have hyY:y=Y:=by omega
 subst hyY
 have hle:¬dY (y+1)≤day:=by have:=hc.hi;omega
 simp -implicitDefEqProofs[hle]
 clear hlt hle hd1 g1 g2 hys
 refine zaK.of Int (fun m=>[(2,.box [.int .i64 0,.int .i64 0,.int .i64 0,.int .i64 0,.int .i64 0,.int .i64 0]),(3,.x (.one (.int .i64 day))),(5,.box [.int .i64 y,.int .i64 m,.int .i64 0,.int .i64 (rest / 3600),.int .i64 (rest / 60 % 60),.int .i64 (rest % 60)])]) (fun m=>1≤m∧m≤M) (fun m=>(M-m).toNat) 1 ⟨by omega,m1⟩ ?_ ?_
 ·simp
 rintro m ⟨g1,g2⟩
 have v2:IntKind.i64.wrap (m+1)=m+1:=zaq _ (by omega)
 by_cases hlt:m<M
 ·have h12:m<12:=by omega
  have:=zlw y (a:=m+1) (b:=M) (by omega) (by omega)
  have:=hc.ml
  have hle:dY y+dM y (m+1)≤day:=by omega
  simp -implicitDefEqProofs[h12,v2]
  refine zah.of (fun _=>zb9 y (m+1) (by omega) (by omega)) rfl ?_
  simp -implicitDefEqProofs[hle,v2]
  refine zaz.of (m+1) ⟨by omega,by omega⟩ (by omega) ?_
  simp
 have hmM:m=M:=by omega
 subst hmM
 have hfin:∀x,x=dY y+dM y m→IntKind.i64.wrap (IntKind.i64.wrap (day-x)+1)=D:=by
  rintro x rfl
  have:=hc.dd;have:=hc.ml;have:=hc.mh;have:=zjD y m m1;have:=ziM y m
  rw[zaq (day-_) (by omega),zaq _ (by omega)];omega
 have hle:¬dY y+dM y (m+1)≤day:=by have:=hc.mh;omega
 by_cases h12:m<12
 ·simp -implicitDefEqProofs[h12,v2]
  refine zah.of (fun _=>zb9 y (m+1) (by omega) (by omega)) rfl ?_
  simp -implicitDefEqProofs[hle]
  refine zac.of (zb9 y m (by omega) (by omega)) ?_
  simp -implicitDefEqProofs[hfin _ rfl]
 ·simp -implicitDefEqProofs[h12,v2]
  refine zah.of (fun _=>zb9 y (m+1) (by omega) (by omega)) rfl ?_
  simp -implicitDefEqProofs[hle]
  refine zac.of (zb9 y m (by omega) (by omega)) ?_
  simp -implicitDefEqProofs[hfin _ rfl]
def zEY:List UInt8:=[74,97,110,70,101,98,77,97,114,65,112,114,77,97,121,74,117,110,74,117,108,65,117,103,83,101,112,79,99,116,78,111,118,68,101,99]
def zPu:List UInt8:=[83,117,110,77,111,110,84,117,101,87,101,100,84,104,117,70,114,105,83,97,116]
def zgX(m:Nat):List UInt8:=(zEY.drop (3*m-3)).take 3
def zni(w:Nat):List UInt8:=(zPu.drop (3*w)).take 3
def zgo(t:Int):List UInt8:=
 zni ((t / 86400+4) % 7).toNat++[44,32]++zgg 2 (dayOf (t / 86400)).toNat++[32]++zgX (monthOf (t / 86400)).toNat++[32]++zgg 4 (zbV (t / 86400)).toNat++[32]++zgg 2 (t % 86400 / 3600).toNat++[58]++zgg 2 (t % 86400 / 60 % 60).toNat++[58]++zgg 2 (t % 86400 % 60).toNat++[32,71,77,84]
theorem zxl(w:Nat)(h:w<7):(zni w).length=3:=by
 have:∀w:Fin 7,(zni w.val).length=3:=by decide
 exact this ⟨w,h⟩
theorem zuj(m:Nat)(h:1≤m∧m≤12):(zgX m).length=3:=by
 have:∀w:Fin 12,(zgX (w.val+1)).length=3:=by decide
 have:=this ⟨m-1,by omega⟩
 simp only[show m-1+1=m by omega] at this
 exact this
theorem zwF(t:Int)(h:zbf t=true):(zgo t).length=29∧cutAt (zgo t) 8 11=zgX (monthOf (t / 86400)).toNat∧cutAt (zgo t) 12 16=zgg 4 (zbV (t / 86400)).toNat∧cutAt (zgo t) 5 7=zgg 2 (dayOf (t / 86400)).toNat ∧
  cutAt (zgo t) 17 19=zgg 2 (t % 86400 / 3600).toNat∧cutAt (zgo t) 20 22=zgg 2 (t % 86400 / 60 % 60).toNat∧cutAt (zgo t) 23 25=zgg 2 (t % 86400 % 60).toNat:=by
 have hb:=zd5 h
 obtain⟨_,hm,_⟩:=zrz h
 have lw:=zxl ((t / 86400+4) % 7).toNat (by omega)
 have lm:=zuj (monthOf (t / 86400)).toNat (by omega)
 unfold zgo
 generalize zni ((t / 86400+4) % 7).toNat=W at lw ⊢
 generalize zgX (monthOf (t / 86400)).toNat=M at lm ⊢
 have l1:=zfJ 2 (dayOf (t / 86400)).toNat
 have l2:=zfJ 4 (zbV (t / 86400)).toNat
 have l3:=zfJ 2 (t % 86400 / 3600).toNat
 have l4:=zfJ 2 (t % 86400 / 60 % 60).toNat
 have l5:=zfJ 2 (t % 86400 % 60).toNat
 generalize zgg 2 (dayOf (t / 86400)).toNat=D at l1 ⊢
 generalize zgg 4 (zbV (t / 86400)).toNat=Y at l2 ⊢
 generalize zgg 2 (t % 86400 / 3600).toNat=H at l3 ⊢
 generalize zgg 2 (t % 86400 / 60 % 60).toNat=I at l4 ⊢
 generalize zgg 2 (t % 86400 % 60).toNat=S at l5 ⊢
 match W,lw,D,l1,M,lm,Y,l2,H,l3,I,l4,S,l5 with
 |[w1,w2,w3],_,[d1,d2],_,[m1,m2,m3],_,[y1,y2,y3,y4],_,[h1,h2],_,[i1,i2],_,[s1,s2],_=>exact⟨rfl,rfl,rfl,rfl,rfl,rfl,rfl⟩
end Go.Proofs.YtlcmnclbljedfaaGreatDoor
namespace Go.Proofs.YtlcmnclbljedfaaGreatDoor
open Go
def zhq(c:UInt8)(s:List UInt8):List UInt8:=s.takeWhile (· != c)
def zzb(c:UInt8)(s:List UInt8):List UInt8:=s.drop ((zhq c s).length+1)
theorem zpn(c:UInt8)(r:List UInt8):zhq c (c::r)=[]:=by simp[zhq]
theorem ziu{b c:UInt8}(h:b≠c)(r:List UInt8):zhq c (b::r)=b::zhq c r:=by simp[zhq,h]
theorem zAy(c:UInt8)(r:List UInt8):zzb c (c::r)=r:=by simp[zzb,zpn]
theorem zym{b c:UInt8}(h:b≠c)(r:List UInt8):zzb c (b::r)=zzb c r:=by simp[zzb,ziu h]
theorem zzy{c:UInt8}{s:List UInt8}(h:c∉s):zhq c s=s:=by
 induction s with
 |nil=>rfl
 |cons b r ih =>
  simp only[List.mem_cons,not_or] at h
  rw[ziu (fun e=>h.1 e.symm),ih h.2]
theorem zAZ{c:UInt8}{s:List UInt8}(h:c∈s):s=zhq c s++c::zzb c s:=by
 induction s with
 |nil=>cases h
 |cons b r ih =>
  by_cases e:b=c
  ·subst e;rw[zpn,zAy];rfl
  ·rw[ziu e,zym e]
   have:=ih ((List.mem_cons.1 h).resolve_left (fun x=>e x.symm))
   rw[List.cons_append,←this]
theorem index_one(c:UInt8):∀s:List UInt8,Lib.index s [c]=if c∈s then ((zhq c s).length:Int) else -1
 |[]=>by simp[Lib.index]
 |b::r=>by
  have ih:=index_one c r
  unfold Lib.index
  by_cases h:b=c
  ·subst h;simp[List.isPrefixOf,zpn]
  ·have hp:([c].isPrefixOf (b::r))=false:=by simp[List.isPrefixOf];exact fun e=>h e.symm
   rw[hp,ih,ziu h]
   by_cases hm:c∈r
   ·have hne:¬(((zhq c r).length:Int)=-1):=by omega
    simp[hm,hne]
   ·have:c∉b::r:=by simp[hm];exact fun e=>h e.symm
    simp[hm,this]
set_option maxRecDepth 100000
def zGr:Go.Shelf.Ren:=⟨fun x=>if x=138 then 281 else if x=143 then 238 else if x=195 then 320 else if x=197 then 232 else if x=217 then 267 else if x=218 then 321 else if x=219 then 282 else if x=221 then 237 else if x=224 then 265 else if x=225 then 304 else if x=260 then 278 else if x=266 then 309 else if x=267 then 322 else if x=268 then 280 else if x=314 then 334 else x,fun x=>if x=0 then 0 else if x=3 then 3 else if x=4 then 4 else if x=5 then 5 else if x=9 then 9 else if x=21 then 21 else if x=31 then 70 else if x=46 then 165 else if x=51 then 233 else if x=105 then 270 else if x=119 then 333 else if x=138 then 335 else if x=139 then 336 else if x=146 then 320 else x,fun x=>if x=1 then 0 else if x=3 then 2 else if x=4 then 3 else x⟩
theorem zH9:Go.Proofs.Lays.n221 Tryz.prog zGr where
 mixed:=by kernel_rfl
 f138:=Tryz.func281.trans (congrArg some (by kernel_rfl))
 f143:=Tryz.func238.trans (congrArg some (by kernel_rfl))
 f195:=Tryz.func320.trans (congrArg some (by kernel_rfl))
 f197:=Tryz.func232.trans (congrArg some (by kernel_rfl))
 f217:=Tryz.func267.trans (congrArg some (by kernel_rfl))
 f218:=Tryz.func321.trans (congrArg some (by kernel_rfl))
 f219:=Tryz.func282.trans (congrArg some (by kernel_rfl))
 f221:=Tryz.func237.trans (congrArg some (by kernel_rfl))
 f224:=Tryz.func265.trans (congrArg some (by kernel_rfl))
 f225:=Tryz.func304.trans (congrArg some (by kernel_rfl))
 f260:=Tryz.func278.trans (congrArg some (by kernel_rfl))
 f266:=Tryz.func309.trans (congrArg some (by kernel_rfl))
 f267:=Tryz.func322.trans (congrArg some (by kernel_rfl))
 f268:=Tryz.func280.trans (congrArg some (by kernel_rfl))
 f314:=Tryz.func334.trans (congrArg some (by kernel_rfl))
 t0:=Tryz.underlying0
 a0:=Tryz.isAgg0
 z0:=Tryz.sizeOf0
 v0:=Tryz.zeroValue0
 t3:=Tryz.underlying3
 a3:=Tryz.isAgg3
 z3:=Tryz.sizeOf3
 v3:=Tryz.zeroValue3
 t4:=Tryz.underlying4
 a4:=Tryz.isAgg4
 z4:=Tryz.sizeOf4
 v4:=Tryz.zeroValue4
 t5:=Tryz.underlying5
 a5:=Tryz.isAgg5
 z5:=Tryz.sizeOf5
 v5:=Tryz.zeroValue5
 t9:=Tryz.underlying9
 a9:=Tryz.isAgg9
 z9:=Tryz.sizeOf9
 v9:=Tryz.zeroValue9
 t21:=Tryz.underlying21
 a21:=Tryz.isAgg21
 z21:=Tryz.sizeOf21
 v21:=Tryz.zeroValue21
 t31:=Tryz.underlying70
 a31:=Tryz.isAgg70
 z31:=Tryz.sizeOf70
 v31:=Tryz.zeroValue70
 t46:=Tryz.underlying165
 a46:=Tryz.isAgg165
 z46:=Tryz.sizeOf165
 v46:=Tryz.zeroValue165
 t51:=Tryz.underlying233
 a51:=Tryz.isAgg233
 z51:=Tryz.sizeOf233
 v51:=Tryz.zeroValue233
 t105:=Tryz.underlying270
 a105:=Tryz.isAgg270
 z105:=Tryz.sizeOf270
 v105:=Tryz.zeroValue270
 t119:=Tryz.underlying333
 a119:=Tryz.isAgg333
 z119:=Tryz.sizeOf333
 t138:=Tryz.underlying335
 a138:=Tryz.isAgg335
 z138:=Tryz.sizeOf335
 v138:=Tryz.zeroValue335
 t139:=Tryz.underlying336
 a139:=Tryz.isAgg336
 z139:=Tryz.sizeOf336
 v139:=Tryz.zeroValue336
 t146:=Tryz.underlying320
 a146:=Tryz.isAgg320
 z146:=Tryz.sizeOf320
 v146:=Tryz.zeroValue320
 g1:=by kernel_rfl
 g3:=by kernel_rfl
 g4:=by kernel_rfl
def zGi:Go.Shelf.Ren:=⟨fun x=>if x=129 then 167 else if x=171 then 80 else if x=172 then 181 else if x=205 then 325 else if x=243 then 136 else if x=244 then 248 else if x=245 then 249 else if x=246 then 230 else if x=247 then 285 else if x=279 then 286 else if x=280 then 287 else if x=281 then 288 else if x=282 then 289 else if x=283 then 274 else if x=284 then 275 else if x=285 then 276 else if x=286 then 277 else if x=287 then 323 else if x=316 then 324 else if x=317 then 316 else if x=318 then 317 else if x=319 then 318 else if x=320 then 319 else if x=321 then 335 else if x=322 then 336 else if x=337 then 332 else if x=338 then 333 else x,fun x=>if x=0 then 0 else if x=2 then 2 else if x=3 then 3 else if x=4 then 4 else if x=5 then 5 else if x=9 then 9 else if x=20 then 20 else if x=21 then 21 else if x=37 then 41 else if x=46 then 165 else if x=51 then 233 else if x=53 then 156 else if x=75 then 240 else if x=76 then 241 else if x=80 then 329 else if x=85 then 311 else if x=127 then 345 else if x=143 then 348 else if x=145 then 350 else if x=167 then 310 else if x=168 then 313 else if x=171 then 302 else if x=173 then 304 else if x=175 then 337 else if x=210 then 340 else if x=212 then 331 else if x=213 then 332 else if x=232 then 354 else if x=233 then 355 else x,fun x=>if x=15 then 4 else if x=16 then 5 else if x=17 then 1 else if x=18 then 6 else if x=19 then 7 else x⟩
theorem zFE:Go.Proofs.Lays.n172 Tryz.prog zGi where
 mixed:=by kernel_rfl
 f129:=Tryz.func167.trans (congrArg some (by kernel_rfl))
 f171:=Tryz.func80.trans (congrArg some (by kernel_rfl))
 f172:=Tryz.func181.trans (congrArg some (by kernel_rfl))
 f205:=Tryz.func325.trans (congrArg some (by kernel_rfl))
 f243:=Tryz.func136.trans (congrArg some (by kernel_rfl))
 f244:=Tryz.func248.trans (congrArg some (by kernel_rfl))
 f245:=Tryz.func249.trans (congrArg some (by kernel_rfl))
 f246:=Tryz.func230.trans (congrArg some (by kernel_rfl))
 f247:=Tryz.func285.trans (congrArg some (by kernel_rfl))
 f279:=Tryz.func286.trans (congrArg some (by kernel_rfl))
 f280:=Tryz.func287.trans (congrArg some (by kernel_rfl))
 f281:=Tryz.func288.trans (congrArg some (by kernel_rfl))
 f282:=Tryz.func289.trans (congrArg some (by kernel_rfl))
 f283:=Tryz.func274.trans (congrArg some (by kernel_rfl))
 f284:=Tryz.func275.trans (congrArg some (by kernel_rfl))
 f285:=Tryz.func276.trans (congrArg some (by kernel_rfl))
 f286:=Tryz.func277.trans (congrArg some (by kernel_rfl))
 f287:=Tryz.func323.trans (congrArg some (by kernel_rfl))
 f316:=Tryz.func324.trans (congrArg some (by kernel_rfl))
 f317:=Tryz.func316.trans (congrArg some (by kernel_rfl))
 f318:=Tryz.func317.trans (congrArg some (by kernel_rfl))
 f319:=Tryz.func318.trans (congrArg some (by kernel_rfl))
 f320:=Tryz.func319.trans (congrArg some (by kernel_rfl))
 f321:=Tryz.func335.trans (congrArg some (by kernel_rfl))
 f322:=Tryz.func336.trans (congrArg some (by kernel_rfl))
 f337:=Tryz.func332.trans (congrArg some (by kernel_rfl))
 f338:=Tryz.func333.trans (congrArg some (by kernel_rfl))
 t0:=Tryz.underlying0
 a0:=Tryz.isAgg0
 z0:=Tryz.sizeOf0
 v0:=Tryz.zeroValue0
 t2:=Tryz.underlying2
 a2:=Tryz.isAgg2
 z2:=Tryz.sizeOf2
 v2:=Tryz.zeroValue2
 t3:=Tryz.underlying3
 a3:=Tryz.isAgg3
 z3:=Tryz.sizeOf3
 v3:=Tryz.zeroValue3
 t4:=Tryz.underlying4
 a4:=Tryz.isAgg4
 z4:=Tryz.sizeOf4
 v4:=Tryz.zeroValue4
 t5:=Tryz.underlying5
 a5:=Tryz.isAgg5
 z5:=Tryz.sizeOf5
 v5:=Tryz.zeroValue5
 t9:=Tryz.underlying9
 a9:=Tryz.isAgg9
 z9:=Tryz.sizeOf9
 v9:=Tryz.zeroValue9
 t20:=Tryz.underlying20
 a20:=Tryz.isAgg20
 z20:=Tryz.sizeOf20
 v20:=Tryz.zeroValue20
 t21:=Tryz.underlying21
 a21:=Tryz.isAgg21
 z21:=Tryz.sizeOf21
 v21:=Tryz.zeroValue21
 t37:=Tryz.underlying41
 a37:=Tryz.isAgg41
 z37:=Tryz.sizeOf41
 v37:=Tryz.zeroValue41
 t46:=Tryz.underlying165
 a46:=Tryz.isAgg165
 z46:=Tryz.sizeOf165
 v46:=Tryz.zeroValue165
 t51:=Tryz.underlying233
 a51:=Tryz.isAgg233
 z51:=Tryz.sizeOf233
 v51:=Tryz.zeroValue233
 t53:=Tryz.underlying156
 a53:=Tryz.isAgg156
 z53:=Tryz.sizeOf156
 v53:=Tryz.zeroValue156
 t75:=Tryz.underlying240
 a75:=Tryz.isAgg240
 z75:=Tryz.sizeOf240
 v75:=Tryz.zeroValue240
 t76:=Tryz.underlying241
 a76:=Tryz.isAgg241
 z76:=Tryz.sizeOf241
 v76:=Tryz.zeroValue241
 t85:=Tryz.underlying311
 a85:=Tryz.isAgg311
 z85:=Tryz.sizeOf311
 v85:=Tryz.zeroValue311
 t127:=Tryz.underlying345
 a127:=Tryz.isAgg345
 z127:=Tryz.sizeOf345
 v127:=Tryz.zeroValue345
 t143:=Tryz.underlying348
 a143:=Tryz.isAgg348
 z143:=Tryz.sizeOf348
 v143:=Tryz.zeroValue348
 t145:=Tryz.underlying350
 a145:=Tryz.isAgg350
 z145:=Tryz.sizeOf350
 v145:=Tryz.zeroValue350
 t167:=Tryz.underlying310
 a167:=Tryz.isAgg310
 z167:=Tryz.sizeOf310
 v167:=Tryz.zeroValue310
 t168:=Tryz.underlying313
 a168:=Tryz.isAgg313
 z168:=Tryz.sizeOf313
 v168:=Tryz.zeroValue313
 t171:=Tryz.underlying302
 a171:=Tryz.isAgg302
 z171:=Tryz.sizeOf302
 v171:=Tryz.zeroValue302
 t173:=Tryz.underlying304
 a173:=Tryz.isAgg304
 z173:=Tryz.sizeOf304
 v173:=Tryz.zeroValue304
 t175:=Tryz.underlying337
 a175:=Tryz.isAgg337
 z175:=Tryz.sizeOf337
 v175:=Tryz.zeroValue337
 t210:=Tryz.underlying340
 a210:=Tryz.isAgg340
 z210:=Tryz.sizeOf340
 v210:=Tryz.zeroValue340
 t212:=Tryz.underlying331
 a212:=Tryz.isAgg331
 z212:=Tryz.sizeOf331
 v212:=Tryz.zeroValue331
 t213:=Tryz.underlying332
 a213:=Tryz.isAgg332
 z213:=Tryz.sizeOf332
 t232:=Tryz.underlying354
 a232:=Tryz.isAgg354
 z232:=Tryz.sizeOf354
 v232:=Tryz.zeroValue354
 t233:=Tryz.underlying355
 a233:=Tryz.isAgg355
 z233:=Tryz.sizeOf355
 v233:=Tryz.zeroValue355
 g15:=by kernel_rfl
 g16:=by kernel_rfl
 g17:=by kernel_rfl
 g18:=by kernel_rfl
 g19:=by kernel_rfl
end Go.Proofs.YtlcmnclbljedfaaGreatDoor
namespace Go.Proofs.YtlcmnclbljedfaaGreatDoor
open Go Go.Ab
variable [Amb]
set_option maxRecDepth 100000
set_option maxHeartbeats 4000000
theorem zn0(c:UInt8)(s:List UInt8):Lib.indexByte s c=if c∈s then ((zhq c s).length:Int) else -1:=by
 rw[←Lib.index_one,index_one]
theorem zGS{c:UInt8}{s:List UInt8}(h:c∈s):(zhq c s).length+1≤s.length:=by
 have:=congrArg List.length (zAZ h)
 simp at this;omega
theorem zeG(s:List UInt8)(c:UInt8):zab Tryz.prog 282 [.one (.str s),.one (.str [c])] (.x (.one (.int .i64 (if c∈s then ((zhq c s).length:Int) else -1)))):=by
 rw[←zn0]
 refine zab.ztJ [.string ⟨s.toArray⟩,.string ⟨[c].toArray⟩] _ (zbm Tryz.f282 (by kernel_rfl) (by kernel_rfl) rfl) rfl (fun _ _=>zpm _ _) (fun _ w=>?_)
 refine(Any.stringslite_Index_one { zH9 with } ⟨s.toArray⟩ c w).mono ?_
 rintro e w' ⟨rfl,rfl⟩
 exact⟨rfl,RowKit.Below.refl _ _⟩
theorem zz4(c:UInt8)(s:List UInt8):s.take (zhq c s).length=zhq c s:=by
 conv=>rhs;unfold zhq
 rw[List.takeWhile_eq_take_findIdx_not]
 congr 1
 unfold zhq
 rw[List.takeWhile_eq_take_findIdx_not,List.length_take]
 exact Nat.min_eq_left List.findIdx_le_length
theorem zkC(s:List UInt8)(c:UInt8):zab Tryz.prog 257 [.one (.str s),.one (.str [c])] (.tup [.one (.str (zhq c s)),.one (.str (if c∈s then zzb c s else [])),.one (.bool (decide (c∈s)))]):=by
 refine zab.of mixed (fn:=Tryz.f257) (by kernel_rfl) (by kernel_rfl) rfl (by kernel_rfl) (by simp[Tryz.f257]) (fun hok=>?_)
 have hs:s.length≤maxLen:=by have:=hok _ List.mem_cons_self;simpa[XV.ok,CV.ok] using this
 simp -implicitDefEqProofs
 refine zac.of (zeG s c) ?_
 by_cases h:c∈s
 ·have hb:=zGS h
  have h1:(0≤((zhq c s).length:Int))=True:=eq_true (by omega)
  have hw:IntKind.i64.wrap (((zhq c s).length:Int)+1)=(((zhq c s).length+1:Nat):Int):=by rw[zaq _ (by unfold maxLen at hs;omega)];omega
  have h2:((zhq c s).length≤s.length)=True:=eq_true (by omega)
  have h3:((zhq c s).length+1≤s.length)=True:=eq_true (by omega)
  have ht:=zz4 c s
  have ha:s.drop ((zhq c s).length+1)=zzb c s:=rfl
  simp -implicitDefEqProofs[h,h1,hw,h2,h3,ht,ha]
  exact⟨by omega,by omega⟩
 ·have hn:=zzy h
  simp -implicitDefEqProofs[h,hn]
theorem zq9(s:List UInt8)(c:UInt8):zab Tryz.prog 198 [.one (.str s),.one (.str [c])] (.tup [.one (.str (zhq c s)),.one (.str (if c∈s then zzb c s else [])),.one (.bool (decide (c∈s)))]):=by
 refine zab.of mixed (fn:=Tryz.f198) (by kernel_rfl) (by kernel_rfl) rfl (by kernel_rfl) (by simp[Tryz.f198]) (fun hok=>?_)
 simp -implicitDefEqProofs
 refine zac.of (zkC s c) ?_
 simp -implicitDefEqProofs
theorem zc1(s:List UInt8)(n:Int)(hl:s.length≤18)(h:Lib.atoi s=some n):zab Tryz.prog 181 [.one (.str s)] (.tup [.one (.int .i64 n),.one (.atom .nilIface)]):=by
 refine zab.ztJ [.string ⟨s.toArray⟩] (.tuple #[.int .i64 n,.nilIface]) (zbm Tryz.f181 (by kernel_rfl) (by kernel_rfl) rfl) rfl (fun w S=>?_) (fun _ w=>?_)
 ·refine⟨_,rfl,rfl,fun j x hj=>?_⟩
  match j,hj with
  |0,hj=>cases hj;exact⟨_,rfl,zaH.int _ _⟩
  |1,hj=>cases hj;exact⟨_,rfl,zaH.atom _ rfl⟩
  |j+2,hj=>simp at hj
 refine(Any.strconv_Atoi zFE ⟨s.toArray⟩ n (by show s.toArray.size≤18;simpa using hl) h w).mono ?_
 rintro e w' ⟨rfl,t,rfl⟩
 exact⟨rfl,Lib.bytesWorld_below _ _ _⟩
abbrev zpr:List UInt8:=[48,49,50,51,52,53,54,55,56,57]
theorem zxG(b:UInt8):zpr.contains b=zdV b:=by
 rw[Bool.eq_iff_iff]
 simp only[zdV,Bool.and_eq_true,decide_eq_true_eq,List.contains_iff_mem,List.mem_cons,List.not_mem_nil,or_false,←UInt8.toNat_inj]
 simp
 omega
theorem zlk(s:List UInt8):(Lib.trimS s zpr=[])↔s.all zdV=true:=by
 rw[ziX]
 have:(fun b=>zpr.contains b)=zdV:=funext zxG
 rw[this]
theorem zfV(l:List (List UInt8))(e:List UInt8):zab Tryz.prog 147 [strs l,.one (.str e)] (.x (.one (.int .i64 (match l.findIdx? (·==e) with | some i=>(i:Int) | none=>-1)))):=by
 refine zab.of mixed (fn:=Tryz.f147) (by kernel_rfl) (by kernel_rfl) rfl (by kernel_rfl) (by simp[Tryz.f147]) (fun hok=>?_)
 have hl:l.length≤maxLen:=by have:=hok _ List.mem_cons_self;simp[XV.ok,CV.ok] at this;exact this.1
 simp -implicitDefEqProofs +contextual[-Bool.and_eq_false_imp,Bool.and_eq_false_iff]
 refine zaK.of Nat (fun i=>[(0,.x (strs l)),(1,.x (.one (.str e))),(7,.x (.one (.int .i64 l.length))),(8,.x (.one (.int .i64 i)))]) (fun i=>i≤l.length∧∀j,(h:j<i)→(hj:j<l.length)→l[j]≠e) (fun i=>l.length-i) 0 ⟨Nat.zero_le _,fun j h=>by omega⟩ ?_ ?_
 ·simp
 rintro i ⟨hi,hp⟩
 by_cases hlt:i<l.length
 ·have hlt':((i:Int)<(l.length:Int))=True:=eq_true (by omega)
  have hwr:IntKind.i64.wrap ((i:Int)+1)=(i:Int)+1:=zaq _ (by unfold maxLen at hl;omega)
  by_cases he:l[i]=e
  ·have hf:l.findIdx? (·==e)=some i:=by
    rw[List.findIdx?_eq_some_iff_getElem]
    exact⟨hlt,by simp[he],fun j hj=>by simpa using hp j hj (by omega)⟩
   rw[hf]
   simp -implicitDefEqProofs[hlt,hlt',he]
  ·have he':(e=l[i])=False:=eq_false fun h=>he h.symm
   simp -implicitDefEqProofs[hlt,hlt',he',hwr]
   refine zaz.of (i+1) ⟨by omega,fun j h hj=>?_⟩ (by omega) (by simp)
   by_cases hji:j=i
   ·subst hji;exact he
   ·exact hp j (by omega) hj
 ·have hf:l.findIdx? (·==e)=none:=by
   rw[List.findIdx?_eq_none_iff]
   intro x hx
   obtain⟨j,hj,rfl⟩:=List.mem_iff_getElem.1 hx
   simpa using hp j (by omega) hj
  rw[hf]
  have hlt':((i:Int)<(l.length:Int))=False:=eq_false (by omega)
  simp -implicitDefEqProofs[hlt,hlt']
theorem zcz(l:List (List UInt8))(e:List UInt8):zab Tryz.prog 85 [strs l,.one (.str e)] (.x (.one (.bool (decide (e∈l))))):=by
 refine zab.of mixed (fn:=Tryz.f85) (by kernel_rfl) (by kernel_rfl) rfl (by kernel_rfl) (by simp[Tryz.f85]) (fun hok=>?_)
 simp -implicitDefEqProofs
 refine zac.of (zfV l e) ?_
 cases h:l.findIdx? (·==e) with
 |some i =>
  have hm:e∈l:=by
   rw[List.findIdx?_eq_some_iff_getElem] at h
   obtain⟨hi,he,_⟩:=h
   have:l[i]=e:=by simpa using he
   rw[←this];exact List.getElem_mem hi
  simp -implicitDefEqProofs[hm]
 |none =>
  have hm:e∉l:=by
   rw[List.findIdx?_eq_none_iff] at h
   intro hm
   simpa using h e hm
  simp -implicitDefEqProofs[hm]
end Go.Proofs.YtlcmnclbljedfaaGreatDoor
namespace Go.Proofs.YtlcmnclbljedfaaGreatDoor
open Go
def zEI(y m d h i s:Int):Prop:=1970≤y∧(1≤m∧m≤12)∧(1≤d∧d≤zuP y m)∧(0≤h∧h≤23)∧(0≤i∧i≤59)∧(0≤s∧s≤59)
instance (y m d h i s:Int):Decidable (zEI y m d h i s):=by unfold zEI;infer_instance
def zVE(y m d h i s:Int):Int:=(dY y+dM y m+d-1)*86400+h*3600+i*60+s
theorem zHI:dY 1970=0:=by decide
end Go.Proofs.YtlcmnclbljedfaaGreatDoor
namespace Go.Proofs.YtlcmnclbljedfaaGreatDoor
open Go Go.Ab
variable [Amb][zal Tryz.prog]
set_option maxRecDepth 100000
set_option maxHeartbeats 4000000
def zdX:List (List UInt8):=[[74,97,110],[70,101,98],[77,97,114],[65,112,114],[77,97,121],[74,117,110],[74,117,108],[65,117,103],[83,101,112],[79,99,116],[78,111,118],[68,101,99]]
def zt3:List (List UInt8):=[[77,111,110],[84,117,101],[87,101,100],[84,104,117],[70,114,105],[83,97,116],[83,117,110]]
theorem zhy:zab Tryz.prog 229 [] (.x (strs zdX)):=by
 refine zab.of mixed (fn:=Tryz.f229) (by kernel_rfl) (by kernel_rfl) rfl (by kernel_rfl) (by simp[Tryz.f229]) (fun hok=>?_)
 simp -implicitDefEqProofs[zdX]
theorem zkE:zab Tryz.prog 227 [] (.x (strs zt3)):=by
 refine zab.of mixed (fn:=Tryz.f227) (by kernel_rfl) (by kernel_rfl) rfl (by kernel_rfl) (by simp[Tryz.f227]) (fun hok=>?_)
 simp -implicitDefEqProofs[zt3]
theorem zBK(m:Nat)(h:1≤m∧m≤12):zdX.getD (m-1) []=zgX m:=by
 have:∀k:Fin 12,zdX.getD k.val []=zgX (k.val+1):=by decide
 have:=this ⟨m-1,by omega⟩
 simp only at this
 rw[this,show m-1+1=m by omega]
theorem zOX(k:Nat)(h:k<7):zt3.getD k []=zni ((k+1) % 7):=by
 have:∀k:Fin 7,zt3.getD k.val []=zni ((k.val+1) % 7):=by decide
 exact this ⟨k,h⟩
theorem zf8(t:Int)(h:zbf t=true):zab Tryz.prog 135 [.one (.int .i64 t)] (.x (.one (.str (zgo t)))):=by
 have hb:=zd5 h
 have hok:=zrz h
 have k1:=znh t h
 unfold zss at k1
 unfold zgo
 obtain⟨W,eW⟩:∃W,W=((t / 86400+4) % 7).toNat:=⟨_,rfl⟩
 obtain⟨v,ev⟩:∃v:Nat,v=((t / 86400+3) % 7).toNat:=⟨_,rfl⟩
 have hv:v<7:=by omega
 have hW:W=(v+1) % 7:=by omega
 obtain⟨⟨y1,y2⟩,⟨m1,m2⟩,⟨d1,d2⟩⟩:=hok
 have eQ:t.tdiv 86400=t / 86400:=zeU _ hb.1
 obtain⟨Q,eq⟩:∃Q,Q=t / 86400:=⟨_,rfl⟩
 have q0:0≤Q∧Q≤2932896:=by omega
 have e7:(Q+3).tmod 7=(v:Int):=by rw[zfR _ (by omega)];omega
 obtain⟨H,eH⟩:∃H:Nat,H=(t % 86400 / 3600).toNat:=⟨_,rfl⟩
 obtain⟨I,eI⟩:∃I:Nat,I=(t % 86400 / 60 % 60).toNat:=⟨_,rfl⟩
 obtain⟨S,eS⟩:∃S:Nat,S=(t % 86400 % 60).toNat:=⟨_,rfl⟩
 obtain⟨Y,eY⟩:∃Y:Nat,Y=(zbV (t / 86400)).toNat:=⟨_,rfl⟩
 obtain⟨M,eM⟩:∃M:Nat,M=(monthOf (t / 86400)).toNat:=⟨_,rfl⟩
 obtain⟨D,eD⟩:∃D:Nat,D=(dayOf (t / 86400)).toNat:=⟨_,rfl⟩
 have hH:t % 86400 / 3600=(H:Int):=by omega
 have hI:t % 86400 / 60 % 60=(I:Int):=by omega
 have hS:t % 86400 % 60=(S:Int):=by omega
 have hY:zbV (t / 86400)=(Y:Int):=by omega
 have hM:monthOf (t / 86400)=(M:Int):=by omega
 have hD:dayOf (t / 86400)=(D:Int):=by omega
 rw[hH,hI,hS,hY,hM,hD] at k1
 rw[←eW,←eH,←eI,←eS,←eY,←eM,←eD,hW]
 have p1:=zct D 2 (by omega) (by omega) (by omega)
 have p2:=zct Y 4 (by omega) (by omega) (by omega)
 have p3:=zct H 2 (by omega) (by omega) (by omega)
 have p4:=zct I 2 (by omega) (by omega) (by omega)
 have p5:=zct S 2 (by omega) (by omega) (by omega)
 have w1:IntKind.i64.wrap (t / 86400)=Q:=by rw[←eq];exact zaq _ (by omega)
 have w2:IntKind.i64.wrap (Q+3)=Q+3:=zaq _ (by omega)
 have w3:IntKind.i64.wrap (v:Int)=(v:Int):=zaq _ (by omega)
 have w4:IntKind.i64.wrap ((M:Int)-1)=(((M-1:Nat)):Int):=by rw[zaq _ (by omega)];omega
 have lenP:∀k n,(zgg k n).length=k:=zfJ
 have ha:=zOX v hv
 have hm:=zBK M (by omega)
 have hl7:zt3.length=7:=rfl
 have hl12:zdX.length=12:=rfl
 have i1:∀h,((zt3.map fun s=>[CV.str s])[v]'h)=[.str (zni ((v+1) % 7))]:=fun h=>by
  rw[List.getElem_map]
  rw[List.getD_eq_getElem?_getD,List.getElem?_eq_getElem (by omega)] at ha
  rw[←ha];rfl
 have i2:zdX[M-1]?=some (zgX M):=by
  rw[List.getD_eq_getElem?_getD,List.getElem?_eq_getElem (by omega)] at hm
  rw[List.getElem?_eq_getElem (by omega),←hm];rfl
 have hM12:(((M-1:Nat):Int)<12)=True:=eq_true (by omega)
 refine zab.of mixed (fn:=Tryz.f135) (by kernel_rfl) (by kernel_rfl) rfl (by kernel_rfl) (by simp[Tryz.f135]) (fun hok=>?_)
 simp -implicitDefEqProofs
 refine zac.of k1 ?_
 simp -implicitDefEqProofs
 refine zac.of zkE ?_
 simp -implicitDefEqProofs[eQ,w1,w2,e7,hl7,hv,i1]
 have lW:(zni ((v+1) % 7)).length≤3:=by unfold zni;simp only[List.length_take];omega
 have lM:(zgX M).length≤3:=by unfold zgX;simp only[List.length_take];omega
 clear ha hm i1
 generalize zni ((v+1) % 7)=WD at *
 have mx:(1000:Nat)≤maxLen:=by unfold maxLen;omega
 have l1:(zgg 2 D).length=2:=lenP 2 D
 have l2:(zgg 4 Y).length=4:=lenP 4 Y
 have l3:(zgg 2 H).length=2:=lenP 2 H
 have l4:(zgg 2 I).length=2:=lenP 2 I
 have l5:(zgg 2 S).length=2:=lenP 2 S
 generalize zgg 2 D=PD at *
 generalize zgg 4 Y=PY at *
 generalize zgg 2 H=PH at *
 generalize zgg 2 I=PI at *
 generalize zgg 2 S=PS at *
 generalize zgX M=MD at *
 refine⟨by omega,by omega,zac.of p1 ?_⟩
 simp -implicitDefEqProofs[l1]
 refine⟨by omega,by omega,zac.of zhy ?_⟩
 simp -implicitDefEqProofs[w4,hl12,i2,hM12]
 refine⟨by omega,by omega,zac.of p2 ?_⟩
 simp -implicitDefEqProofs[l1,l2]
 refine⟨by omega,by omega,zac.of p3 ?_⟩
 simp -implicitDefEqProofs[l1,l2,l3]
 refine⟨by omega,by omega,zac.of p4 ?_⟩
 simp -implicitDefEqProofs[l1,l2,l3,l4]
 refine⟨by omega,by omega,zac.of p5 ?_⟩
 simp -implicitDefEqProofs[l1,l2,l3,l4,l5]
 exact⟨by omega,by omega⟩
def rdD(s:List UInt8):List UInt8:=cutAt s 5 7
def rdY(s:List UInt8):List UInt8:=cutAt s 12 16
def rdH(s:List UInt8):List UInt8:=cutAt s 17 19
def rdI(s:List UInt8):List UInt8:=cutAt s 20 22
def rdS(s:List UInt8):List UInt8:=cutAt s 23 25
def zbr(s:List UInt8):List (List UInt8):=[rdD s,rdY s,rdH s,rdI s,rdS s]
def rdM(s:List UInt8):Nat:=match zdX.findIdx? (·==cutAt s 8 11) with
 |some i=>i+1
 |none=>0
def rdN(s:List UInt8):Int:=zVE (ze7 (rdY s):Nat) (rdM s:Nat) (ze7 (rdD s):Nat) (ze7 (rdH s):Nat) (ze7 (rdI s):Nat) (ze7 (rdS s):Nat)
def zrq(s:List UInt8):Bool:=decide (s.length=29)&&((zbr s).all (fun x=>x.all zdV)&&(decide (rdM s≠0)&&(decide (1970≤ze7 (rdY s))&&(zbf (rdN s)&&decide (zgo (rdN s)=s)))))
def rdV(s:List UInt8):Int:=if zrq s=true then rdN s else 0
theorem zQ7(s:List UInt8):rdM s≤12:=by
 unfold rdM
 cases h:zdX.findIdx? (·==cutAt s 8 11) with
 |none=>simp
 |some i =>
  have:=(List.findIdx?_eq_some_iff_getElem.1 h).1
  simp[zdX] at this ⊢
  omega
theorem zgq{s:List UInt8}{a b:Int}(h0:0≤a)(h1:a≤b)(h2:b≤s.length):(cutAt s a b).length=(b-a).toNat:=by
 unfold cutAt
 simp
 omega
theorem zuM(s:List UInt8):(Lib.trimS s zpr=[])↔s.all zdV=true:=zlk s
theorem zks(s:List UInt8):zab Tryz.prog 194 [.one (.str s)] (.tup [.one (.int .i64 (rdV s)),.one (.bool (zrq s))]):=by
 obtain⟨B,eB⟩:∃B,B=zrq s:=⟨_,rfl⟩
 obtain⟨V,eV⟩:∃V,V=rdV s:=⟨_,rfl⟩
 rw[←eB,←eV]
 unfold rdV at eV
 rw[←eB] at eV
 unfold zrq at eB
 by_cases hl:s.length=29
 rotate_left
 ·have hl':((s.length:Int)=29)=False:=eq_false (by omega)
  rw[decide_eq_false hl,Bool.false_and] at eB
  subst eB
  rw[if_neg (by decide)] at eV
  subst eV
  refine zab.of mixed (fn:=Tryz.f194) (by kernel_rfl) (by kernel_rfl) rfl (by kernel_rfl) (by simp[Tryz.f194]) (fun hok=>?_)
  simp -implicitDefEqProofs[hl']
 rw[decide_eq_true hl,Bool.true_and] at eB
 have hl':((s.length:Int)=29)=True:=eq_true (by omega)
 have k0:zab Tryz.prog 147 [strs zdX,.one (.str (cutAt s 8 11))] (.x (.one (.int .i64 ((rdM s:Int)-1)))):=by
  have k:=zfV zdX (cutAt s 8 11)
  unfold rdM
  cases h:zdX.findIdx? (·==cutAt s 8 11) with
  |none=>rw[h] at k;exact k
  |some i=>rw[h] at k;simpa using k
 have hm12:=zQ7 s
 have wM:IntKind.i64.wrap ((rdM s:Int)-1+1)=(rdM s:Int):=by rw[zaq _ (by omega)];omega
 have wM':IntKind.i64.wrap (rdM s:Int)=(rdM s:Int):=zaq _ (by omega)
 refine zab.of mixed (fn:=Tryz.f194) (by kernel_rfl) (by kernel_rfl) rfl (by kernel_rfl) (by simp[Tryz.f194]) (fun hok=>?_)
 simp -implicitDefEqProofs[hl']
 refine zac.of zhy ?_
 simp -implicitDefEqProofs
 have p1:cutAt s 5 7=rdD s:=rfl
 have p2:cutAt s 12 16=rdY s:=rfl
 have p3:cutAt s 17 19=rdH s:=rfl
 have p4:cutAt s 20 22=rdI s:=rfl
 have p5:cutAt s 23 25=rdS s:=rfl
 have n1:(rdD s).length=2:=zgq (by omega) (by omega) (by omega)
 have n2:(rdY s).length=4:=zgq (by omega) (by omega) (by omega)
 have n3:(rdH s).length=2:=zgq (by omega) (by omega) (by omega)
 have n4:(rdI s).length=2:=zgq (by omega) (by omega) (by omega)
 have n5:(rdS s).length=2:=zgq (by omega) (by omega) (by omega)
 have b7:(7≤(s.length:Int))=True:=eq_true (by omega)
 have b16:(16≤(s.length:Int))=True:=eq_true (by omega)
 have b19:(19≤(s.length:Int))=True:=eq_true (by omega)
 have b22:(22≤(s.length:Int))=True:=eq_true (by omega)
 have b25:(25≤(s.length:Int))=True:=eq_true (by omega)
 refine⟨by omega,zac.of k0 ?_⟩
 simp -implicitDefEqProofs[wM,wM',p1,p2,p3,p4,p5,b7,b16,b19,b22,b25]
 have hPl:(zbr s).length=5:=rfl
 have hP4:∀x∈zbr s,1≤x.length∧x.length≤4:=by
  intro x hx
  simp only[zbr,List.mem_cons,List.not_mem_nil,or_false] at hx
  rcases hx with rfl | rfl | rfl | rfl | rfl<;>omega
 have hEl:([[.str (rdD s)],[.str (rdY s)],[.str (rdH s)],[.str (rdI s)],[.str (rdS s)]]:List (List CV))=(zbr s).map fun x=>[.str x]:=rfl
 have fin:∀(K:List (List UInt8)),K=zbr s→True:=fun _ _=>trivial
 refine zaK.of Nat (fun i=>[(0,.x (.one (.str s))),(4,.x (.one (.int .i64 (rdM s:Nat)))),(5,.own 3 1 (((zbr s).take i).map fun x=>[.int .i64 (ze7 x:Nat)])),(29,.own 9 1 ((zbr s).map fun x=>[.str x])),(30,.x (.one (.int .i64 5))),(31,.x (.one (.int .i64 i)))]) (fun i=>i≤5∧((zbr s).take i).all (fun x=>x.all zdV)=true) (fun i=>5-i) 0 ⟨by omega,by simp⟩ ?_ ?_
 ·simp[hEl]
 rintro i ⟨hi,hd⟩
 by_cases hlt:i<5
 ·have hlt':((i:Int)<5)=True:=eq_true (by omega)
  have hwr:IntKind.i64.wrap ((i:Int)+1)=(i:Int)+1:=zaq _ (by omega)
  have hil:i<(zbr s).length:=by omega
  obtain⟨x,ex⟩:∃x,x=(zbr s)[i]:=⟨_,rfl⟩
  have hx4:=hP4 x (by rw[ex];exact List.getElem_mem hil)
  have hat:(zbr s)[i]?=some x:=by rw[ex];exact List.getElem?_eq_getElem hil
  have ht:(zbr s).take (i+1)=(zbr s).take i++[x]:=by rw[ex,List.take_succ_eq_append_getElem hil]
  have htl:((zbr s).take i).length=i:=by rw[List.length_take,hPl];omega
  have k1:=zcP x zpr (by decide) (by decide)
  have hc:=zuM x
  generalize Lib.trimS x zpr=T at k1 hc
  unfold zpr at k1
  simp -implicitDefEqProofs[hlt',hat,hPl,hil]
  refine zac.of k1 ?_
  by_cases hT:T=[]
  ·have hxd:=hc.1 hT
   subst hT
   have hz:ze7 x<10 ^ 4:=Nat.lt_of_lt_of_le (zgh x hxd) (Nat.pow_le_pow_right (by omega) hx4.2)
   have k2:=zc1 x _ (by omega) (zwZ hxd (by rintro rfl;simp at hx4))
   simp -implicitDefEqProofs
   refine zac.of k2 ?_
   have hcap:i+1≤maxLen:=by unfold maxLen;omega
   simp -implicitDefEqProofs[htl,hwr]
   refine⟨⟨by omega,by unfold maxLen;omega⟩,?_⟩
   refine zaz.of (i+1) ⟨by omega,?_⟩ (by omega) (by simp[ht,hwr])
   rw[ht,List.all_append,hd]
   simp only[List.all_cons,List.all_nil,Bool.and_true,Bool.true_and]
   exact hxd
  ·have hB:B=false:=by
    rw[eB]
    have:((zbr s).all fun x=>x.all zdV)=false:=by
     rw[List.all_eq_false]
     exact⟨x,by rw[ex];exact List.getElem_mem hil,fun h=>hT (hc.2 h)⟩
    rw[this];rfl
   subst hB
   rw[if_neg (by decide)] at eV
   subst eV
   simp -implicitDefEqProofs[hT]
 ·have e5:i=5:=by omega
  subst e5
  have hall:((zbr s).all fun x=>x.all zdV)=true:=by rw[List.take_of_length_le (by omega)] at hd;exact hd
  rw[hall,Bool.true_and] at eB
  have hdg:∀x∈zbr s,x.all zdV=true:=fun x hx=>List.all_eq_true.1 hall x hx
  have v1:ze7 (rdD s)<100:=by have:=zgh (rdD s) (hdg _ (by simp[zbr]));rw[n1] at this;exact this
  have v2:ze7 (rdY s)<10000:=by have:=zgh (rdY s) (hdg _ (by simp[zbr]));rw[n2] at this;exact this
  have v3:ze7 (rdH s)<100:=by have:=zgh (rdH s) (hdg _ (by simp[zbr]));rw[n3] at this;exact this
  have v4:ze7 (rdI s)<100:=by have:=zgh (rdI s) (hdg _ (by simp[zbr]));rw[n4] at this;exact this
  have v5:ze7 (rdS s)<100:=by have:=zgh (rdS s) (hdg _ (by simp[zbr]));rw[n5] at this;exact this
  have eN:rdN s=(dY (ze7 (rdY s):Nat)+dM (ze7 (rdY s):Nat) (rdM s:Nat)+(ze7 (rdD s):Nat)-1)*86400+(ze7 (rdH s):Nat)*3600+(ze7 (rdI s):Nat)*60+(ze7 (rdS s):Nat):=rfl
  have hrows:(((zbr s).take 5).map fun x=>[CV.int .i64 (ze7 x:Nat)])=[[.int .i64 (ze7 (rdD s):Nat)],[.int .i64 (ze7 (rdY s):Nat)],[.int .i64 (ze7 (rdH s):Nat)],[.int .i64 (ze7 (rdI s):Nat)],[.int .i64 (ze7 (rdS s):Nat)]]:=rfl
  rw[hrows]
  generalize ze7 (rdD s)=D at *
  generalize ze7 (rdY s)=Y at *
  generalize ze7 (rdH s)=H at *
  generalize ze7 (rdI s)=I at *
  generalize ze7 (rdS s)=S at *
  generalize rdM s=M at *
  by_cases hM:M=0
  ·subst hM
   have hB:B=false:=by rw[eB];rfl
   subst hB
   rw[if_neg (by decide)] at eV
   subst eV
   simp -implicitDefEqProofs
  have hM':((M:Int)=0)=False:=eq_false (by omega)
  rw[decide_eq_true hM,Bool.true_and] at eB
  by_cases hY:1970≤Y
  rotate_left
  ·have hY':((Y:Int)<1970)=True:=eq_true (by omega)
   have hB:B=false:=by rw[eB,decide_eq_false hY];rfl
   subst hB
   rw[if_neg (by decide)] at eV
   subst eV
   simp -implicitDefEqProofs[hM,hM',hY']
  have hY':((Y:Int)<1970)=False:=eq_false (by omega)
  rw[decide_eq_true hY,Bool.true_and] at eB
  have kd:=zb9 (Y:Int) (M:Int) (by omega) (by omega)
  obtain⟨A,eA⟩:∃A,A=dY (Y:Int)+dM (Y:Int) (M:Int):=⟨_,rfl⟩
  have hA:-1000000≤A∧A≤4000000:=by
   have d1:=zlw (Y:Int) (a:=1) (b:=(M:Int)) (by omega) (by omega)
   have d2:=zlw (Y:Int) (a:=(M:Int)) (b:=13) (by omega) (by omega)
   rw[zqj] at d1
   rw[zwV] at d2
   have d3:zzj (Y:Int)≤366:=by unfold zzj;split<;>omega
   have d4:=zmN (a:=1970) (b:=(Y:Int)) (by omega)
   have d5:=zmN (a:=(Y:Int)) (b:=10000) (by omega)
   rw[zHI] at d4
   have d6:dY 10000=2932897:=by decide
   omega
  rw[←eA] at kd eN
  have w1:IntKind.i64.wrap (A+(D:Int))=A+(D:Int):=zaq _ (by omega)
  have w2:IntKind.i64.wrap (A+(D:Int)-1)=A+(D:Int)-1:=zaq _ (by omega)
  have w3:IntKind.i64.wrap ((A+(D:Int)-1)*86400)=(A+(D:Int)-1)*86400:=zaq _ (by omega)
  have w4:IntKind.i64.wrap ((H:Int)*3600)=(H:Int)*3600:=zaq _ (by omega)
  have w5:IntKind.i64.wrap ((A+(D:Int)-1)*86400+(H:Int)*3600)=(A+(D:Int)-1)*86400+(H:Int)*3600:=zaq _ (by omega)
  have w6:IntKind.i64.wrap ((I:Int)*60)=(I:Int)*60:=zaq _ (by omega)
  have w7:IntKind.i64.wrap ((A+(D:Int)-1)*86400+(H:Int)*3600+(I:Int)*60)=(A+(D:Int)-1)*86400+(H:Int)*3600+(I:Int)*60:=zaq _ (by omega)
  have w8:IntKind.i64.wrap ((A+(D:Int)-1)*86400+(H:Int)*3600+(I:Int)*60+(S:Int))=rdN s:=by rw[eN];exact zaq _ (by omega)
  have km:=zhb (rdN s)
  have kt:=zf8 (rdN s)
  simp -implicitDefEqProofs[hM,hM',hY']
  refine zac.of kd ?_
  simp -implicitDefEqProofs[w1,w2,w3,w4,w5,w6,w7,w8]
  refine zac.of km ?_
  generalize rdN s=N at *
  cases hm:zbf N
  ·rw[hm] at eB
   simp only[Bool.false_and] at eB
   subst eB
   rw[if_neg (by decide)] at eV
   subst eV
   simp -implicitDefEqProofs
   refine zah.of (fun h=>by cases h) (r:=.x (.one (.str []))) rfl ?_
   simp -implicitDefEqProofs
  ·rw[hm,Bool.true_and] at eB
   simp -implicitDefEqProofs
   refine zah.of (fun _=>kt hm) rfl ?_
   by_cases hE:zgo N=s
   ·rw[decide_eq_true hE] at eB
    subst eB
    rw[if_pos rfl] at eV
    subst eV
    simp -implicitDefEqProofs[hE]
   ·rw[decide_eq_false hE] at eB
    subst eB
    rw[if_neg (by decide)] at eV
    subst eV
    simp -implicitDefEqProofs[hE]
theorem zf7(s:List UInt8):zab Tryz.prog 106 [.one (.str s)] (.tup [.one (.int .i64 (rdV s)),.one (.int .i64 (if zrq s=true then 0 else 10))]):=by
 have k:=zks s
 have h:zrq s=false→rdV s=0:=fun h=>by unfold rdV;rw[h];rfl
 generalize rdV s=V at *
 generalize zrq s=B at *
 refine zab.of mixed (fn:=Tryz.f106) (by kernel_rfl) (by kernel_rfl) rfl (by kernel_rfl) (by simp[Tryz.f106]) (fun hok=>?_)
 simp -implicitDefEqProofs
 refine zac.of k ?_
 cases B
 ·rw[h rfl]
  simp -implicitDefEqProofs
 ·simp -implicitDefEqProofs
theorem zkG(t:Int):zab Tryz.prog 79 [.one (.int .i64 t)] (.tup [.one (.str (if zbf t=true then zgo t else [])),.one (.int .i64 (if zbf t=true then 0 else 1))]):=by
 have km:=zhb t
 have kt:=zf8 t
 generalize zgo t=D at *
 generalize zbf t=B at *
 refine zab.of mixed (fn:=Tryz.f79) (by kernel_rfl) (by kernel_rfl) rfl (by kernel_rfl) (by simp[Tryz.f79]) (fun hok=>?_)
 simp -implicitDefEqProofs
 refine zac.of km ?_
 cases B
 ·simp -implicitDefEqProofs
 ·simp -implicitDefEqProofs
  refine zac.of (kt rfl) ?_
  simp -implicitDefEqProofs
end Go.Proofs.YtlcmnclbljedfaaGreatDoor
namespace Go.Proofs.YtlcmnclbljedfaaGreatDoor
open Go Go.Ab
def zqk(c:UInt8):Bool:=zdV c || ((decide (97≤c.toNat)&&decide (c.toNat≤102)) || (decide (65≤c.toNat)&&decide (c.toNat≤70)))
def zgF(c:UInt8):UInt8:=if 65≤c.toNat∧c.toNat≤90 then c+32 else c
def zbd(s:List UInt8):List UInt8:=s.map zgF
def zw4:List UInt8:=[34,35,60,62,92,94,123,124,125,96]
def zsD(c:UInt8):Bool:=(decide (33≤c.toNat)&&decide (c.toNat≤126))&&!zw4.contains c
def zRq:List UInt8→Bool
 |a::b::_=>zqk a&&zqk b
 |_=>false
def zbD(w:List UInt8):List UInt8→Nat×Bool
 |[]=>(0,true)
 |c::r=>if w.contains c=true then (0,true) else if zsD c=false∨(c=37∧zRq r=false) then (0,false) else ((zbD w r).1+1,(zbD w r).2)
def rowB(w s:List UInt8):Bool:=(zbD w s).2&&decide ((zbD w s).1=s.length)
structure Addr where
 scheme:List UInt8
 host:List UInt8
 port:List UInt8
 path:List UInt8
 query:List UInt8
 hasQ:Bool
 frag:List UInt8
 hasF:Bool
 deriving DecidableEq
def Addr.row(a:Addr):List CV:=[.str a.scheme,.str a.host,.str a.port,.str a.path,.str a.query,.bool a.hasQ,.str a.frag,.bool a.hasF]
def zUk:List UInt8→List UInt8→Nat
 |w::ws,t::ts=>if zgF t=w then zUk ws ts+1 else 0
 |_,_=>0
structure zV5 where
 ok:Bool
 n:Nat
 path:List UInt8
 query:List UInt8
 hasQ:Bool
 frag:List UInt8
 hasF:Bool
theorem zCD{p:UInt8→Prop}(h:∀n:Fin 256,p (UInt8.ofNat n.1))(c:UInt8):p c:=by
 have:=h ⟨c.toNat,c.toNat_lt⟩
 simpa using this
theorem zwC:∀c:UInt8,zqk c=true→zsD c=true∧c≠37∧c≠35∧c≠63:=zCD (by decide +kernel)
theorem zk0{c:UInt8}(h:zqk c=true):zsD c=true∧c≠37∧c≠35∧c≠63:=zwC c h
theorem zp4{w:List UInt8}{c:UInt8}{r:List UInt8}(h1:w.contains c=false)(h2:zsD c=true)(h3:c=37→zRq r=true):zbD w (c::r)=((zbD w r).1+1,(zbD w r).2):=by
 rw[zbD,if_neg (by rw[h1];decide),if_neg]
 rintro (h | ⟨h,h'⟩)
 ·rw[h2] at h;cases h
 ·rw[h3 h] at h';cases h'
end Go.Proofs.YtlcmnclbljedfaaGreatDoor
namespace Go.Proofs.YtlcmnclbljedfaaGreatDoor
open Go Go.Ab
variable [Amb]
set_option maxRecDepth 100000
set_option maxHeartbeats 4000000
abbrev zw8(c:UInt8):XV:=.one (.int .u8 c.toNat)
theorem zlB(c:UInt8):zab Tryz.prog 302 [zw8 c] (.x (.one (.bool (zdV c)))):=by
 refine zab.of mixed (fn:=Tryz.f302) (by kernel_rfl) (by kernel_rfl) rfl (by kernel_rfl) (by simp[Tryz.f302]) (fun hok=>?_)
 simp -implicitDefEqProofs
 rw[Bool.eq_iff_iff]
 simp only[zdV,Bool.or_eq_true,Bool.and_eq_true,decide_eq_true_eq]
 omega
theorem zim(c:UInt8):zab Tryz.prog 254 [zw8 c] (.x (.one (.bool (zqk c)))):=by
 refine zab.of mixed (fn:=Tryz.f254) (by kernel_rfl) (by kernel_rfl) rfl (by kernel_rfl) (by simp[Tryz.f254]) (fun hok=>?_)
 simp -implicitDefEqProofs
 refine zac.of (zlB c) ?_
 cases h0:zdV c
 ·simp -implicitDefEqProofs
  rw[Bool.eq_iff_iff]
  simp only[zqk,h0,Bool.false_or,Bool.or_eq_true,Bool.and_eq_true,decide_eq_true_eq]
  omega
 ·simp -implicitDefEqProofs
  try simp[zqk,h0]
theorem ztT(c:UInt8):((zgF c).toNat:Int)=if 65≤c.toNat∧c.toNat≤90 then (c.toNat:Int)+32 else c.toNat:=by
 have:∀c:UInt8,((zgF c).toNat:Int)=if 65≤c.toNat∧c.toNat≤90 then (c.toNat:Int)+32 else c.toNat:=zCD (by decide +kernel)
 exact this c
def zgN(s:List UInt8)(i:Nat):List UInt8:=zbd (s.take i)++s.drop i
@[simp]theorem zwO(s:List UInt8)(i:Nat):(zgN s i).length=s.length:=by
 unfold zgN zbd
 rw[List.length_append,List.length_map,←List.length_append,List.take_append_drop]
theorem zuJ(s:List UInt8):zgN s 0=s:=by simp[zgN,zbd]
theorem zus(s:List UInt8):zgN s s.length=zbd s:=by simp[zgN]
theorem ztb{s:List UInt8}{i:Nat}(h:i<s.length):(zgN s i)[i]'(by simpa using h)=s[i]:=by
 have hl:(zbd (s.take i)).length=i:=by simp[zbd];omega
 unfold zgN
 rw[List.getElem_append_right (by omega)]
 simp[hl]
theorem zu0{s:List UInt8}{i:Nat}(h:i<s.length):zgN s (i+1)=(zgN s i).set i (zgF s[i]):=by
 have hl:(zbd (s.take i)).length=i:=by simp[zbd];omega
 have e:zbd (s.take (i+1))=zbd (s.take i)++[zgF s[i]]:=by
  show (s.take (i+1)).map zgF=_
  rw[List.take_add_one,List.getElem?_eq_getElem h,List.map_append];rfl
 unfold zgN
 rw[e,List.set_append_right _ _ (by omega),hl,Nat.sub_self,List.drop_eq_getElem_cons h,List.set_cons_zero]
 simp
theorem zgm(l:List UInt8)(i:Nat)(c:UInt8):(zad l).set i (byteRow c)=zad (l.set i c):=by
 unfold zad;rw[List.map_set]
theorem zBc{l:List UInt8}{i:Nat}(h:i<l.length):l.set i l[i]=l:=List.set_getElem_self h
theorem ziH(l:List UInt8):ztx (zad l)=l:=by
 unfold ztx zad
 rw[List.map_map]
 have:(zvV∘byteRow)=id:=by funext b;simp[zvV,byteRow]
 rw[this,List.map_id]
theorem zkU(l:List UInt8):okB (zad l):=by
 intro x hx
 obtain⟨b,_,rfl⟩:=List.mem_map.1 hx
 exact⟨_,rfl⟩
theorem zrH{l:List UInt8}{i:Nat}(h:i<l.length):(zad l)[i]?=some (byteRow l[i]):=by simp[zad,h]
theorem zrI{l:List UInt8}{i:Nat}(h:i<(zad l).length):(zad l)[i]=byteRow (l[i]'(by simpa[zad] using h)):=by simp[zad]
theorem zbs(l:List UInt8):(zad l).length=l.length:=by simp[zad]
theorem zdi(s:List UInt8):zab Tryz.prog 134 [.one (.str s)] (.x (.one (.str (zbd s)))):=by
 refine zab.of mixed (fn:=Tryz.f134) (by kernel_rfl) (by kernel_rfl) rfl (by kernel_rfl) (by simp[Tryz.f134]) (fun hok=>?_)
 have hl:s.length≤maxLen:=by simpa[XV.ok,CV.ok] using hok
 have hR:=zbs
 have hR0:=zwO s
 simp -implicitDefEqProofs[hR]
 refine zaK.of Nat (fun i=>[(3,.own 5 1 (zad (zgN s i))),(8,.alias 3),(9,.x (.one (.int .i64 s.length))),(10,.x (.one (.int .i64 i)))]) (fun i=>i≤s.length) (fun i=>s.length-i) 0 (Nat.zero_le _) ?_ ?_
 ·simp[zuJ]
 intro i hi
 by_cases hlt:i<s.length
 ·have hlt':((i:Int)<(s.length:Int))=True:=eq_true (by omega)
  have hwr:IntKind.i64.wrap ((i:Int)+1)=(i:Int)+1:=zaq _ (by unfold maxLen at hl;omega)
  have hat:∀h,(zad (zgN s i))[i]'h=byteRow s[i]:=fun h=>by rw[zrI,ztb hlt]
  have hst:=zu0 hlt
  by_cases hc:65≤s[i].toNat∧s[i].toNat≤90
  ·have c1:(65≤(s[i].toNat:Int))=True:=eq_true (by omega)
   have c2:((s[i].toNat:Int)≤90)=True:=eq_true (by omega)
   have hw:IntKind.u8.wrap (IntKind.u8.wrap ((s[i].toNat:Int)+97)-65)=((zgF s[i]).toNat:Int):=by
    rw[ztT,if_pos hc];simp[IntKind.wrap,IntKind.signed,IntKind.bits];omega
   simp -implicitDefEqProofs[hlt,hlt',hR,hat,c1,c2,hw]
   refine zaz.of (i+1) hlt (by omega) ?_
   have hst2:zad (zgN s (i+1))=(zad (zgN s i)).set i (byteRow (zgF s[i])):=by rw[hst,zgm]
   simp[hst2,hwr]
  ·have hsame:zgF s[i]=s[i]:=by unfold zgF;rw[if_neg hc]
   have hst':zgN s (i+1)=zgN s i:=by
    rw[hst,hsame,←ztb hlt,zBc]
   by_cases h1:65≤s[i].toNat
   ·have c1:(65≤(s[i].toNat:Int))=True:=eq_true (by omega)
    have c2:((s[i].toNat:Int)≤90)=False:=eq_false (by omega)
    simp -implicitDefEqProofs[hlt,hlt',hR,hat,c1,c2]
    refine zaz.of (i+1) hlt (by omega) ?_
    simp[hst',hwr]
   ·have c1:(65≤(s[i].toNat:Int))=False:=eq_false (by omega)
    simp -implicitDefEqProofs[hlt,hlt',hR,hat,c1]
    refine zaz.of (i+1) hlt (by omega) ?_
    simp[hst',hwr]
 ·have hlt':((i:Int)<(s.length:Int))=False:=eq_false (by omega)
  have hi':i=s.length:=by omega
  subst hi'
  have ho:=zkU (zbd s)
  have hb:=ziH (zbd s)
  have hf:=zus s
  have hsl:(zbd s).length=s.length:=by simp[zbd]
  simp -implicitDefEqProofs[hlt',hf,ho,hb,hsl,hR]
theorem zOT{c:UInt8}(n:Nat)(hn:n<256):((c.toNat:Int)=n)↔c=UInt8.ofNat n:=by
 rw[←UInt8.toNat_inj,UInt8.toNat_ofNat_of_lt' (by simp[UInt8.size];omega)];omega
def zb1(s:List UInt8)(c:UInt8):Int:=if c∈s then ((zhq c s).length:Int) else -1
theorem zcu{s:List UInt8}{c:UInt8}(h:s.contains c=true):0≤zb1 s c:=by
 unfold zb1;rw[if_pos (by simpa using h)];omega
theorem zfe{s:List UInt8}{c:UInt8}(h:s.contains c=false):zb1 s c=-1:=by
 unfold zb1;rw[if_neg (by intro hm;rw[List.contains_iff_mem.2 hm] at h;cases h)]
theorem strings_IndexByte(s:List UInt8)(c:UInt8):zab Tryz.prog 215 [.one (.str s),zw8 c] (.x (.one (.int .i64 (zb1 s c)))):=by
 unfold zb1
 rw[←zn0]
 refine zab.ztJ [.string ⟨s.toArray⟩,.int .u8 c.toNat] _ (zbm Tryz.f215 (by kernel_rfl) (by kernel_rfl) rfl) rfl (fun _ _=>zpm _ _) (fun _ w=>?_)
 refine(Any.strings_IndexByte { zwY with } ⟨s.toArray⟩ c.toNat w).mono ?_
 rintro e w' ⟨rfl,rfl⟩
 have:(c.toNat:Int).toNat.toUInt8=c:=by simp
 rw[this]
 exact⟨rfl,RowKit.Below.refl _ _⟩
structure zhi(w s:List UInt8)(i:Nat):Prop where
 le:i≤s.length
 eq:zbD w s=(i+(zbD w (s.drop i)).1,(zbD w (s.drop i)).2)
theorem zhi.zero(w s:List UInt8):zhi w s 0:=⟨Nat.zero_le _,by simp⟩
theorem zhi.step{w s:List UInt8}{i:Nat}(h:zhi w s i)(hlt:i<s.length)(h1:w.contains s[i]=false)(h2:zsD s[i]=true)(h3:s[i]=37→zRq (s.drop (i+1))=true):zhi w s (i+1):=by
 refine⟨hlt,?_⟩
 rw[h.eq,List.drop_eq_getElem_cons hlt,zp4 h1 h2 h3]
 simp only
 congr 1;omega
theorem zhi.hit{w s:List UInt8}{i:Nat}(h:zhi w s i)(hlt:i<s.length)(h1:w.contains s[i]=true):zbD w s=(i,true):=by
 rw[h.eq,List.drop_eq_getElem_cons hlt,zbD,if_pos h1];rfl
theorem zhi.bad{w s:List UInt8}{i:Nat}(h:zhi w s i)(hlt:i<s.length)(h1:w.contains s[i]=false)(h2:zsD s[i]=false∨(s[i]=37∧zRq (s.drop (i+1))=false)):zbD w s=(i,false):=by
 rw[h.eq,List.drop_eq_getElem_cons hlt,zbD,if_neg (by rw[h1];decide),if_pos h2];rfl
theorem zhi.done{w s:List UInt8}{i:Nat}(h:zhi w s i)(hge:¬i<s.length):zbD w s=(s.length,true):=by
 have:i=s.length:=by have:=h.le;omega
 rw[h.eq,this,List.drop_length];rfl
theorem zoo(s:List UInt8)(i:Nat):zRq (s.drop (i+1))=if h:i+2<s.length then zqk s[i+1]&&zqk s[i+2] else false:=by
 by_cases h:i+2<s.length
 ·rw[dif_pos h,List.drop_eq_getElem_cons (by omega),List.drop_eq_getElem_cons (by omega)];rfl
 ·rw[dif_neg h]
  by_cases h1:i+1<s.length
  ·rw[List.drop_eq_getElem_cons h1,List.drop_eq_nil_of_le (by omega)];rfl
  ·rw[List.drop_eq_nil_of_le (by omega)];rfl
theorem zhi.three{w s:List UInt8}{i:Nat}(hw:∀c,w.contains c=true→zqk c=false)(h:zhi w s i)(hlt:i+2<s.length)(h1:w.contains (s[i]'(by omega))=false)(h2:zsD (s[i]'(by omega))=true)(a:zqk (s[i+1]'(by omega))=true)(b:zqk s[i+2]=true):zhi w s (i+3):=by
 have hx:∀c,zqk c=true→w.contains c=false:=fun c hc=>by
  cases hq:w.contains c with
  |false=>rfl
  |true=>rw[hw c hq] at hc;cases hc
 have s1:=h.step (by omega) h1 h2 (fun _=>by rw[zoo,dif_pos hlt,a,b];rfl)
 have s2:=s1.step (by omega) (hx _ a) (zk0 a).1 (fun e=>absurd e (zk0 a).2.1)
 exact s2.step (by omega) (hx _ b) (zk0 b).1 (fun e=>absurd e (zk0 b).2.1)
theorem zn1(c:UInt8):zsD c=true↔(¬c.toNat<33∧¬126<c.toNat)∧zw4.contains c=false:=by
 unfold zsD
 cases zw4.contains c<;>simp
theorem zNJ{c:UInt8}:((c.toNat:Int)=37)↔c=37:=zOT 37 (by omega)
theorem zm7(s w:List UInt8)(hs:s.length≤4000000000000000)(hw:∀c,w.contains c=true→zqk c=false):zab Tryz.prog 195 [.one (.str s),.one (.str w)] (.tup [.one (.int .i64 (zbD w s).1),.one (.bool (zbD w s).2)]):=by
 refine zab.of mixed (fn:=Tryz.f195) (by kernel_rfl) (by kernel_rfl) rfl (by kernel_rfl) (by simp[Tryz.f195]) (fun hok=>?_)
 obtain⟨R,eR⟩:∃R,R=zbD w s:=⟨_,rfl⟩
 rw[←eR]
 simp -implicitDefEqProofs
 refine zaK.of Nat (fun i=>[(0,.x (.one (.str s))),(1,.x (.one (.str w))),(6,.x (.one (.int .i64 i)))]) (zhi w s) (fun i=>s.length-i) 0 (zhi.zero w s) ?_ ?_
 ·simp
 intro i hi
 by_cases hlt:i<s.length
 rotate_left
 ·have hlt':((i:Int)<(s.length:Int))=False:=eq_false (by omega)
  rw[hi.done hlt] at eR
  subst eR
  simp -implicitDefEqProofs[hlt,hlt']
 have hlt':((i:Int)<(s.length:Int))=True:=eq_true (by omega)
 have hwr:IntKind.i64.wrap ((i:Int)+1)=(i:Int)+1:=zaq _ (by omega)
 simp -implicitDefEqProofs[hlt,hlt']
 refine zac.of (strings_IndexByte w s[i]) ?_
 cases hin:w.contains s[i]
 rotate_left
 ·have g:(0≤zb1 w s[i])=True:=eq_true (zcu hin)
  rw[hi.hit hlt hin] at eR
  subst eR
  simp -implicitDefEqProofs[g]
 have hno:=zfe hin
 simp -implicitDefEqProofs[hno]
 by_cases hr:zsD s[i]=true
 rotate_left
 ·have hr':zsD s[i]=false:=by simpa using hr
  rw[hi.bad hlt hin (.inl hr')] at eR
  subst eR
  by_cases c1:s[i].toNat<33
  ·have c1':((s[i].toNat:Int)<33)=True:=eq_true (by omega)
   simp -implicitDefEqProofs[c1',c1]
   refine zah.of (fun h=>by cases h) (r:=.x (.one (.int .i64 0))) rfl ?_
   simp -implicitDefEqProofs[c1',c1]
  ·have c1':((s[i].toNat:Int)<33)=False:=eq_false (by omega)
   by_cases c2:126<s[i].toNat
   ·have c2':(126<(s[i].toNat:Int))=True:=eq_true (by omega)
    simp -implicitDefEqProofs[c1',c1,c2',c2]
    refine zah.of (fun h=>by cases h) (r:=.x (.one (.int .i64 0))) rfl ?_
    simp -implicitDefEqProofs[c1',c1,c2',c2]
   ·have c2':(126<(s[i].toNat:Int))=False:=eq_false (by omega)
    have hb:zw4.contains s[i]=true:=by
     cases hb:zw4.contains s[i] with
     |true=>rfl
     |false=>exact absurd ((zn1 _).2 ⟨⟨c1,c2⟩,hb⟩) hr
    have g:(0≤zb1 [34,35,60,62,92,94,123,124,125,96] s[i])=True:=eq_true (zcu hb)
    simp -implicitDefEqProofs[c1',c1,c2',c2]
    refine zah.of (fun _=>strings_IndexByte [34,35,60,62,92,94,123,124,125,96] s[i]) rfl ?_
    simp -implicitDefEqProofs[g]
 obtain⟨⟨c1,c2⟩,hb⟩:=(zn1 _).1 hr
 have c1':((s[i].toNat:Int)<33)=False:=eq_false (by omega)
 have c2':(126<(s[i].toNat:Int))=False:=eq_false (by omega)
 have hb0:zb1 [34,35,60,62,92,94,123,124,125,96] s[i]=-1:=zfe hb
 simp -implicitDefEqProofs[c1',c1,c2',c2]
 refine zah.of (fun _=>strings_IndexByte [34,35,60,62,92,94,123,124,125,96] s[i]) rfl ?_
 by_cases h37:s[i]=37
 rotate_left
 ·have e:((s[i].toNat:Int)=37)=False:=eq_false (fun h=>h37 (zNJ.1 h))
  simp -implicitDefEqProofs[hb0,c1',c2',e]
  refine zaz.of (i+1) (hi.step hlt hin hr (fun e=>absurd e h37)) (by omega) (by simp[hwr])
 have e:((s[i].toNat:Int)=37)=True:=eq_true (zNJ.2 h37)
 have w2:IntKind.i64.wrap ((i:Int)+2)=(i:Int)+2:=zaq _ (by omega)
 by_cases h2:i+2<s.length
 rotate_left
 ·have g2:((s.length:Int)≤(i:Int)+2)=True:=eq_true (by omega)
  rw[hi.bad hlt hin (.inr ⟨h37,by rw[zoo,dif_neg h2]⟩)] at eR
  subst eR
  simp -implicitDefEqProofs[hb0,c1',c2',e,w2,g2]
  refine zah.of (fun h=>by cases h) (r:=.x (.one (.bool false))) rfl ?_
  simp -implicitDefEqProofs[g2]
  refine zah.of (fun h=>by cases h) (r:=.x (.one (.bool false))) rfl ?_
  simp -implicitDefEqProofs[g2]
 have g2:((s.length:Int)≤(i:Int)+2)=False:=eq_false (by omega)
 have q1:i+1<s.length:=by omega
 have q1':((i:Int)+1<(s.length:Int))=True:=eq_true (by omega)
 have q2':((i:Int)+2<(s.length:Int))=True:=eq_true (by omega)
 have p1:(0≤(i:Int)+1)=True:=eq_true (by omega)
 have p2:(0≤(i:Int)+2)=True:=eq_true (by omega)
 have n1:((i:Int)+1).toNat=i+1:=by omega
 have n2:((i:Int)+2).toNat=i+2:=by omega
 simp -implicitDefEqProofs[hb0,c1',c2',e,w2,hwr,g2,q1,q1',q2',h2,p1,p2,n1,n2]
 refine zah.of (fun _=>zim s[i+1]) rfl ?_
 cases x1:zqk s[i+1]
 ·rw[hi.bad hlt hin (.inr ⟨h37,by rw[zoo,dif_pos h2,x1];rfl⟩)] at eR
  subst eR
  simp -implicitDefEqProofs[w2,hwr,g2,q1,q1',q2',h2,p1,p2,n1,n2]
  refine zah.of (fun h=>by cases h) (r:=.x (.one (.bool false))) rfl ?_
  simp -implicitDefEqProofs
 ·simp -implicitDefEqProofs[w2,hwr,g2,q1,q1',q2',h2,p1,p2,n1,n2]
  refine zah.of (fun _=>zim s[i+2]) rfl ?_
  cases x2:zqk s[i+2]
  ·rw[hi.bad hlt hin (.inr ⟨h37,by rw[zoo,dif_pos h2,x2];simp⟩)] at eR
   subst eR
   simp -implicitDefEqProofs[w2,hwr,g2]
  ·have w3:IntKind.i64.wrap ((i:Int)+2+1)=(i:Int)+3:=by rw[zaq _ (by omega)];omega
   simp -implicitDefEqProofs[w2,hwr,g2]
   refine zaz.of (i+3) (hi.three hw h2 hin hr x1 x2) (by omega) (by simp[w3])
theorem zoD(s w:List UInt8)(hs:s.length≤4000000000000000)(hw:∀c,w.contains c=true→zqk c=false):zab Tryz.prog 107 [.one (.str s),.one (.str w)] (.x (.one (.bool (rowB w s)))):=by
 refine zab.of mixed (fn:=Tryz.f107) (by kernel_rfl) (by kernel_rfl) rfl (by kernel_rfl) (by simp[Tryz.f107]) (fun hok=>?_)
 simp -implicitDefEqProofs
 refine zac.of (zm7 s w hs hw) ?_
 unfold rowB
 cases h:(zbD w s).2
 ·simp -implicitDefEqProofs
 ·simp -implicitDefEqProofs
  rw[Bool.eq_iff_iff];simp
  omega
structure Addr.Fit(a:Addr):Prop where
 scheme:a.scheme.length≤300000000000000
 host:a.host.length≤300000000000000
 port:a.port.length≤300000000000000
 path:a.path.length≤300000000000000
 query:a.query.length≤300000000000000
 frag:a.frag.length≤300000000000000
end Go.Proofs.YtlcmnclbljedfaaGreatDoor
namespace Go.Proofs.YtlcmnclbljedfaaGreatDoor
open Go Go.Ab
end Go.Proofs.YtlcmnclbljedfaaGreatDoor
namespace Go.Proofs.YtlcmnclbljedfaaGreatDoor
open Go Go.Ab
variable [Amb]
set_option maxRecDepth 100000
set_option maxHeartbeats 4000000
end Go.Proofs.YtlcmnclbljedfaaGreatDoor
namespace Go.Proofs.YtlcmnclbljedfaaGreatDoor
open Go Go.Ab
structure zV4(u t:List UInt8)(i:Nat):Prop where
 le:i≤u.length
 le2:i≤t.length
 eq:zUk u t=i+zUk (u.drop i) (t.drop i)
end Go.Proofs.YtlcmnclbljedfaaGreatDoor
namespace Go.Proofs.YtlcmnclbljedfaaGreatDoor
open Go Go.Ab
variable [Amb]
set_option maxRecDepth 100000
set_option maxHeartbeats 4000000
structure zWf where
 path:List UInt8
 query:List UInt8
 hasQ:Bool
 frag:List UInt8
 hasF:Bool
 bad:Int
end Go.Proofs.YtlcmnclbljedfaaGreatDoor
namespace Go.Proofs.YtlcmnclbljedfaaGreatDoor
open Go Go.Ab
end Go.Proofs.YtlcmnclbljedfaaGreatDoor
namespace Go.Proofs.YtlcmnclbljedfaaGreatDoor
open Go Go.Ab
variable [Amb]
set_option maxRecDepth 100000
set_option maxHeartbeats 4000000
end Go.Proofs.YtlcmnclbljedfaaGreatDoor
namespace Go.Proofs.YtlcmnclbljedfaaGreatDoor
open Go Go.Ab
variable [Amb][zal Tryz.prog]
set_option maxRecDepth 100000
set_option maxHeartbeats 4000000
def zsc:List UInt8:=[33,35,36,37,38,39,42,43,45,46,94,95,124,126]
def zAK(c:UInt8):Bool:=(decide (97≤c.toNat)&&decide (c.toNat≤122)) || (decide (65≤c.toNat)&&decide (c.toNat≤90)) || (decide (48≤c.toNat)&&decide (c.toNat≤57)) || zsc.contains c
theorem zr1{c:UInt8}(h:(97≤c.toNat∧c.toNat≤122)∨(65≤c.toNat∧c.toNat≤90)∨(48≤c.toNat∧c.toNat≤57)):zAK c=true:=by
 unfold zAK
 rcases h with h | h | h<;>simp[h.1,h.2]
theorem zoz{c:UInt8}(h:zsc.contains c=true):zAK c=true:=by unfold zAK;rw[h,Bool.or_true]
theorem zkW{c:UInt8}(h:¬((97≤c.toNat∧c.toNat≤122)∨(65≤c.toNat∧c.toNat≤90)∨(48≤c.toNat∧c.toNat≤57)))(hc:zsc.contains c=false):zAK c=false:=by
 unfold zAK
 rw[hc]
 cases h1:decide (97≤c.toNat)<;>cases h2:decide (c.toNat≤122)<;>cases h3:decide (65≤c.toNat)<;>cases h4:decide (c.toNat≤90)<;>cases h5:decide (48≤c.toNat)<;>cases h6:decide (c.toNat≤57) <;>
  simp only[decide_eq_true_eq,decide_eq_false_iff_not] at h1 h2 h3 h4 h5 h6<;>first | rfl | (exfalso;omega)
def zs7(s:List UInt8):Bool:=inB 1 40 s.length&&s.all zAK
theorem zgV(s:List UInt8):zab Tryz.prog 192 [.one (.str s)] (.x (.one (.bool (zs7 s)))):=by
 obtain⟨B,eB⟩:∃B,B=zs7 s:=⟨_,rfl⟩
 rw[←eB]
 have hbad:∀i (h:i<s.length),zAK s[i]=false→B=false:=fun i h hc=>by rw[eB];unfold zs7;rw[zoX h hc,Bool.and_false]
 refine zab.of mixed (fn:=Tryz.f192) (by kernel_rfl) (by kernel_rfl) rfl (by kernel_rfl) (by simp[Tryz.f192]) (fun hok=>?_)
 cases hin:inB 1 40 s.length
 ·have hB:B=false:=by rw[eB];unfold zs7;rw[hin,Bool.false_and]
  by_cases h1:s.length<1
  ·have h1':((s.length:Int)<1)=True:=eq_true (by omega)
   simp -implicitDefEqProofs[h1',hB]
  ·have h1':((s.length:Int)<1)=False:=eq_false (by omega)
   have h2:(40<(s.length:Int))=True:=eq_true (by simp[inB] at hin;omega)
   simp -implicitDefEqProofs[h1',h2,hB]
 have h1:((s.length:Int)<1)=False:=by simp[inB] at hin;exact eq_false (by omega)
 have h2:(40<(s.length:Int))=False:=by simp[inB] at hin;exact eq_false (by omega)
 simp -implicitDefEqProofs[h1,h2]
 refine zaK.of Nat (fun i=>[(0,.x (.one (.str s))),(14,.x (.one (.int .i64 s.length))),(15,.x (.one (.int .i64 i)))]) (zlp zAK s) (fun i=>s.length-i) 0 zlp.zero ?_ ?_
 ·simp
 intro i hi
 have hle:=hi.1
 by_cases hlt:i<s.length
 ·have hlt':((i:Int)<(s.length:Int))=True:=eq_true (by omega)
  have hwr:IntKind.i64.wrap ((i:Int)+1)=(i:Int)+1:=zaq _ (by simp[inB] at hin;omega)
  have h255:=s[i].toNat_lt
  have hcl:(s[i].toNat≤47)∨(48≤s[i].toNat∧s[i].toNat≤57)∨(58≤s[i].toNat∧s[i].toNat≤64)∨(65≤s[i].toNat∧s[i].toNat≤90)∨(91≤s[i].toNat∧s[i].toNat≤96)∨(97≤s[i].toNat∧s[i].toNat≤122)∨(123≤s[i].toNat):=by omega
  rcases hcl with hcl | hcl | hcl | hcl | hcl | hcl | hcl
  ·-- 0..47
   have p0:(97≤(s[i].toNat:Int))=False:=eq_false (by omega)
   have p1:((s[i].toNat:Int)≤122)=True:=eq_true (by omega)
   have p2:(65≤(s[i].toNat:Int))=False:=eq_false (by omega)
   have p3:((s[i].toNat:Int)≤90)=True:=eq_true (by omega)
   have p4:(48≤(s[i].toNat:Int))=False:=eq_false (by omega)
   have p5:((s[i].toNat:Int)≤57)=True:=eq_true (by omega)
   simp -implicitDefEqProofs[hlt,hlt',p0,p1,p2,p3,p4,p5]
   refine zah.of (fun _=>strings_IndexByte [33,35,36,37,38,39,42,43,45,46,94,95,124,126] s[i]) rfl ?_
   cases hc:zsc.contains s[i]
   ·have g:zb1 [33,35,36,37,38,39,42,43,45,46,94,95,124,126] s[i]=-1:=zfe hc
    have hB:=hbad i hlt (zkW (by omega) hc)
    simp -implicitDefEqProofs[g,hB]
   ·have g:(0≤zb1 [33,35,36,37,38,39,42,43,45,46,94,95,124,126] s[i])=True:=eq_true (zcu hc)
    have g2:(zb1 [33,35,36,37,38,39,42,43,45,46,94,95,124,126] s[i]<0)=False:=eq_false (by have h0:0≤zb1 [33,35,36,37,38,39,42,43,45,46,94,95,124,126] s[i]:=zcu hc;omega)
    simp -implicitDefEqProofs[g,g2,hwr]
    exact zaz.of (i+1) (hi.step hlt (zoz hc)) (by omega) (by simp[hwr])
  ·-- 48..57
   have p0:(97≤(s[i].toNat:Int))=False:=eq_false (by omega)
   have p1:((s[i].toNat:Int)≤122)=True:=eq_true (by omega)
   have p2:(65≤(s[i].toNat:Int))=False:=eq_false (by omega)
   have p3:((s[i].toNat:Int)≤90)=True:=eq_true (by omega)
   have p4:(48≤(s[i].toNat:Int))=True:=eq_true (by omega)
   have p5:((s[i].toNat:Int)≤57)=True:=eq_true (by omega)
   simp -implicitDefEqProofs[hlt,hlt',p0,p1,p2,p3,p4,p5]
   refine zah.of (fun h=>by cases h) (r:=.x (.one (.int .i64 0))) rfl ?_
   simp -implicitDefEqProofs[hwr,p0,p1,p2,p3,p4,p5]
   exact zaz.of (i+1) (hi.step hlt (zr1 (by omega))) (by omega) (by simp[hwr])
  ·-- 58..64
   have p0:(97≤(s[i].toNat:Int))=False:=eq_false (by omega)
   have p1:((s[i].toNat:Int)≤122)=True:=eq_true (by omega)
   have p2:(65≤(s[i].toNat:Int))=False:=eq_false (by omega)
   have p3:((s[i].toNat:Int)≤90)=True:=eq_true (by omega)
   have p4:(48≤(s[i].toNat:Int))=True:=eq_true (by omega)
   have p5:((s[i].toNat:Int)≤57)=False:=eq_false (by omega)
   simp -implicitDefEqProofs[hlt,hlt',p0,p1,p2,p3,p4,p5]
   refine zah.of (fun _=>strings_IndexByte [33,35,36,37,38,39,42,43,45,46,94,95,124,126] s[i]) rfl ?_
   cases hc:zsc.contains s[i]
   ·have g:zb1 [33,35,36,37,38,39,42,43,45,46,94,95,124,126] s[i]=-1:=zfe hc
    have hB:=hbad i hlt (zkW (by omega) hc)
    simp -implicitDefEqProofs[g,hB]
   ·have g:(0≤zb1 [33,35,36,37,38,39,42,43,45,46,94,95,124,126] s[i])=True:=eq_true (zcu hc)
    have g2:(zb1 [33,35,36,37,38,39,42,43,45,46,94,95,124,126] s[i]<0)=False:=eq_false (by have h0:0≤zb1 [33,35,36,37,38,39,42,43,45,46,94,95,124,126] s[i]:=zcu hc;omega)
    simp -implicitDefEqProofs[g,g2,hwr]
    exact zaz.of (i+1) (hi.step hlt (zoz hc)) (by omega) (by simp[hwr])
  ·-- 65..90
   have p0:(97≤(s[i].toNat:Int))=False:=eq_false (by omega)
   have p1:((s[i].toNat:Int)≤122)=True:=eq_true (by omega)
   have p2:(65≤(s[i].toNat:Int))=True:=eq_true (by omega)
   have p3:((s[i].toNat:Int)≤90)=True:=eq_true (by omega)
   have p4:(48≤(s[i].toNat:Int))=True:=eq_true (by omega)
   have p5:((s[i].toNat:Int)≤57)=False:=eq_false (by omega)
   simp -implicitDefEqProofs[hlt,hlt',p0,p1,p2,p3,p4,p5]
   refine zah.of (fun h=>by cases h) (r:=.x (.one (.int .i64 0))) rfl ?_
   simp -implicitDefEqProofs[hwr,p0,p1,p2,p3,p4,p5]
   exact zaz.of (i+1) (hi.step hlt (zr1 (by omega))) (by omega) (by simp[hwr])
  ·-- 91..96
   have p0:(97≤(s[i].toNat:Int))=False:=eq_false (by omega)
   have p1:((s[i].toNat:Int)≤122)=True:=eq_true (by omega)
   have p2:(65≤(s[i].toNat:Int))=True:=eq_true (by omega)
   have p3:((s[i].toNat:Int)≤90)=False:=eq_false (by omega)
   have p4:(48≤(s[i].toNat:Int))=True:=eq_true (by omega)
   have p5:((s[i].toNat:Int)≤57)=False:=eq_false (by omega)
   simp -implicitDefEqProofs[hlt,hlt',p0,p1,p2,p3,p4,p5]
   refine zah.of (fun _=>strings_IndexByte [33,35,36,37,38,39,42,43,45,46,94,95,124,126] s[i]) rfl ?_
   cases hc:zsc.contains s[i]
   ·have g:zb1 [33,35,36,37,38,39,42,43,45,46,94,95,124,126] s[i]=-1:=zfe hc
    have hB:=hbad i hlt (zkW (by omega) hc)
    simp -implicitDefEqProofs[g,hB]
   ·have g:(0≤zb1 [33,35,36,37,38,39,42,43,45,46,94,95,124,126] s[i])=True:=eq_true (zcu hc)
    have g2:(zb1 [33,35,36,37,38,39,42,43,45,46,94,95,124,126] s[i]<0)=False:=eq_false (by have h0:0≤zb1 [33,35,36,37,38,39,42,43,45,46,94,95,124,126] s[i]:=zcu hc;omega)
    simp -implicitDefEqProofs[g,g2,hwr]
    exact zaz.of (i+1) (hi.step hlt (zoz hc)) (by omega) (by simp[hwr])
  ·-- 97..122
   have p0:(97≤(s[i].toNat:Int))=True:=eq_true (by omega)
   have p1:((s[i].toNat:Int)≤122)=True:=eq_true (by omega)
   have p2:(65≤(s[i].toNat:Int))=True:=eq_true (by omega)
   have p3:((s[i].toNat:Int)≤90)=False:=eq_false (by omega)
   have p4:(48≤(s[i].toNat:Int))=True:=eq_true (by omega)
   have p5:((s[i].toNat:Int)≤57)=False:=eq_false (by omega)
   simp -implicitDefEqProofs[hlt,hlt',p0,p1,p2,p3,p4,p5]
   refine zah.of (fun h=>by cases h) (r:=.x (.one (.int .i64 0))) rfl ?_
   simp -implicitDefEqProofs[hwr,p0,p1,p2,p3,p4,p5]
   exact zaz.of (i+1) (hi.step hlt (zr1 (by omega))) (by omega) (by simp[hwr])
  ·-- 123..255
   have p0:(97≤(s[i].toNat:Int))=True:=eq_true (by omega)
   have p1:((s[i].toNat:Int)≤122)=False:=eq_false (by omega)
   have p2:(65≤(s[i].toNat:Int))=True:=eq_true (by omega)
   have p3:((s[i].toNat:Int)≤90)=False:=eq_false (by omega)
   have p4:(48≤(s[i].toNat:Int))=True:=eq_true (by omega)
   have p5:((s[i].toNat:Int)≤57)=False:=eq_false (by omega)
   simp -implicitDefEqProofs[hlt,hlt',p0,p1,p2,p3,p4,p5]
   refine zah.of (fun _=>strings_IndexByte [33,35,36,37,38,39,42,43,45,46,94,95,124,126] s[i]) rfl ?_
   cases hc:zsc.contains s[i]
   ·have g:zb1 [33,35,36,37,38,39,42,43,45,46,94,95,124,126] s[i]=-1:=zfe hc
    have hB:=hbad i hlt (zkW (by omega) hc)
    simp -implicitDefEqProofs[g,hB]
   ·have g:(0≤zb1 [33,35,36,37,38,39,42,43,45,46,94,95,124,126] s[i])=True:=eq_true (zcu hc)
    have g2:(zb1 [33,35,36,37,38,39,42,43,45,46,94,95,124,126] s[i]<0)=False:=eq_false (by have h0:0≤zb1 [33,35,36,37,38,39,42,43,45,46,94,95,124,126] s[i]:=zcu hc;omega)
    simp -implicitDefEqProofs[g,g2,hwr]
    exact zaz.of (i+1) (hi.step hlt (zoz hc)) (by omega) (by simp[hwr])
 ·have hlt':((i:Int)<(s.length:Int))=False:=eq_false (by omega)
  have hB:B=true:=by rw[eB];unfold zs7;rw[hin,hi.done hlt];rfl
  simp -implicitDefEqProofs[hlt',hB]
end Go.Proofs.YtlcmnclbljedfaaGreatDoor
