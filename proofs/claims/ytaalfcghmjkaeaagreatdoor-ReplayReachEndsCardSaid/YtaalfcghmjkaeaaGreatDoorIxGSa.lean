/- A part of the proof: lemmas and contracts of functions. -/
import Derived.Test.YtaalfcghmjkaeaaGreatDoorAbJ0
import Derived.Shelf.Lays
import Derived.Test.YtaalfcghmjkaeaaGreatDoorProg
import Derived.KernelRfl
import Derived.Test.YtaalfcghmjkaeaaGreatDoorAbJ4
import Derived.Test.YtaalfcghmjkaeaaGreatDoorAbJ5
import Derived.Shelf.Small.Strs
import Derived.Shelf.Strings.SlTrimAscii
import Derived.Shelf.LaysM
import Derived.Shelf.Strings.BuilderX
import Derived.Lib.ItoaLen
import Derived.Shelf.Strconv.Itoa3
import Derived.Shelf.Strings.OnBuilder
import Derived.Lib.ItoaNum
import Derived.Lib.Atoi
import Derived.Shelf.Strings.Repeat
import Derived.Lib.Split
import Derived.Shelf.Strings.SplitCore
import Derived.Shelf.Strings.Search3
import Derived.Shelf.Strings.Count
import Derived.Shelf.Strconv.Atoi
import Derived.Lib.SplitLaws
import Derived.Lib.AtoiErrMem
set_option linter.all false
namespace Go.Proofs.YtaalfcghmjkaeaaGreatDoor
open Go
set_option maxRecDepth 100000
end Go.Proofs.YtaalfcghmjkaeaaGreatDoor
namespace Go.Proofs.YtaalfcghmjkaeaaGreatDoor
open Go Go.Ab Go.Proofs.Tryz Go.IntKind
@[simp]def zIz:tk prog 3=bZ.one/\
 h4 prog 3=false/\
 ea prog 3=some (az.one (af.int i64 0))/\
 mT prog 3=some 8/\
 hS prog 3=true/\
 ov prog 3=some i64/\
 tk prog 4=bZ.one/\
 ea prog 4=some (az.one (af.bool false))/\
 hS prog 4=true/\
 tk prog 5=bZ.one/\
 ea prog 5=some (az.one (af.int u8 0))/\
 mT prog 5=some 1/\
 hS prog 5=true/\
 pn prog 5=true:=by refine⟨?_,?_,?_,?_,?_,?_,?_,?_,?_,?_,?_,?_,?_,?_⟩<;>kernel_rfl
@[simp]def zIA:tk prog 9=bZ.one/\
 hx prog 9=true/\
 h4 prog 9=false/\
 ea prog 9=some (az.one (af.str []))/\
 zeroOf prog 9=some [af.str []]/\
 mT prog 9=some 16/\
 hS prog 9=true/\
 h4 prog 21=false/\
 ov prog 21=some i32/\
 tk prog 22=bZ.one/\
 fC prog 22=some (38,9)/\
 ea prog 22=some (az.one af.nil)/\
 tk prog 23=bZ.one/\
 fC prog 23=some (93,2):=by refine⟨?_,?_,?_,?_,?_,?_,?_,?_,?_,?_,?_,?_,?_,?_⟩<;>kernel_rfl
@[simp]def zIB:ea prog 23=some (az.one af.nil)/\
 tk prog 24=bZ.one/\
 fC prog 24=some (138,2)/\
 ea prog 24=some (az.one af.nil)/\
 tk prog 26=bZ.agg 3/\
 ea prog 26=some (az.agg [af.nil,af.nil,af.nil])/\
 fieldAt prog 26 0=some (0,bZ.one)/\
 fieldAt prog 26 1=some (1,bZ.one)/\
 fieldAt prog 26 2=some (2,bZ.one)/\
 tk prog 28=bZ.agg 2/\
 ea prog 28=some (az.agg [af.int i64 0,af.int i64 0])/\
 zeroOf prog 28=some [af.int i64 0,af.int i64 0]/\
 lv prog 28=some ([af.int i64 0,af.int i64 0],[(0,1),(1,1)])/\
 pk prog 28=some [fo.i,fo.i]:=by refine⟨?_,?_,?_,?_,?_,?_,?_,?_,?_,?_,?_,?_,?_,?_⟩<;>kernel_rfl
@[simp]def zIC:hS prog 28=true/\
 fC prog 34=some (9,1)/\
 mE prog 34=none/\
 ix prog 34=some (9,1,[af.str []])/\
 tk prog 36=bZ.agg 2/\
 ea prog 36=some (az.agg [af.int i64 0,af.int i64 0])/\
 lv prog 36=some ([af.int i64 0,af.int i64 0],[(0,1),(1,1)])/\
 fieldAt prog 36 0=some (0,bZ.one)/\
 fieldAt prog 36 1=some (1,bZ.one)/\
 tk prog 38=bZ.agg 9/\
 ea prog 38=some (az.agg [af.str [],af.int i64 0,af.int i64 0,af.str [],af.str [],af.str [],af.int i64 0,af.int i64 0,af.bool false])/\
 zeroOf prog 38=some [af.str [],af.int i64 0,af.int i64 0,af.str [],af.str [],af.str [],af.int i64 0,af.int i64 0,af.bool false]/\
 lv prog 38=some ([af.str [],af.int i64 0,af.int i64 0,af.str [],af.str [],af.str [],af.int i64 0,af.int i64 0,af.bool false],[(0,1),(1,1),(2,1),(3,1),(4,1),(5,1),(6,2),(8,1)])/\
 pk prog 38=some [fo.s,fo.i,fo.i,fo.s,fo.s,fo.s,fo.i,fo.i,fo.b]:=by refine⟨?_,?_,?_,?_,?_,?_,?_,?_,?_,?_,?_,?_,?_,?_⟩<;>kernel_rfl
@[simp]def zID:hS prog 38=true/\
 fieldAt prog 38 0=some (0,bZ.one)/\
 fieldAt prog 38 1=some (1,bZ.one)/\
 fieldAt prog 38 2=some (2,bZ.one)/\
 fieldAt prog 38 3=some (3,bZ.one)/\
 fieldAt prog 38 4=some (4,bZ.one)/\
 fieldAt prog 38 5=some (5,bZ.one)/\
 fieldAt prog 38 6=some (6,bZ.agg 2)/\
 tk prog 54=bZ.one/\
 fC prog 54=some (5,1)/\
 h4 prog 54=true/\
 mE prog 54=none/\
 ea prog 54=some (az.one af.nil)/\
 ix prog 54=some (5,1,[af.int u8 0]):=by refine⟨?_,?_,?_,?_,?_,?_,?_,?_,?_,?_,?_,?_,?_,?_⟩<;>kernel_rfl
@[simp]def zIE:hS prog 54=true/\
 wY prog 54=true/\
 tk prog 55=bZ.one/\
 fC prog 55=some (79,5)/\
 ea prog 55=some (az.one af.nil)/\
 lv prog 57=some ([af.bool false,af.nil,af.str [],af.int i64 0,af.int i64 0,af.str [],af.str [],af.str [],af.int i64 0,af.int i64 0,af.bool false,af.nil,af.nil,af.int i64 0],[(0,1),(1,1),(2,9),(11,1),(12,1),(13,1)])/\
 fieldAt prog 57 4=some (12,bZ.one)/\
 tk prog 66=bZ.one/\
 fC prog 66=some (212,2)/\
 h4 prog 66=true/\
 ea prog 66=some (az.one af.nil)/\
 ix prog 66=some (212,2,[af.str [],af.str []])/\
 hS prog 66=true/\
 tk prog 68=bZ.agg 4:=by refine⟨?_,?_,?_,?_,?_,?_,?_,?_,?_,?_,?_,?_,?_,?_⟩<;>kernel_rfl
@[simp]def zIF:ea prog 68=some (az.agg [af.int i64 0,af.str [],af.nil,af.nil])/\
 zeroOf prog 68=some [af.int i64 0,af.str [],af.nil,af.nil]/\
 lv prog 68=some ([af.int i64 0,af.str [],af.nil,af.nil],[(0,1),(1,1),(2,1),(3,1)])/\
 hS prog 68=true/\
 fieldAt prog 68 0=some (0,bZ.one)/\
 fieldAt prog 68 1=some (1,bZ.one)/\
 fieldAt prog 68 2=some (2,bZ.one)/\
 fieldAt prog 68 3=some (3,bZ.one)/\
 tk prog 81=bZ.agg 8/\
 ea prog 81=some (az.agg [af.str [],af.str [],af.str [],af.str [],af.str [],af.bool false,af.str [],af.bool false])/\
 zeroOf prog 81=some [af.str [],af.str [],af.str [],af.str [],af.str [],af.bool false,af.str [],af.bool false]/\
 lv prog 81=some ([af.str [],af.str [],af.str [],af.str [],af.str [],af.bool false,af.str [],af.bool false],[(0,1),(1,1),(2,1),(3,1),(4,1),(5,1),(6,1),(7,1)])/\
 hS prog 81=true/\
 fieldAt prog 81 0=some (0,bZ.one):=by refine⟨?_,?_,?_,?_,?_,?_,?_,?_,?_,?_,?_,?_,?_,?_⟩<;>kernel_rfl
@[simp]def zIG:fieldAt prog 81 1=some (1,bZ.one)/\
 fieldAt prog 81 2=some (2,bZ.one)/\
 fieldAt prog 81 3=some (3,bZ.one)/\
 fieldAt prog 81 4=some (4,bZ.one)/\
 fieldAt prog 81 5=some (5,bZ.one)/\
 fieldAt prog 81 6=some (6,bZ.one)/\
 fieldAt prog 81 7=some (7,bZ.one)/\
 tk prog 87=bZ.one/\
 mE prog 87=some (eQ.s,102)/\
 ea prog 87=some (az.one (af.atom (Value.map none)))/\
 lv prog 89=some ([af.nil,af.nil,af.nil,af.atom (Value.map none)],[(0,3),(3,1)])/\
 fieldAt prog 89 0=some (0,bZ.agg 3)/\
 fieldAt prog 89 1=some (3,bZ.one)/\
 tk prog 93=bZ.agg 2:=by refine⟨?_,?_,?_,?_,?_,?_,?_,?_,?_,?_,?_,?_,?_,?_⟩<;>kernel_rfl
@[simp]def zIH:ea prog 93=some (az.agg [af.str [],af.nil])/\
 zeroOf prog 93=some [af.str [],af.nil]/\
 hS prog 93=true/\
 fieldAt prog 93 0=some (0,bZ.one)/\
 fieldAt prog 93 1=some (1,bZ.one)/\
 tk prog 94=bZ.one/\
 fC prog 94=some (108,7)/\
 ea prog 94=some (az.one af.nil)/\
 ix prog 94=some (108,7,[af.int i64 0,af.str [],af.str [],af.int i64 0,af.str [],af.nil,af.nil])/\
 fC prog 97=some (104,3)/\
 ix prog 97=some (104,3,[af.str [],af.int i64 0,af.int i64 0])/\
 tk prog 100=bZ.one/\
 mE prog 100=some (eQ.st [fo.i,fo.i],9)/\
 ea prog 100=some (az.one (af.atom (Value.map none))):=by refine⟨?_,?_,?_,?_,?_,?_,?_,?_,?_,?_,?_,?_,?_,?_⟩<;>kernel_rfl
@[simp]def zII:tk prog 102=bZ.agg 2/\
 ea prog 102=some (az.agg [af.nil,af.atom (Value.map none)])/\
 zeroOf prog 102=some [af.nil,af.atom (Value.map none)]/\
 lv prog 102=some ([af.nil,af.atom (Value.map none)],[(0,1),(1,1)])/\
 hS prog 102=true/\
 fieldAt prog 102 0=some (0,bZ.one)/\
 fieldAt prog 102 1=some (1,bZ.one)/\
 tk prog 104=bZ.agg 3/\
 ea prog 104=some (az.agg [af.str [],af.int i64 0,af.int i64 0])/\
 zeroOf prog 104=some [af.str [],af.int i64 0,af.int i64 0]/\
 mT prog 104=some 32/\
 lv prog 104=some ([af.str [],af.int i64 0,af.int i64 0],[(0,1),(1,2)])/\
 hS prog 104=true/\
 fieldAt prog 104 0=some (0,bZ.one):=by refine⟨?_,?_,?_,?_,?_,?_,?_,?_,?_,?_,?_,?_,?_,?_⟩<;>kernel_rfl
@[simp]def zIJ:fieldAt prog 104 1=some (1,bZ.agg 2)/\
 tk prog 108=bZ.agg 7/\
 ea prog 108=some (az.agg [af.int i64 0,af.str [],af.str [],af.int i64 0,af.str [],af.nil,af.nil])/\
 zeroOf prog 108=some [af.int i64 0,af.str [],af.str [],af.int i64 0,af.str [],af.nil,af.nil]/\
 mT prog 108=some 112/\
 lv prog 108=some ([af.int i64 0,af.str [],af.str [],af.int i64 0,af.str [],af.nil,af.nil],[(0,1),(1,1),(2,1),(3,1),(4,1),(5,1),(6,1)])/\
 hS prog 108=true/\
 fieldAt prog 108 0=some (0,bZ.one)/\
 fieldAt prog 108 1=some (1,bZ.one)/\
 fieldAt prog 108 2=some (2,bZ.one)/\
 fieldAt prog 108 3=some (3,bZ.one)/\
 fieldAt prog 108 4=some (4,bZ.one)/\
 fieldAt prog 108 5=some (5,bZ.one)/\
 fieldAt prog 108 6=some (6,bZ.one):=by refine⟨?_,?_,?_,?_,?_,?_,?_,?_,?_,?_,?_,?_,?_,?_⟩<;>kernel_rfl
@[simp]def zIK:h4 prog 127=false/\
 ov prog 127=some u64/\
 tk prog 138=bZ.agg 2/\
 ea prog 138=some (az.agg [af.int i64 0,af.str []])/\
 zeroOf prog 138=some [af.int i64 0,af.str []]/\
 lv prog 138=some ([af.int i64 0,af.str []],[(0,1),(1,1)])/\
 pk prog 138=some [fo.i,fo.s]/\
 hS prog 138=true/\
 fieldAt prog 138 0=some (0,bZ.one)/\
 fieldAt prog 138 1=some (1,bZ.one)/\
 h4 prog 180=false/\
 ov prog 180=some u64/\
 fC prog 196=some (3,1)/\
 ix prog 196=some (3,1,[af.int i64 0]):=by refine⟨?_,?_,?_,?_,?_,?_,?_,?_,?_,?_,?_,?_,?_,?_⟩<;>kernel_rfl
@[simp]def zIL:tk prog 199=bZ.agg 256/\
 fC prog 199=none/\
 Bs prog 199=some (256,1)/\
 zeroOf prog 199=some [af.bool false,af.bool false,af.bool false,af.bool false,af.bool false,af.bool false,af.bool false,af.bool false,af.bool false,af.bool false,af.bool false,af.bool false,af.bool false,af.bool false,af.bool false,af.bool false,af.bool false,af.bool false,af.bool false,af.bool false,af.bool false,af.bool false,af.bool false,af.bool false,af.bool false,af.bool false,af.bool false,af.bool false,af.bool false,af.bool false,af.bool false,af.bool false,af.bool false,af.bool false,af.bool false,af.bool false,af.bool false,af.bool false,af.bool false,af.bool false,af.bool false,af.bool false,af.bool false,af.bool false,af.bool false,af.bool false,af.bool false,af.bool false,af.bool false,af.bool false,af.bool false,af.bool false,af.bool false,af.bool false,af.bool false,af.bool false,af.bool false,af.bool false,af.bool false,af.bool false,af.bool false,af.bool false,af.bool false,af.bool false,af.bool false,af.bool false,af.bool false,af.bool false,af.bool false,af.bool false,af.bool false,af.bool false,af.bool false,af.bool false,af.bool false,af.bool false,af.bool false,af.bool false,af.bool false,af.bool false,af.bool false,af.bool false,af.bool false,af.bool false,af.bool false,af.bool false,af.bool false,af.bool false,af.bool false,af.bool false,af.bool false,af.bool false,af.bool false,af.bool false,af.bool false,af.bool false,af.bool false,af.bool false,af.bool false,af.bool false,af.bool false,af.bool false,af.bool false,af.bool false,af.bool false,af.bool false,af.bool false,af.bool false,af.bool false,af.bool false,af.bool false,af.bool false,af.bool false,af.bool false,af.bool false,af.bool false,af.bool false,af.bool false,af.bool false,af.bool false,af.bool false,af.bool false,af.bool false,af.bool false,af.bool false,af.bool false,af.bool false,af.bool false,af.bool false,af.bool false,af.bool false,af.bool false,af.bool false,af.bool false,af.bool false,af.bool false,af.bool false,af.bool false,af.bool false,af.bool false,af.bool false,af.bool false,af.bool false,af.bool false,af.bool false,af.bool false,af.bool false,af.bool false,af.bool false,af.bool false,af.bool false,af.bool false,af.bool false,af.bool false,af.bool false,af.bool false,af.bool false,af.bool false,af.bool false,af.bool false,af.bool false,af.bool false,af.bool false,af.bool false,af.bool false,af.bool false,af.bool false,af.bool false,af.bool false,af.bool false,af.bool false,af.bool false,af.bool false,af.bool false,af.bool false,af.bool false,af.bool false,af.bool false,af.bool false,af.bool false,af.bool false,af.bool false,af.bool false,af.bool false,af.bool false,af.bool false,af.bool false,af.bool false,af.bool false,af.bool false,af.bool false,af.bool false,af.bool false,af.bool false,af.bool false,af.bool false,af.bool false,af.bool false,af.bool false,af.bool false,af.bool false,af.bool false,af.bool false,af.bool false,af.bool false,af.bool false,af.bool false,af.bool false,af.bool false,af.bool false,af.bool false,af.bool false,af.bool false,af.bool false,af.bool false,af.bool false,af.bool false,af.bool false,af.bool false,af.bool false,af.bool false,af.bool false,af.bool false,af.bool false,af.bool false,af.bool false,af.bool false,af.bool false,af.bool false,af.bool false,af.bool false,af.bool false,af.bool false,af.bool false,af.bool false,af.bool false,af.bool false,af.bool false,af.bool false,af.bool false,af.bool false,af.bool false,af.bool false,af.bool false,af.bool false,af.bool false,af.bool false,af.bool false,af.bool false,af.bool false,af.bool false,af.bool false,af.bool false,af.bool false,af.bool false,af.bool false]/\
 hS prog 199=true/\
 mE prog 207=some (eQ.s,4)/\
 tk prog 212=bZ.agg 2/\
 ea prog 212=some (az.agg [af.str [],af.str []])/\
 zeroOf prog 212=some [af.str [],af.str []]/\
 mT prog 212=some 32/\
 lv prog 212=some ([af.str [],af.str []],[(0,1),(1,1)])/\
 hS prog 212=true/\
 fieldAt prog 212 0=some (0,bZ.one)/\
 fieldAt prog 212 1=some (1,bZ.one):=by refine⟨?_,?_,?_,?_,?_,?_,?_,?_,?_,?_,?_,?_,?_,?_⟩<;>kernel_rfl
@[simp]def zIM:mE prog 216=some (eQ.i i64,94)/\
 tk prog 257=bZ.one/\
 lv prog 259=some ([af.nil,af.int i64 0,af.int i64 0,af.str [],af.str [],af.int i64 0,af.str [],af.nil,af.nil,af.int i64 0,af.str []],[(0,1),(1,1),(2,7),(9,1),(10,1)])/\
 fieldAt prog 259 0=some (0,bZ.one)/\
 fieldAt prog 259 1=some (1,bZ.one)/\
 fieldAt prog 259 2=some (2,bZ.agg 7)/\
 fieldAt prog 259 3=some (9,bZ.one)/\
 fieldAt prog 259 4=some (10,bZ.one)/\
 tk prog 295=bZ.one/\
 lv prog 321=some ([af.str [],af.int i64 0,af.str [],af.str [],af.str [],af.str [],af.str [],af.bool false,af.str [],af.bool false],[(0,1),(1,1),(2,8)])/\
 fieldAt prog 321 0=some (0,bZ.one)/\
 fieldAt prog 321 1=some (1,bZ.one)/\
 fieldAt prog 321 2=some (2,bZ.agg 8)/\
 tk prog 333=bZ.agg 6:=by refine⟨?_,?_,?_,?_,?_,?_,?_,?_,?_,?_,?_,?_,?_,?_⟩<;>kernel_rfl
@[simp]def zIN:ea prog 333=some (az.agg [af.int i64 0,af.int i64 0,af.int i64 0,af.int i64 0,af.int i64 0,af.int i64 0])/\
 zeroOf prog 333=some [af.int i64 0,af.int i64 0,af.int i64 0,af.int i64 0,af.int i64 0,af.int i64 0]/\
 lv prog 333=some ([af.int i64 0,af.int i64 0,af.int i64 0,af.int i64 0,af.int i64 0,af.int i64 0],[(0,1),(1,1),(2,1),(3,1),(4,1),(5,1)])/\
 hS prog 333=true/\
 fieldAt prog 333 0=some (0,bZ.one)/\
 fieldAt prog 333 1=some (1,bZ.one)/\
 fieldAt prog 333 2=some (2,bZ.one)/\
 fieldAt prog 333 3=some (3,bZ.one)/\
 fieldAt prog 333 4=some (4,bZ.one)/\
 fieldAt prog 333 5=some (5,bZ.one):=by refine⟨?_,?_,?_,?_,?_,?_,?_,?_,?_,?_⟩<;>kernel_rfl
end Go.Proofs.YtaalfcghmjkaeaaGreatDoor
namespace Go.Proofs.YtaalfcghmjkaeaaGreatDoor
open Go Go.Proofs.Tryz
set_option maxRecDepth 100000
def ziM:Go.Shelf.Ren:=⟨iF [(106,63),(213,109),(265,177)],iF [(3,3),(9,9)],fun x=>x⟩
def zfQ:Go.Proofs.Lays.n106 prog ziM where
 mixed:=by kernel_rfl
 f106:=bJ func63
 f213:=bJ func109
 f265:=bJ func177
 t3:=underlying3
 a3:=isAgg3
 z3:=sizeOf3
 v3:=zeroValue3
 t9:=underlying9
 a9:=isAgg9
 z9:=sizeOf9
 v9:=zeroValue9
def ziN:Go.Shelf.Ren:=⟨iF [(119,223),(120,227),(137,172),(151,179),(152,174),(160,64),(197,178),(217,222),(224,224),(225,225),(227,112),(228,176),(231,110),(232,111),(233,113),(234,114),(235,115),(236,116),(260,226),(266,273),(271,180)],iF [(0,0),(3,3),(4,4),(5,5),(9,9),(21,21),(46,180),(105,254),(116,199),(117,200),(119,327),(124,203),(138,329),(139,330)],iF [(3,1),(4,2)]⟩
def VX:Go.Proofs.Lays.n160 prog ziN where
 mixed:=by kernel_rfl
 f119:=bJ func223
 f120:=bJ func227
 f137:=bJ func172
 f151:=bJ func179
 f152:=bJ func174
 f160:=bJ func64
 f197:=bJ func178
 f217:=bJ func222
 f224:=bJ func224
 f225:=bJ func225
 f227:=bJ func112
 f228:=bJ func176
 f231:=bJ func110
 f232:=bJ func111
 f233:=bJ func113
 f234:=bJ func114
 f235:=bJ func115
 f236:=bJ func116
 f260:=bJ func226
 f266:=bJ func273
 f271:=bJ func180
 t0:=underlying0
 a0:=isAgg0
 z0:=sizeOf0
 v0:=zeroValue0
 t3:=underlying3
 a3:=isAgg3
 z3:=sizeOf3
 v3:=zeroValue3
 t4:=underlying4
 a4:=isAgg4
 z4:=sizeOf4
 v4:=zeroValue4
 t5:=underlying5
 a5:=isAgg5
 z5:=sizeOf5
 v5:=zeroValue5
 t9:=underlying9
 a9:=isAgg9
 z9:=sizeOf9
 v9:=zeroValue9
 t21:=underlying21
 a21:=isAgg21
 z21:=sizeOf21
 v21:=zeroValue21
 t46:=underlying180
 a46:=isAgg180
 z46:=sizeOf180
 v46:=zeroValue180
 t105:=underlying254
 a105:=isAgg254
 z105:=sizeOf254
 v105:=zeroValue254
 t116:=underlying199
 a116:=isAgg199
 z116:=sizeOf199
 t117:=underlying200
 a117:=isAgg200
 z117:=sizeOf200
 v117:=zeroValue200
 t119:=underlying327
 a119:=isAgg327
 z119:=sizeOf327
 t124:=underlying203
 a124:=isAgg203
 z124:=sizeOf203
 v124:=zeroValue203
 t138:=underlying329
 a138:=isAgg329
 z138:=sizeOf329
 v138:=zeroValue329
 t139:=underlying330
 a139:=isAgg330
 z139:=sizeOf330
 v139:=zeroValue330
 g3:=by kernel_rfl
 g4:=by kernel_rfl
end Go.Proofs.YtaalfcghmjkaeaaGreatDoor
namespace Go.Proofs.YtaalfcghmjkaeaaGreatDoor
open Go Go.Ab Go.Proofs.Tryz Go.IntKind
variable [bf]
set_option maxRecDepth 100000
set_option maxHeartbeats 4000000
def mixed:prog.follows .mixedOrders=true:=by kernel_rfl
def bk(n:Int)(h:-9223372036854775808<=n/\n<=9223372036854775807):i64.wrap n=n:=IntWalk.i64_in n h
section
variable {α:Type}{p:α->Bool}{l:List α}{i:Nat}
def C4(aq:i<l.length)(h:p l[i]=false):l.all p=false:=by rw[List.all_eq_false];exact⟨l[i],jN aq,by simp[h]⟩
def gF(p:α->Bool)(l:List α)(i:Nat):Prop:=i<=l.length/\(l.take i).all p=true
def gF.zero:gF p l 0:=⟨cd _,by simp⟩
def gF.step(h:gF p l i)(aq:i<l.length)(ak:p l[i]=true):gF p l (i+1):=by refine⟨aq,?_⟩;rw[C5,cn aq];simp only[Option.toList,tL,h.2,qW,ak,List.all_nil,Bool.and_self]
def gF.done(h:gF p l i)(k':¬i<l.length):l.all p=true:=by have:=h.2;rwa[iv (by omega)]at this
end
def gV(aK ai n:Int):Bool:=decide (aK<=n)&&decide (n<=ai)
def xZ(b:UInt8):Bool:=decide (33<=b.toNat)&&decide (b.toNat<=126)
def Af(l:List UInt8):Bool:=l.all xZ
def vU(l:List UInt8)(e_:Int):Bool:=Af l&&gV 1 e_ l.length
def k2(l:List UInt8):Bool:=vU l 2000
def hV(n:Int):Bool:=gV 0 253402300799 n
def Gm(x a b:Int):aD prog 103 [.one (.int .i64 x),.one (.int .i64 a),.one (.int .i64 b)] (.x (.one (.bool (gV a b x)))):=by refine aD.a6 f103 mixed fun aE=>?_;simp[gV]
def C6(x:Int):aD prog 11 [.one (.int .i64 x)] (.x (.one (.bool (hV x)))):=by refine aD.a6 f11 mixed fun aE=>?_;simp[hV,gV]
def VP{b:UInt8}(h:((b.toNat:Nat):Int)<33\/126<((b.toNat:Nat):Int)):xZ b=false:=by unfold xZ;rcases h with h|h<;>simp<;>omega
def VQ{b:UInt8}(aa:33<=((b.toNat:Nat):Int))(ab:((b.toNat:Nat):Int)<=126):xZ b=true:=by unfold xZ;simp;omega
def isKey(l:List UInt8):aD prog 20 [.one (.str l)] (.x (.one (.bool (k2 l)))):=by
 refine aD.a6 f20 mixed fun aE=>?_;have al:l.length<=maxLen:=by simpa[az.ok,af.ok]using aE
 simp-implicitDefEqProofs;refine cI.of Nat (fun i=>[(0,.x (.one (.str l))),(5,.x (.one (.int .i64 l.length))),(6,.x (.one (.int .i64 i)))]) (gF xZ l) (fun i=>l.length-i) 0 gF.zero ?_ ?_
 ·simp
 intro i ai;by_cases aq:i<l.length
 ·simp-implicitDefEqProofs[aq];refine⟨fun h=>?_,fun aa ab=>bI.of (i+1) (ai.step aq (VQ (by omega) (by omega))) (by omega) ?_⟩
  ·simp[k2,vU,Af,C4 aq (VP h)]
  ·simp;exact bk _ (by unfold maxLen at al;omega)
 ·simp-implicitDefEqProofs[aq];simp[k2,vU,Af,ai.done aq,gV]
def isWord(l:List UInt8)(e_:Int):aD prog 118 [.one (.str l),.one (.int .i64 e_)] (.x (.one (.bool (vU l e_)))):=by
 refine aD.a6 f118 mixed fun aE=>?_;have al:l.length<=maxLen:=by simpa[az.ok,af.ok]using aE _ (kl)
 simp-implicitDefEqProofs;refine cI.of Nat (fun i=>[(0,.x (.one (.str l))),(1,.x (.one (.int .i64 e_))),(7,.x (.one (.int .i64 l.length))),(8,.x (.one (.int .i64 i)))]) (gF xZ l) (fun i=>l.length-i) 0 gF.zero ?_ ?_
 ·simp
 intro i ai;by_cases aq:i<l.length
 ·simp-implicitDefEqProofs[aq];refine⟨fun h=>?_,fun aa ab=>bI.of (i+1) (ai.step aq (VQ (by omega) (by omega))) (by omega) ?_⟩
  ·simp[vU,Af,C4 aq (VP h)]
  ·simp;exact bk _ (by unfold maxLen at al;omega)
 ·simp-implicitDefEqProofs[aq];refine aA.of (Gm _ _ _) ?_;simp[vU,Af,ai.done aq]
def Pc:∀(a b:List UInt8),Lib.compareBytes a b=if eB a b=true then -1 else if a=b then 0 else 1
 |[],[]=>by simp[Lib.compareBytes,eB,Op.bytesLess]
 |[],_::_=>by simp[Lib.compareBytes,eB,Op.bytesLess]
 |_::_,[]=>by simp[Lib.compareBytes,eB,Op.bytesLess]
 |a::x,b::y=>by
  have aX:=Pc x y;unfold eB at aX;simp only[Lib.compareBytes,eB,Op.bytesLess];by_cases aa:a<b
  ·simp[aa]
  ·by_cases ab:b<a
   ·have Ag:a≠b:=fun e=>aa (e▸ab);simp[aa,ab,Ag]
   ·have Ag:a=b:=UInt8.le_antisymm (UInt8.not_lt.1 ab) (UInt8.not_lt.1 aa);subst Ag;simp[aa,aX]
def iR(a b:Int):Int:=if a<b then -1 else if b<a then 1 else 0
def strings_Compare(a b:List UInt8):aD prog 63 [.one (.str a),.one (.str b)] (.x (.one (.int .i64 (Lib.compareBytes a b)))):=by refine aD.C2 [.string ⟨a.toArray⟩,.string ⟨b.toArray⟩] _ (nc f63 (by kernel_rfl) (by kernel_rfl) rfl) rfl (fun _ _=>O7 _ _) (fun aE w=>?_);refine(Any.strings_Compare zfQ ⟨a.toArray⟩ ⟨b.toArray⟩ w).mono ?_;rintro e w' ⟨rfl,rfl⟩;exact⟨rfl,RowKit.Below.refl _ _⟩
def isNaN(a:Int):aD prog 108 [.one (.int .i64 a)] (.x (.one (.bool false))):=by refine aD.a6 f108 mixed fun aE=>?_;simp-implicitDefEqProofs
def Gn(a b:Int):aD prog 62 [.one (.int .i64 a),.one (.int .i64 b)] (.x (.one (.int .i64 (iR a b)))):=by
 refine aD.a6 f62 mixed fun aE=>?_;simp-implicitDefEqProofs;refine aA.of (isNaN _) ?_;simp-implicitDefEqProofs;refine aA.of (isNaN _) ?_;simp-implicitDefEqProofs;refine⟨fun h=>?_,fun h=>⟨fun ab=>?_,fun ab=>?_⟩⟩<;>unfold iR
 ·rw[aC h]
 ·rw[au (by omega),aC ab]
 ·rw[au (by omega),au (by omega)]
end Go.Proofs.YtaalfcghmjkaeaaGreatDoor
namespace Go.Proofs.YtaalfcghmjkaeaaGreatDoor
open Go Go.Ab Go.Proofs.Tryz Go.IntKind
variable [bf]
set_option maxRecDepth 100000
set_option maxHeartbeats 4000000
def Gv(l cs:List UInt8):(Lib.trimS l cs=[])↔l.all (cs.contains ·)=true:=by
 have Kj:∀(l:List UInt8),l.dropWhile (cs.contains ·)=[]↔l.all (cs.contains ·)=true:=by
  intro l;induction l with
  |nil=>simp
  |cons a l aX=>
   by_cases h:cs.contains a=true
   ·rw[Pg h,aX];simp only[qW,h,kL]
   ·rw[Ph h];simp only[qW,h,kq];simp
 have dE:∀(l:List UInt8),l.reverse.all (cs.contains ·)=l.all (cs.contains ·):=by intro l;rw[List.all_reverse]
 unfold Lib.trimS Lib.trimLeftS Lib.trimRightS;rw[Kj,dE];have:∀(m:List UInt8),(m.dropWhile (cs.contains ·)).all (cs.contains ·)=m.all (cs.contains ·):=by
  intro m;induction m with
  |nil=>rfl
  |cons a m aX=>
   by_cases h:cs.contains a=true
   ·rw[Pg h,aX];simp only[qW,h,kL]
   ·rw[Ph h]
 rw[this,dE]
def VW(l cs:List UInt8):(Lib.trimS l cs).length<=l.length:=by have Kj:∀(m:List UInt8),(m.dropWhile (cs.contains ·)).length<=m.length:=fun m=>(List.dropWhile_sublist _).length_le;unfold Lib.trimS Lib.trimLeftS Lib.trimRightS;have aa:=Kj (List.dropWhile (fun x=>cs.contains x) l.reverse).reverse;have ab:=Kj l.reverse;simp only[List.length_reverse]at aa ab;omega
def x4(l cs:List UInt8)(h:cs.all (fun b=>decide (b.toNat<128))=true)(ab:cs.length<1000):aD prog 64 [.one (.str l),.one (.str cs)] (.x (.one (.str (Lib.trimS l cs)))):=by
 by_cases al:l.length<=maxLen
 ·refine aD.C2 [.string ⟨l.toArray⟩,.string ⟨cs.toArray⟩] _ (nc f64 (by kernel_rfl) (by kernel_rfl) rfl) rfl (fun _ _=>O8 _ (iJ (VW l cs) al)) (fun aE w=>?_);have hm:maxLen<=9223372036854775807:=by decide
  exact Any.strings_Trim_laid VX (by kernel_rfl) ⟨l.toArray⟩ ⟨cs.toArray⟩ w (by simp only[ByteArray.size,lS];omega) (by simp only[ByteArray.size,lS];omega) (Go.Proofs.ascii_of_all h)
 ·refine⟨nc f64 (by kernel_rfl) (by kernel_rfl) rfl,fun w S vs bW bj=>?_⟩;exact absurd (by simpa[az.ok,af.ok]using O6 bj _ (kl)) al
def vY:List UInt8:=[48,49,50,51,52,53,54,55,56,57,97,98,99,100,101,102]
def Gw:List UInt8:=[97,98,99,100,101,102,103,104,105,106,107,108,109,110,111,112,113,114,115,116,117,118,119,120,121,122,48,49,50,51,52,53,54,55,56,57,45]
def De(b:UInt8):Bool:=gV 48 57 b.toNat ||gV 97 102 b.toNat
def Pj(b:UInt8):Bool:=gV 97 122 b.toNat
def Gx(b:UInt8):Bool:=Pj b ||(b.toNat==45) ||gV 48 57 b.toNat
def VY:∀b:UInt8,vY.contains b=De b:=by
 intro b;have:∀n:Fin 256,vY.contains (UInt8.ofNat n.val)=De (UInt8.ofNat n.val):=by decide +kernel
 have h:=this ⟨b.toNat,b.toNat_lt⟩;simpa using h
def zgc:∀b:UInt8,Gw.contains b=Gx b:=by
 intro b;have:∀n:Fin 256,Gw.contains (UInt8.ofNat n.val)=Gx (UInt8.ofNat n.val):=by decide +kernel
 have h:=this ⟨b.toNat,b.toNat_lt⟩;simpa using h
def Al(l:List UInt8):Bool:=l.all De&&(l.length==16)
def ng(l:List UInt8):Bool:=l.all Gx&&(Pj (l[0]?.getD 0)&&gV 1 40 l.length)
def isName(l:List UInt8):aD prog 35 [.one (.str l)] (.x (.one (.bool (ng l)))):=by
 refine aD.a6 f35 mixed fun aE=>?_;have e:=Gv l Gw;simp only[zgc]at e;simp-implicitDefEqProofs +contextual[-Bool.and_eq_false_imp,cJ];refine⟨fun h _=>by omega,fun h _ _=>by omega,bp.of (fun _=>x4 l Gw (by decide) (by decide)) rfl ?_⟩;simp-implicitDefEqProofs +contextual[-Bool.and_eq_false_imp,cJ];unfold ng Pj gV;generalize ((l[0]?.getD 0).toNat:Int)=n;by_cases h:Lib.trimS l Gw=[]
 ·rw[e.1 h,h];rw[q4];simp;omega
 ·have:(l.all Gx)=false:=by
   cases ae:l.all Gx with
   |true=>exact absurd (e.2 ae) h
   |false=>rfl
  rw[this];simp[h]
structure Entry where
 key:List UInt8
 time:Int
 status:Int
 type:List UInt8
 hX:List UInt8
 file:List UInt8
 aK:Int
 ai:Int
 same:Bool
 deriving DecidableEq
def Entry.row(e:Entry):List af:=[.str e.key,.int .i64 e.time,.int .i64 e.status,.str e.type,.str e.hX,.str e.file,.int .i64 e.aK,.int .i64 e.ai,.bool e.same]
def PE(n:Int):List af:=[.int .i64 n]
def ky:List Int->Int
 |[]=>0
 |a::r=>if a=0 then ky r else a
def Wp:∀{l:List Int} {i:Nat},(l.take i).all (·==0)=true->(h:i<l.length)->l[i]≠0->ky l=l[i]
 |a::r,0,_,_,aT=>by simp[ky]at aT⊢;intro h;exact absurd h aT
 |a::r,i+1,ak,h,aT=>by simp only[BA,qW,b4,fB]at ak;simp only[ky,ak.1,hB,List.getElem_cons_succ];exact Wp ak.2 (by simpa using h) (by simpa using aT)
def Wq:∀{l:List Int},l.all (·==0)=true->ky l=0
 |[],_=>rfl
 |a::r,ak=>by simp only[qW,b4,fB]at ak;simp only[ky,ak.1,hB];exact Wq ak.2
def cmpL(a b:Entry):List Int:=[Lib.compareBytes a.key b.key,iR a.time b.time,Lib.compareBytes a.file b.file,iR a.aK b.aK]
def GK(a b:Entry):Int:=ky (cmpL a b)
def KA(l:List Int):aD prog 61 [.one (.list 1 (l.map PE))] (.x (.one (.int .i64 (ky l)))):=by
 refine aD.a6 f61 mixed fun aE=>?_;have al:l.length<=maxLen:=by have:=aE _ kl;simp[az.ok,af.ok]at this;exact this.1
 simp-implicitDefEqProofs +contextual[-Bool.and_eq_false_imp];refine cI.of Nat (fun i=>[(3,.x (.one (.int .i64 0))),(6,.x (.one (.list 1 (l.map PE)))),(7,.x (.one (.int .i64 l.length))),(8,.x (.one (.int .i64 i)))]) (gF (·==0) l) (fun i=>l.length-i) 0 gF.zero ?_ ?_
 ·simp
 intro i ai;by_cases aq:i<l.length
 ·simp-implicitDefEqProofs +contextual[-Bool.and_eq_false_imp,aq,PE];refine⟨fun h=>Wp ai.2 aq h,fun h=>bI.of (i+1) (ai.step aq (by simp[h])) (by omega) ?_⟩;simp;exact bk _ (by unfold maxLen at al;omega)
 ·simp-implicitDefEqProofs +contextual[-Bool.and_eq_false_imp,aq];exact Wq (ai.done aq)
def zgL(a b:Entry):aD prog 67 [.agg a.row,.agg b.row] (.x (.one (.int .i64 (GK a b)))):=by refine aD.a6 f67 mixed fun aE=>?_;simp-implicitDefEqProofs +contextual[-Bool.and_eq_false_imp,Entry.row];refine aA.of (strings_Compare _ _) ?_;simp-implicitDefEqProofs +contextual[-Bool.and_eq_false_imp];refine aA.of (Gn _ _) ?_;simp-implicitDefEqProofs +contextual[-Bool.and_eq_false_imp];refine aA.of (strings_Compare _ _) ?_;simp-implicitDefEqProofs +contextual[-Bool.and_eq_false_imp];refine aA.of (Gn _ _) ?_;simp-implicitDefEqProofs +contextual[-Bool.and_eq_false_imp];refine aA.of (KA (cmpL a b)) ?_;simp-implicitDefEqProofs +contextual[-Bool.and_eq_false_imp];rfl
def sX(e:Entry):Int:=
 if k2 e.key=false then 3
 else if hV e.time=false\/(e.status≠0/\gV 100 599 e.status=false)then 1
 else if e.type≠[]/\vU e.type 40=false then 3
 else if Al e.hX=false then 3
 else if ng e.file=false then 5
 else if gV 0 500000 e.aK=false\/gV e.aK 500000 e.ai=false then 1
 else 0
def zhC(l:List UInt8):(Al l=false)↔(l.length≠16\/Lib.trimS l vY≠[]):=by
 have e:=Gv l vY;simp only[VY]at e;unfold Al;cases ae:l.all De with
 |true=>simp[e.2 ae]
 |false=>
  have:Lib.trimS l vY≠[]:=fun h=>by rw[e.1 h]at ae;cases ae
  simp[this]
def zhD(e:Entry):aD prog 66 [.agg e.row] (.x (.one (.int .i64 (sX e)))):=by
 refine aD.a6 f66 mixed fun aE=>?_;have sY:=zhC e.hX;generalize bc:sX e=F;unfold sX at bc;simp-implicitDefEqProofs +contextual[-Bool.and_eq_false_imp,Entry.row];refine aA.of (isKey _) ?_;simp-implicitDefEqProofs +contextual[-Bool.and_eq_false_imp];refine⟨fun h=>?_,fun aa=>?_⟩
 ·rw[<-bc,aC h]
 rw[au (by simp[aa])]at bc;refine aA.of (C6 _) ?_;simp-implicitDefEqProofs +contextual[-Bool.and_eq_false_imp];refine bp.of (fun _=>Gm _ _ _) rfl ?_;simp-implicitDefEqProofs +contextual[-Bool.and_eq_false_imp,cJ];refine⟨fun h=>?_,fun ab ar=>bp.of (fun _=>isWord _ _) rfl ?_⟩
 ·rw[<-bc,aC h]
 rw[au (by simp[ab];exact fun a=>ar.resolve_left a)]at bc;simp-implicitDefEqProofs +contextual[-Bool.and_eq_false_imp,cJ];refine⟨fun aN bD=>?_,fun aN=>bp.of (fun _=>x4 _ vY (by decide) (by decide)) rfl ?_⟩
 ·rw[<-bc,aC ⟨aN,bD⟩]
 rw[au (by rintro⟨a,b⟩;rcases aN with aN|aN<;>simp_all)]at bc;simp-implicitDefEqProofs +contextual[-Bool.and_eq_false_imp];have Ax:((e.hX.length:Int)=16)↔(e.hX.length=16):=by omega
 refine⟨fun h=>?_,fun bD b9=>aA.of (isName _) ?_⟩
 ·rw[<-bc,aC (sY.2 (by rcases h with h|h;exact .inl (fun a=>h (Ax.2 a));exact .inr h))]
 rw[au (fun h=>by rcases sY.1 h with h|h;exact h (Ax.1 bD);exact h b9)]at bc;simp-implicitDefEqProofs +contextual[-Bool.and_eq_false_imp];refine⟨fun h=>?_,fun dw=>aA.of (Gm _ _ _) ?_⟩
 ·rw[<-bc,aC h]
 rw[au (by simp[dw])]at bc;simp-implicitDefEqProofs +contextual[-Bool.and_eq_false_imp];refine bp.of (fun _=>Gm _ _ _) rfl ?_;simp-implicitDefEqProofs +contextual[-Bool.and_eq_false_imp];refine⟨fun h=>?_,fun d8 hN=>?_⟩
 ·rw[<-bc,aC h]
 ·rw[<-bc,au (by simp[d8,hN])]
def n6:Option Entry->List Entry->Int
 |_,[]=>0
 |none,e::r=>if sX e=0 then n6 (some e) r else sX e
 |some q,e::r=>if sX e=0 then (if 0<GK q e then 8 else if GK q e=0 then 7 else n6 (some e) r)else sX e
def lK(l:List Entry):Int:=if 3000<l.length then 2 else n6 none l
def prev(l:List Entry)(i:Nat):Option Entry:=if i=0 then none else l[i-1]?
def yh(l:List Entry)(i:Nat):Prop:=i<=l.length/\n6 none l=n6 (prev l i) (l.drop i)
def yh.zero{l:List Entry}:yh l 0:=⟨cd _,rfl⟩
def yh.at{l:List Entry}{i:Nat}(h:yh l i)(aq:i<l.length):n6 none l=n6 (prev l i) (l[i]::l.drop (i+1)):=by rw[h.2,g' aq]
def WT{l:List Entry}{i:Nat}(aq:i<l.length):prev l (i+1)=some l[i]:=by simp[prev,aq]
def yh.done{l:List Entry}{i:Nat}(h:yh l i)(k':¬i<l.length):n6 none l=0:=by rw[h.2,kf (by omega)];cases prev l i<;>rfl
def WU(l:List Entry):aD prog 38 [.one (.list 9 (l.map Entry.row))] (.x (.one (.int .i64 (lK l)))):=by
 refine aD.a6 f38 mixed fun aE=>?_;simp-implicitDefEqProofs +contextual[-Bool.and_eq_false_imp];refine⟨fun h=>?_,fun h=>?_⟩
 ·unfold lK;rw[aC (by omega)]
 have aH:lK l=n6 none l:=by unfold lK;rw[au (by omega)]
 rw[aH];refine cI.of Nat (fun i=>[(0,.x (.one (.list 9 (l.map Entry.row)))),(10,.x (.one (.list 9 (l.map Entry.row)))),(11,.x (.one (.int .i64 l.length))),(12,.x (.one (.int .i64 i)))]) (yh l) (fun i=>l.length-i) 0 yh.zero ?_ ?_
 ·simp
 intro i ai;by_cases aq:i<l.length
 ·have bO:=ai.at aq;simp-implicitDefEqProofs +contextual[-Bool.and_eq_false_imp,aq,Entry.row];refine aA.of (zhD l[i]) ?_;simp-implicitDefEqProofs +contextual[-Bool.and_eq_false_imp];refine⟨fun ay=>?_,fun ay=>⟨fun ke=>?_,fun aY=>?_⟩⟩
  ·rw[bO];unfold n6;cases prev l i<;>simp[ay]
  ·have hw:i64.wrap ((i:Int)-1)=((i-1:Nat):Int):=by rw[bk _ (by omega)];omega
   have DA:i-1<l.length:=by omega
   have ak:prev l i=some l[i-1]:=by simp[prev,DA];omega
   rw[ak]at bO;simp only[n6,ay,hB]at bO;simp-implicitDefEqProofs +contextual[-Bool.and_eq_false_imp,hw,DA,Entry.row];refine aA.of (zgL l[i-1] l[i]) ?_;simp-implicitDefEqProofs +contextual[-Bool.and_eq_false_imp];refine⟨fun aa=>?_,fun aa=>⟨fun ab=>?_,fun ab=>?_⟩⟩
   ·rw[bO,aC aa]
   ·rw[bO,au (by omega),aC ab]
   ·rw[au (by omega),au ab]at bO;refine bI.of (i+1) ⟨aq,by rw[bO,WT aq]⟩ (by omega) ?_;simp;exact bk _ (by omega)
  ·subst aY;refine bI.of 1 ⟨aq,?_⟩ (by omega) ?_
   ·rw[bO,WT aq];simp[prev,n6,ay]
   ·simp;exact bk _ (by omega)
 ·simp-implicitDefEqProofs[aq];exact ai.done aq
section
variable (e:Entry)
@[simp]def zIs:e.row.length=9:=rfl
@[simp]def zIt:List.take 9 e.row=e.row:=rfl
@[simp]def zIu(z:Option az)(p:Prop):tr .one z p e.row=(p,.x (.one (.str e.key))):=rfl
@[simp]def zIv:e.row.tail=[.int .i64 e.time,.int .i64 e.status,.str e.type,.str e.hX,.str e.file,.int .i64 e.aK,.int .i64 e.ai,.bool e.same]:=rfl
end
@[simp]def zIw{α β:Type}(f:α->β)(l:List α)(a b:Int):cutAt (l.map f) a b=(cutAt l a b).map f:=by simp[cutAt]
@[simp]def zIx{α:Type}(l:List α)(a:Int):cutAt l a (l.length:Int)=l.drop a.toNat:=by simp[cutAt]
@[simp]def zIy{α:Type}(l:List α)(b:Int):cutAt l 0 b=l.take b.toNat:=by simp[cutAt]
abbrev entries(l:List Entry):az:=.one (.list 9 (l.map Entry.row))
def hH(s p:List UInt8):Bool:=p.isPrefixOf s
def stringslite_HasPrefix(s p:List UInt8):aD prog 139 [.one (.str s),.one (.str p)] (.x (.one (.bool (hH s p)))):=by
 refine aD.a6 f139 mixed fun aE=>?_;simp-implicitDefEqProofs +contextual[-Bool.and_eq_false_imp];have h:(p.isPrefixOf s=true)↔p=s.take p.length:=by rw[As,List.prefix_iff_eq_take]
 unfold hH;rw[q4,h];simp;constructor
 ·intro e;refine⟨?_,e.symm⟩;have:=mH List.length e;rw[d']at this;omega
 ·intro e;exact e.2.symm
def strings_HasPrefix(s p:List UInt8):aD prog 80 [.one (.str s),.one (.str p)] (.x (.one (.bool (hH s p)))):=by refine aD.a6 f80 mixed fun aE=>?_;simp-implicitDefEqProofs +contextual[-Bool.and_eq_false_imp];refine aA.of (stringslite_HasPrefix _ _) ?_;simp-implicitDefEqProofs +contextual[-Bool.and_eq_false_imp]
end Go.Proofs.YtaalfcghmjkaeaaGreatDoor
namespace Go.Proofs.YtaalfcghmjkaeaaGreatDoor
open Go Go.Ab Go.Proofs.Tryz Go.IntKind
variable [bf]
set_option maxRecDepth 100000
set_option maxHeartbeats 4000000
def WZ{l:List Entry}(h:lK l=0):l.length<=3000:=by
 unfold lK at h;split at h
 ·cases h
 ·omega
end Go.Proofs.YtaalfcghmjkaeaaGreatDoor
namespace Go.Proofs.YtaalfcghmjkaeaaGreatDoor
open Go Go.Proofs.Tryz
set_option maxRecDepth 100000
def ziP:Go.Shelf.Ren:=⟨iF [(129,153),(171,187),(243,244),(246,279),(283,297),(284,298),(285,299),(286,300),(317,308),(318,309),(319,310),(320,311),(337,314),(338,315)],iF [(0,0),(2,2),(3,3),(4,4),(5,5),(9,9),(20,20),(37,54),(46,180),(51,242),(53,127),(171,350),(173,352),(212,362),(213,363),(232,367),(233,368)],iF [(17,5),(18,6),(19,7)]⟩
def ziQ:Go.Proofs.LaysM.n171 prog ziP where
 i0:=by kernel_rfl
 i2:=by kernel_rfl
 i3:=by kernel_rfl
 i4:=by kernel_rfl
 i5:=by kernel_rfl
 i9:=by kernel_rfl
 i20:=by kernel_rfl
 i37:=by kernel_rfl
 i46:=by kernel_rfl
 i51:=by kernel_rfl
 i53:=by kernel_rfl
 i171:=by kernel_rfl
 i173:=by kernel_rfl
 i212:=by kernel_rfl
 i232:=by kernel_rfl
 i233:=by kernel_rfl
 m17:=by kernel_rfl
 m18:=by kernel_rfl
 m19:=by kernel_rfl
 mixed:=by kernel_rfl
 f129:=bJ func153
 f171:=bJ func187
 f243:=bJ func244
 f246:=bJ func279
 f283:=bJ func297
 f284:=bJ func298
 f285:=bJ func299
 f286:=bJ func300
 f317:=bJ func308
 f318:=bJ func309
 f319:=bJ func310
 f320:=bJ func311
 f337:=bJ func314
 f338:=bJ func315
 t0:=underlying0
 a0:=isAgg0
 z0:=sizeOf0
 v0:=zeroValue0
 t2:=underlying2
 a2:=isAgg2
 z2:=sizeOf2
 v2:=zeroValue2
 t3:=underlying3
 a3:=isAgg3
 z3:=sizeOf3
 v3:=zeroValue3
 t4:=underlying4
 a4:=isAgg4
 z4:=sizeOf4
 v4:=zeroValue4
 t5:=underlying5
 a5:=isAgg5
 z5:=sizeOf5
 v5:=zeroValue5
 t9:=underlying9
 a9:=isAgg9
 z9:=sizeOf9
 v9:=zeroValue9
 t20:=underlying20
 a20:=isAgg20
 z20:=sizeOf20
 v20:=zeroValue20
 t37:=underlying54
 a37:=isAgg54
 z37:=sizeOf54
 v37:=zeroValue54
 t46:=underlying180
 a46:=isAgg180
 z46:=sizeOf180
 v46:=zeroValue180
 t51:=underlying242
 a51:=isAgg242
 z51:=sizeOf242
 v51:=zeroValue242
 t53:=underlying127
 a53:=isAgg127
 z53:=sizeOf127
 v53:=zeroValue127
 t171:=underlying350
 a171:=isAgg350
 z171:=sizeOf350
 v171:=zeroValue350
 t173:=underlying352
 a173:=isAgg352
 z173:=sizeOf352
 v173:=zeroValue352
 t212:=underlying362
 a212:=isAgg362
 z212:=sizeOf362
 v212:=zeroValue362
 t213:=underlying363
 a213:=isAgg363
 z213:=sizeOf363
 t232:=underlying367
 a232:=isAgg367
 z232:=sizeOf367
 v232:=zeroValue367
 t233:=underlying368
 a233:=isAgg368
 z233:=sizeOf368
 v233:=zeroValue368
 g17:=by kernel_rfl
 g18:=by kernel_rfl
 g19:=by kernel_rfl
def Xe:Go.Shelf.Ren:=⟨iF [(156,46),(165,86),(166,81),(169,83),(240,140),(241,142),(276,200),(277,202)],iF [(0,0),(3,3),(4,4),(5,5),(9,9),(20,20),(31,34),(37,54),(70,164),(72,166),(75,171),(76,172),(80,175),(127,232),(164,275)],fun x=>x⟩
def Xf:Go.Proofs.Lays.n156 prog Xe where
 mixed:=by kernel_rfl
 f156:=bJ func46
 f165:=bJ func86
 f166:=bJ func81
 f169:=bJ func83
 f240:=bJ func140
 f241:=bJ func142
 f276:=bJ func200
 f277:=bJ func202
 t0:=underlying0
 a0:=isAgg0
 z0:=sizeOf0
 v0:=zeroValue0
 t3:=underlying3
 a3:=isAgg3
 z3:=sizeOf3
 v3:=zeroValue3
 t4:=underlying4
 a4:=isAgg4
 z4:=sizeOf4
 v4:=zeroValue4
 t9:=underlying9
 a9:=isAgg9
 z9:=sizeOf9
 v9:=zeroValue9
 t20:=underlying20
 a20:=isAgg20
 z20:=sizeOf20
 v20:=zeroValue20
 t31:=underlying34
 a31:=isAgg34
 z31:=sizeOf34
 v31:=zeroValue34
 t37:=underlying54
 a37:=isAgg54
 z37:=sizeOf54
 v37:=zeroValue54
 t70:=underlying164
 a70:=isAgg164
 z70:=sizeOf164
 v70:=zeroValue164
 t72:=underlying166
 a72:=isAgg166
 z72:=sizeOf166
 v72:=zeroValue166
 t75:=underlying171
 a75:=isAgg171
 z75:=sizeOf171
 v75:=zeroValue171
 t76:=underlying172
 a76:=isAgg172
 z76:=sizeOf172
 v76:=zeroValue172
 t127:=underlying232
 a127:=isAgg232
 z127:=sizeOf232
 v127:=zeroValue232
 t164:=underlying275
 a164:=isAgg275
 z164:=sizeOf275
 v164:=zeroValue275
def Xg:Go.Proofs.Builder.Extra prog Xe where
 t5:=underlying5
 a5:=isAgg5
 z5:=sizeOf5
 v5:=zeroValue5
 infoByte:=by kernel_rfl
 cellsByte:=by kernel_rfl
 sizeByte:=by kernel_rfl
 neB5:=by decide
 sizeBuilder:=by kernel_rfl
 liesBuilder:=by kernel_rfl
end Go.Proofs.YtaalfcghmjkaeaaGreatDoor
namespace Go.Proofs.YtaalfcghmjkaeaaGreatDoor
open Go Go.Ab Go.Proofs.Tryz Go.IntKind
variable [bf][cK prog]
set_option maxRecDepth 100000
set_option maxHeartbeats 4000000
def Az(n:Int):List UInt8:=Lib.itoa n
def Ay(n:Int):Prop:=-9223372036854775808<=n/\n<=9223372036854775807
def Ya{n:Int}(h:Ay n):(Az n).length<=21:=Lib.itoa_length_le n h.1 h.2
def zmO(w:World)(k:Nat)(os:Array Obj):RowKit.Below w.heap.size w (Sort.grow (w.drewN k) os):=
 ⟨rfl,rfl,rfl,by simp[Sort.grow,World.drewN],fun j ac=>by show (w.heap++os)[j]?=w.heap[j]?;rw[y4 ac]⟩
def strconv_Itoa(n:Int)(h:Ay n):aD prog 187 [.one (.int .i64 n)] (.x (.one (.str (Az n)))):=by refine aD.C1 [.int .i64 n] _ (nc f187 (by kernel_rfl) (by kernel_rfl) rfl) rfl (fun _ _=>O8 _ (iJ (Ya h) (by decide))) (fun _ w hw=>?_);refine(Any.strconv_Itoa ziQ n h.1 h.2 w (cK.zfB w hw)).mono ?_;rintro e w' ⟨rfl,k,os,rfl⟩;exact⟨rfl,zmO _ _ _⟩
abbrev strs(l:List (List UInt8)):az:=.one (.list 1 (l.map fun s=>[.str s]))
def zmP{w:World}{S:Nat->Prop}{l:List (List UInt8)}{v:Value}(h:cg w S (strs l) v)(bW:∀b,S b->b<w.heap.size) :
  (∃a c,v=.slice a 0 c/\l=[])\/∃b o c,v=.slice (some ⟨b,o,none⟩) l.length c/\l.length<=c/\b<w.heap.size/\∀(j:Nat) x,l[j]?=some x->w.cell? ⟨b,o+j,none⟩=some (.string ⟨x.toArray⟩):=by
 have al:∀l:List (List UInt8),(l.map fun s=>[af.str s]).flatten=l.map af.str:=by
  intro l;induction l with
  |nil=>rfl
  |cons a r aX=>simp[aX]
 have al:=al l;have bE:bn w S (.list 1 (l.map fun s=>[.str s])) v:=h;generalize aj:(l.map fun s=>[af.str s])=xs at bE al;cases bE with
 |kH a c _ _ _=>exact .inl ⟨a,c,rfl,by simpa using aj⟩
 |list bT cap _ _ U ap cU ao hm jL d7 bU=>
  obtain⟨b,o,sp⟩:=bT;cases cU;have hlen:xs.length=l.length:=by rw[<-aj];simp
  refine .inr ⟨b,o,cap,by rw[hlen],by omega,bW b ap,fun j x ac=>?_⟩;have aa:xs.flatten[j]?=some (.str x):=by rw[al,dO,ac];rfl
  have ab:=d7 j _ aa;rw[ln]at ab;have ar:=bU j _ aa;generalize U j=u at ab ar;cases ar;exact ab
def Zl(l:List (List UInt8))(sep:List UInt8):Lib.join ((l.map fun x=>(⟨x.toArray⟩:ByteArray)).map (·.data.toList)) ((⟨sep.toArray⟩:ByteArray).data.toList)=Lib.join l sep:=by simp[List.map_map,Function.comp_def]
def strings_Join(l:List (List UInt8))(sep:List UInt8)(ae:(Lib.join l sep).length<=140737488355328)(AJ:l.length<=140737488355328):aD prog 46 [strs l,.one (.str sep)] (.x (.one (.str (Lib.join l sep)))):=by
 refine⟨(nc f46 (by kernel_rfl) (by kernel_rfl) rfl),fun w S vs bW bj=>?_⟩;obtain⟨zmQ,aW,k0⟩:=bj.2 0 _ rfl;obtain⟨zbE,aa,gm⟩:=bj.2 1 _ rfl;have b':vs.size=2:=bj.1;cases gm with
 |str _ fg=>
 have fp:vs=#[zmQ,.string ⟨sep.toArray⟩]:=by
  apply yY
  ·rw[b'];rfl
  ·intro i ai KO;rw[b']at ai;have ab:i=0\/i=1:=by omega
   rcases ab with rfl|rfl
   ·rw[qs (by omega)]at aW;injection aW
   ·rw[qs (by omega)]at aa;injection aa
 rw[fp];rcases zmP k0 bW.rd with⟨a,c,rfl,rfl⟩|⟨b,o,c,rfl,ao,cm,gN⟩
 ·refine(Any.strings_Join_none Xf Xg a c ⟨sep.toArray⟩ w).mono ?_;rintro e w' ⟨rfl,rfl⟩;exact⟨_,rfl,RowKit.Below.refl _ _,bn.str [] (by simp),fun b h=>by cases h⟩
 ·have:=Any.strings_Join Xf Xg b o c (l.map fun x=>(⟨x.toArray⟩:ByteArray)) ⟨sep.toArray⟩ w (fun j x ac=>by
  rw[dO]at ac;cases aj:l[j]? with
  |none=>rw[aj]at ac;cases ac
  |some y=>rw[aj]at ac;injection ac with ac;subst ac;exact gN j y aj) cm (by simpa using AJ) (by simpa using ao) (by rw[Zl];exact ae)
  rw[Zl,w1]at this;refine this.mono ?_;rintro e w' ⟨rfl,EY⟩;exact⟨_,rfl,EY,bn.str _ (iJ ae (by decide)),fun b h=>by cases h⟩
structure Lg(e:Entry):Prop where
 key:e.key.length<=2000
 time:0<=e.time/\e.time<=253402300799
 status:e.status=0\/(100<=e.status/\e.status<=599)
 type:e.type.length<=40
 hX:e.hX.length=16
 file:e.file.length<=40
 aK:0<=e.aK/\e.aK<=500000
 ai:e.aK<=e.ai/\e.ai<=500000
end Go.Proofs.YtaalfcghmjkaeaaGreatDoor
namespace Go.Proofs.YtaalfcghmjkaeaaGreatDoor
open Go
def WW(n:Nat):UInt8:=UInt8.ofNat (48+n%10)
def fZ:Nat->Nat->List UInt8
 |0,_=>[]
 |k+1,n=>fZ k (n/10)++[WW n]
@[simp]def AD:∀(k n:Nat),(fZ k n).length=k
 |0,_=>rfl
 |k+1,n=>by simp[fZ,AD k]
def WX:∀k,fZ k 0=List.replicate k 48
 |0=>rfl
 |k+1=>by simp only[fZ,Nat.zero_div,WX k,List.replicate_succ'];rfl
def WY:∀(k n:Nat),n<10^k->1<=k->(Lib.decDigits n).length<=k/\fZ k n=List.replicate (k-(Lib.decDigits n).length) 48++Lib.decDigits n
 |0,n,_,h=>by omega
 |k+1,n,aT,_=>by
  by_cases lY:n<10
  ·have e:Lib.decDigits n=[UInt8.ofNat (48+n)]:=by rw[Lib.decDigits,dif_pos lY]
   rw[e];refine⟨by simp,?_⟩;simp only[fZ,eg,rF,yU,f_];rw[show n/10=0 by omega,WX,WW,ER lY]
  ·have e:Lib.decDigits n=Lib.decDigits (n/10)++[UInt8.ofNat (48+n%10)]:=by rw[Lib.decDigits,dif_neg lY]
   have am:1<=k:=by
    rcases Nat.eq_zero_or_pos k with aW|aW
    ·subst aW;simp at aT;omega
    ·exact aW
   have aq:n/10<10^k:=by rw[Nat.pow_succ]at aT;omega
   obtain⟨aa,ab⟩:=WY k (n/10) aq am;rw[e];refine⟨by simp;omega,?_⟩;simp only[fZ,eE,eg,rF,ab];rw[show k+1-((Lib.decDigits (n/10)).length+(0+1))=k-(Lib.decDigits (n/10)).length by omega,pg];rfl
def zhG(k n:Nat)(h:n<10^k)(am:1<=k):(Lib.itoa (n:Int)).length<=k/\List.replicate (k-(Lib.itoa (n:Int)).length) 48++Lib.itoa (n:Int)=fZ k n:=by
 have e:Lib.itoa (n:Int)=Lib.decDigits n:=by unfold Lib.itoa;rw[au (by omega)];rfl
 rw[e];obtain⟨aa,ab⟩:=WY k n h am;exact⟨aa,ab.symm⟩
def df(b:UInt8):Bool:=decide (48<=b.toNat)&&decide (b.toNat<=57)
def dk(s:List UInt8):Nat:=s.foldl (fun a b=>a*10+(b.toNat-48)) 0
def Xo(s:List UInt8):Bool:=decide (s.head?=some 48)&&decide (s.length≠1)
def V2(s:List UInt8)(b:UInt8):dk (s++[b])=dk s*10+(b.toNat-48):=by simp[dk]
def VV{α:Type}(l:List α)(h:l≠[]):∃t b,l=t++[b]:=⟨l.dropLast,l.getLast h,(List.dropLast_concat_getLast h).symm⟩
def zjg{α:Type}{p:List α->Prop}(aW:p [])(aa:∀t b,p t->p (t++[b]))(l:List α):p l:=by
 generalize aT:l.length=n;induction n generalizing l with
 |zero=>rw[ld aT];exact aW
 |succ n aX=>obtain⟨t,b,rfl⟩:=VV l (by rintro rfl;simp at aT);exact aa t b (aX t (by simpa using aT))
def Xp:∀(s:List UInt8) (a:Nat),s.all df=true->Lib.decFrom a s=some (s.foldl (fun a b=>a*10+(b.toNat-48)) a)
 |[],a,_=>rfl
 |b::r,a,h=>by
  simp only[qW,b4,df,hF]at h;have ax:Lib.digitVal b=some (b.toNat-48):=by unfold Lib.digitVal;rw[aC ⟨h.1.1,h.1.2⟩]
  unfold Lib.decFrom;rw[ax];exact Xp r _ h.2
def Xq{s:List UInt8}(h:s.all df=true)(aW:s≠[]):Lib.atoi s=some (dk s:Int):=by
 cases s with
 |nil=>exact absurd rfl aW
 |cons b r=>
  have ae:=h;simp only[qW,b4,df,hF]at ae;have zjh:(b==45)=false:=by simp only[jz,ne_eq];rintro rfl;exact absurd ae.1.1 (by decide)
  have zji:(b==43)=false:=by simp only[jz,ne_eq];rintro rfl;exact absurd ae.1.1 (by decide)
  unfold Lib.atoi;dsimp only;rw[zjh,zji];simp only[kg,h6,Lib.decNat,List.isEmpty_cons];rw[Xp _ 0 h];rfl
def zjj{b:UInt8}(h:df b=true):UInt8.ofNat (48+(b.toNat-48))=b/\b.toNat-48<10:=by simp only[df,b4,hF]at h;refine⟨?_,by omega⟩;rw[show 48+(b.toNat-48)=b.toNat by omega];simp
def ux:∀(s:List UInt8),s.all df=true->dk s<10^s.length:=by
 intro s;induction s using zjg with
 |aW=>intro _;simp[dk]
 |aa t b aX=>intro h;simp only[tL,qW,List.all_nil,Bool.and_true,b4]at h;have aa:=aX h.1;have ab:=(zjj h.2).2;rw[V2,eE,rT,Nat.pow_succ];omega
end Go.Proofs.YtaalfcghmjkaeaaGreatDoor
namespace Go.Proofs.YtaalfcghmjkaeaaGreatDoor
def yb(y:Int):Bool:=decide (y%4=0)&&(decide (y%100≠0) ||decide (y%400=0))
def fv(y:Int):Int:=365*(y-1)+(y-1)/4-(y-1)/100+(y-1)/400-719162
def uz(y:Int):Int:=if yb y=true then 366 else 365
def p1(y m:Int):Int:=if m=4\/m=6\/m=9\/m=11 then 30 else if m=2 then (if yb y=true then 29 else 28)else 31
def GN(y:Int):Nat->Int
 |0=>0
 |n+1=>if n=0 then 0 else GN y n+p1 y n
def fS(y m:Int):Int:=GN y m.toNat
def KF(y:Int):fv (y+1)=fv y+uz y:=by unfold fv uz yb;simp only[b4,eO,hF];split<;>omega
def PJ(y:Int):365<=uz y/\uz y<=366:=by unfold uz;split<;>omega
def GO(y:Int):fS y 1=0:=rfl
def Du(y m:Int)(h:1<=m):fS y (m+1)=fS y m+p1 y m:=by
 unfold fS;obtain⟨n,rfl⟩:∃n:Nat,m=(n:Int)+1:=⟨(m-1).toNat,by omega⟩
 have av:((n:Int)+1+1).toNat=n+2:=by omega
 have aI:((n:Int)+1).toNat=n+1:=by omega
 rw[av,aI];show (if n+1=0 then 0 else GN y (n+1)+p1 y ((n+1:Nat):Int))=_
 rw[au (by omega)];congr 1
def GP(y m:Int):28<=p1 y m/\p1 y m<=31:=by unfold p1;repeat' split<;>omega
def WE(y:Int):fS y 13=uz y:=by have h:=fun m h=>Du y m h;have aa:=h 1 (by omega);have ab:=h 2 (by omega);have ar:=h 3 (by omega);have aN:=h 4 (by omega);have bD:=h 5 (by omega);have b9:=h 6 (by omega);have dw:=h 7 (by omega);have d8:=h 8 (by omega);have hN:=h 9 (by omega);have lY:=h 10 (by omega);have GQ:=h 11 (by omega);have Dv:=h 12 (by omega);simp only[p1,Int.reduceAdd]at aa ab ar aN bD b9 dw d8 hN lY GQ Dv;rw[GO]at aa;unfold uz;cases al:yb y<;>simp[al]at*<;> omega
def GR(y:Int){a b:Int}(bj:1<=a)(h:a<=b):fS y a<=fS y b:=by
 obtain⟨n,rfl⟩:∃n:Nat,b=a+n:=⟨(b-a).toNat,by omega⟩
 clear h;induction n with
 |zero=>simp
 |succ n aX=>have:=Du y (a+n) (by omega);have:=GP y (a+n);rw[show a+((n+1:Nat):Int)=a+n+1 by omega];omega
def GS{a b:Int}(h:a<=b):fv a<=fv b:=by
 obtain⟨n,rfl⟩:∃n:Nat,b=a+n:=⟨(b-a).toNat,by omega⟩
 clear h;induction n with
 |zero=>simp
 |succ n aX=>have:=KF (a+n);have:=PJ (a+n);rw[show a+((n+1:Nat):Int)=a+n+1 by omega];omega
structure GU(day y m d:Int):Prop where
 zgX:1970<=y
 aK:fv y<=day
 ai:day<fv (y+1)
 m0:1<=m
 m1:m<=12
 PK:fv y+fS y m<=day
 PL:day<fv y+fS y (m+1)
 WF:d=day-fv y-fS y m+1
def GU.d{day y m d:Int}(h:GU day y m d):1<=d/\d<=p1 y m:=by have:=Du y m h.m0;have:=h.PK;have:=h.PL;have:=h.WF;omega
def o2:Nat->Int
 |0=>1970
 |n+1=>if ((n+1:Nat):Int)<fv (o2 n+1)then o2 n else o2 n+1
def zgY(n:Nat):1970<=o2 n/\fv (o2 n)<=n/\(n:Int)<fv (o2 n+1):=by
 induction n with
 |zero=>exact⟨by decide,by decide,by decide⟩
 |succ n aX=>
  obtain⟨aW,aa,ab⟩:=aX;unfold o2;split
  ·rename_i h;exact⟨aW,by omega,h⟩
  ·have:=KF (o2 n+1);have:=PJ (o2 n+1);exact⟨by omega,by omega,by omega⟩
def zgZ(y r:Int)(aW:0<=r)(aa:r<uz y):∃m,1<=m/\m<=12/\fS y m<=r/\r<fS y (m+1):=by
 have key:∀n:Nat,n<=11->(∃m,1<=m/\m<=12/\fS y m<=r/\r<fS y (m+1))\/fS y ((n:Int)+2)<=r:=by
  intro n;induction n with
  |zero=>
   intro _;by_cases h:r<fS y 2
   ·exact .inl ⟨1,by omega,by omega,by rw[GO];exact aW,h⟩
   ·exact .inr (by simpa using h)
  |succ n aX=>
   intro aT;rcases aX (by omega)with h|h
   ·exact .inl h
   ·by_cases bE:r<fS y ((n:Int)+2+1)
    ·exact .inl ⟨(n:Int)+2,by omega,by omega,h,bE⟩
    ·refine .inr ?_;rw[show ((n+1:Nat):Int)+2=(n:Int)+2+1 by omega];omega
 rcases key 11 (by omega)with h|h
 ·exact h
 ·have:=WE y;have e:fS y (((11:Nat):Int)+2)=fS y 13:=rfl;omega
def ij(day:Int):Int:=o2 day.toNat
def n3(day:Int):Int:=((((List.range 12).find? (fun (k:Nat)=>decide (day<fv (ij day)+fS (ij day) ((k:Int)+2)))).getD 0:Nat):Int)+1
def ra(day:Int):Int:=day-fv (ij day)-fS (ij day) (n3 day)+1
def PM(day:Int)(h:0<=day):GU day (ij day) (n3 day) (ra day):=by
 have aS:=zgY day.toNat;rw[show ((day.toNat:Nat):Int)=day by omega]at aS;obtain⟨aW,aa,ab⟩:=aS;have ap:=KF (o2 day.toNat);obtain⟨m,m0,m1,m2,m3⟩:=zgZ (o2 day.toNat) (day-fv (o2 day.toNat)) (by omega) (by omega);have hm:n3 day=m:=by
  have zha:(List.range 12).find? (fun (k:Nat)=>decide (day<fv (ij day)+fS (ij day) ((k:Int)+2)))=some (m-1).toNat:=by
   rw[List.find?_eq_some_iff_getElem];refine⟨?_,(m-1).toNat,by simp;omega,by simp,fun j ac=>?_⟩
   ·have aI:(((m-1).toNat:Nat):Int)+2=m+1:=by omega
    have:day<fv (ij day)+fS (ij day) ((((m-1).toNat:Nat):Int)+2):=by rw[aI];simp only[ij];omega
    simpa using this
   ·have eI:(j:Int)+2<=m:=by omega
    have:=GR (o2 day.toNat) (a:=(j:Int)+2) (b:=m) (by omega) eI;simp only[List.getElem_range,ij];simp;omega
  unfold n3;rw[zha];simp only[rW];omega
 unfold ra;rw[hm];exact⟨aW,aa,ab,m0,m1,by unfold ij;omega,by unfold ij;omega,rfl⟩
def GU.top{day y m d:Int}(h:GU day y m d)(ax:day<=2932896):y<=9999:=by
 refine yR fun aT=>?_;have aa:=GS (a:=10000) (b:=y) (by omega);have ab:fv 10000=2932897:=by decide
 have:=h.aK;omega
end Go.Proofs.YtaalfcghmjkaeaaGreatDoor
namespace Go.Proofs.YtaalfcghmjkaeaaGreatDoor
open Go Go.Proofs.Tryz
set_option maxRecDepth 100000
def Xh:Go.Shelf.Ren:=⟨iF [(99,80),(105,296),(165,86),(166,81),(169,83),(170,307),(206,139),(212,306),(240,140),(241,142),(263,312),(264,313),(276,200),(277,202)],iF [(0,0),(3,3),(4,4),(5,5),(9,9),(20,20),(37,54),(46,180),(51,242),(53,127),(70,164),(72,166),(75,171),(76,172),(80,175),(109,358),(127,232),(146,344),(148,365),(164,275)],fun x=>x⟩
def zhE:Go.Proofs.Lays.n105 prog Xh where
 mixed:=by kernel_rfl
 f99:=bJ func80
 f105:=bJ func296
 f165:=bJ func86
 f166:=bJ func81
 f169:=bJ func83
 f170:=bJ func307
 f206:=bJ func139
 f212:=bJ func306
 f240:=bJ func140
 f241:=bJ func142
 f263:=bJ func312
 f264:=bJ func313
 f276:=bJ func200
 f277:=bJ func202
 t0:=underlying0
 a0:=isAgg0
 z0:=sizeOf0
 v0:=zeroValue0
 t3:=underlying3
 a3:=isAgg3
 z3:=sizeOf3
 v3:=zeroValue3
 t4:=underlying4
 a4:=isAgg4
 z4:=sizeOf4
 v4:=zeroValue4
 t5:=underlying5
 a5:=isAgg5
 z5:=sizeOf5
 v5:=zeroValue5
 t9:=underlying9
 a9:=isAgg9
 z9:=sizeOf9
 v9:=zeroValue9
 t20:=underlying20
 a20:=isAgg20
 z20:=sizeOf20
 v20:=zeroValue20
 t37:=underlying54
 a37:=isAgg54
 z37:=sizeOf54
 v37:=zeroValue54
 t46:=underlying180
 a46:=isAgg180
 z46:=sizeOf180
 v46:=zeroValue180
 t51:=underlying242
 a51:=isAgg242
 z51:=sizeOf242
 v51:=zeroValue242
 t53:=underlying127
 a53:=isAgg127
 z53:=sizeOf127
 v53:=zeroValue127
 t70:=underlying164
 a70:=isAgg164
 z70:=sizeOf164
 v70:=zeroValue164
 t72:=underlying166
 a72:=isAgg166
 z72:=sizeOf166
 v72:=zeroValue166
 t75:=underlying171
 a75:=isAgg171
 z75:=sizeOf171
 v75:=zeroValue171
 t76:=underlying172
 a76:=isAgg172
 z76:=sizeOf172
 v76:=zeroValue172
 t109:=underlying358
 a109:=isAgg358
 z109:=sizeOf358
 v109:=zeroValue358
 t127:=underlying232
 a127:=isAgg232
 z127:=sizeOf232
 v127:=zeroValue232
 t146:=underlying344
 a146:=isAgg344
 z146:=sizeOf344
 v146:=zeroValue344
 t148:=underlying365
 a148:=isAgg365
 z148:=sizeOf365
 v148:=zeroValue365
 t164:=underlying275
 a164:=isAgg275
 z164:=sizeOf275
 v164:=zeroValue275
def zhF:Go.Proofs.Builder.Extra prog Xh where
 t5:=underlying5
 a5:=isAgg5
 z5:=sizeOf5
 v5:=zeroValue5
 infoByte:=by kernel_rfl
 cellsByte:=by kernel_rfl
 sizeByte:=by kernel_rfl
 neB5:=by decide
 sizeBuilder:=by kernel_rfl
 liesBuilder:=by kernel_rfl
end Go.Proofs.YtaalfcghmjkaeaaGreatDoor
namespace Go.Proofs.YtaalfcghmjkaeaaGreatDoor
open Go Go.Ab Go.Proofs.Tryz Go.IntKind
variable [bf][cK prog]
set_option maxRecDepth 100000
set_option maxHeartbeats 4000000
def WV(b:UInt8):∀n:Nat,Lib.repeatL [b] n=List.replicate n b
 |0=>rfl
 |n+1=>by rw[Lib.repeatL,WV b n];rfl
def strings_Repeat(b:UInt8)(n:Nat)(h:n<=1000000):aD prog 296 [.one (.str [b]),.one (.int .i64 n)] (.x (.one (.str (List.replicate n b)))):=by refine aD.C2 [.string ⟨#[b]⟩,.int .i64 n] _ (nc f296 (by kernel_rfl) (by kernel_rfl) rfl) rfl (fun _ _=>O8 _ (by simp;unfold maxLen;omega)) (fun _ w=>?_);refine(Any.strings_Repeat zhE zhF ⟨#[b]⟩ n w (by omega) (by show 1*n<=_;omega)).mono ?_;rintro e w' ⟨rfl,ae⟩;refine⟨?_,ae⟩;rw[show (⟨#[b]⟩:ByteArray).data.toList=[b]from rfl,WV]
def GY(n k:Nat)(aT:n<10^k)(am:1<=k)(v6:k<=18):aD prog 277 [.one (.int .i64 n),.one (.int .i64 k)] (.x (.one (.str (fZ k n)))):=by
 refine aD.a6 f277 mixed fun aE=>?_;obtain⟨aa,ab⟩:=zhG k n aT am;have ak:10^k<=10^18:=Dh (by omega) v6;have zhH:Ay (n:Int):=by unfold Ay;omega
 rw[<-ab];simp-implicitDefEqProofs;refine aA.of (strconv_Itoa _ zhH) ?_;obtain⟨s,es⟩:∃s,s=Az (n:Int):=⟨_,rfl⟩
 rw[show Lib.itoa (n:Int)=s from es.symm]at aa⊢;rw[<-es];have cH:i64.wrap ((k:Int)-s.length)=((k-s.length:Nat):Int):=by rw[bk _ (by omega)];omega
 have dW:max 0 ((k-s.length:Nat):Int)=((k-s.length:Nat):Int):=by omega
 simp-implicitDefEqProofs[cH,dW];refine aA.of (strings_Repeat 48 _ (by omega)) ?_;have m1:k-s.length+s.length<=maxLen:=by unfold maxLen;omega
 simp-implicitDefEqProofs[m1]
def zhI(y:Int):(y%4=0/\(y%100≠0\/y%400=0))↔yb y=true:=by unfold yb;simp
def AA{a:Int}(b:Int)(h:0<=a):a.tmod b=a%b:=Int.tmod_eq_emod_of_nonneg h
def yi{a:Int}(b:Int)(h:0<=a):a.tdiv b=a/b:=Int.tdiv_eq_ediv_of_nonneg h
def zhJ(y m:Int)(aS:0<=y/\y<=100000):aD prog 305 [.one (.int .i64 y),.one (.int .i64 m)] (.x (.one (.int .i64 (p1 y m)))):=by
 refine aD.a6 f305 mixed fun aE=>?_;have t1:y.tmod 4=y%4:=AA _ aS.1;have t2:y.tmod 100=y%100:=AA _ aS.1;have t3:y.tmod 400=y%400:=AA _ aS.1;have cH:i64.wrap (y%4)=y%4:=bk _ (by omega);have dW:i64.wrap (y%100)=y%100:=bk _ (by omega);have hs:i64.wrap (y%400)=y%400:=bk _ (by omega);have e:p1 y m=if m=4\/m=6\/m=9\/m=11 then 30 else if m=2 then (if yb y=true then 29 else 28)else 31:=rfl
 generalize p1 y m=r at e⊢;by_cases aN:m=4
 ·subst aN;rw[aC (.inl rfl)]at e;subst e;simp-implicitDefEqProofs
 by_cases b9:m=6
 ·subst b9;rw[aC (.inr (.inl rfl))]at e;subst e;simp-implicitDefEqProofs
 by_cases hN:m=9
 ·subst hN;rw[aC (.inr (.inr (.inl rfl)))]at e;subst e;simp-implicitDefEqProofs
 by_cases GQ:m=11
 ·subst GQ;rw[aC (.inr (.inr (.inr rfl)))]at e;subst e;simp-implicitDefEqProofs
 rw[au (by simp[aN,b9,hN,GQ])]at e;by_cases ab:m=2
 ·subst ab;rw[aC rfl]at e;have al:=zhI y;cases ae:yb y with
  |true=>
   obtain⟨ec,l2⟩:=al.2 ae;rw[aC ae]at e;subst e;by_cases lI:y%100=0
   ·have mn:=l2.resolve_left (fun h=>h lI);simp-implicitDefEqProofs[t1,t2,t3,ec,lI,mn]
   ·simp-implicitDefEqProofs[t1,t2,t3,ec,lI]
  |false=>
   rw[au (by simp[ae])]at e;subst e;by_cases ec:y%4=0
   ·have lI:y%100=0:=yR fun h=>by rw[al.1 ⟨ec,.inl h⟩]at ae;cases ae
    have mn:¬y%400=0:=fun h=>by rw[al.1 ⟨ec,.inr h⟩]at ae;cases ae
    simp-implicitDefEqProofs[t1,t2,t3,ec,lI,mn]
   ·simp-implicitDefEqProofs[t1,t2,t3,ec]
 ·rw[au ab]at e;subst e;simp-implicitDefEqProofs[aN,b9,hN,GQ,ab]
def AB(y m:Int)(aS:1<=y/\y<=100000)(hm:1<=m/\m<=100):aD prog 295 [.one (.int .i64 y),.one (.int .i64 m)] (.x (.one (.int .i64 (fv y+fS y m)))):=by
 refine aD.a6 f295 mixed fun aE=>?_;have t1:(y-1).tdiv 4=(y-1)/4:=yi _ (by omega);have t2:(y-1).tdiv 100=(y-1)/100:=yi _ (by omega);have t3:(y-1).tdiv 400=(y-1)/400:=yi _ (by omega);have w0:i64.wrap (y-1)=y-1:=bk _ (by omega);have cH:i64.wrap (365*(y-1))=365*(y-1):=bk _ (by omega);have dW:i64.wrap ((y-1)/4)=(y-1)/4:=bk _ (by omega);have hs:i64.wrap ((y-1)/100)=(y-1)/100:=bk _ (by omega);have q8:i64.wrap ((y-1)/400)=(y-1)/400:=bk _ (by omega);have yj:i64.wrap (365*(y-1)+(y-1)/4)=365*(y-1)+(y-1)/4:=bk _ (by omega);have yk:i64.wrap (365*(y-1)+(y-1)/4-(y-1)/100)=365*(y-1)+(y-1)/4-(y-1)/100:=bk _ (by omega);have AC:i64.wrap (365*(y-1)+(y-1)/4-(y-1)/100+(y-1)/400)=365*(y-1)+(y-1)/4-(y-1)/100+(y-1)/400:=bk _ (by omega);have GZ:i64.wrap (365*(y-1)+(y-1)/4-(y-1)/100+(y-1)/400-719162)=fv y:=bk _ (by omega);have zIo:-800000<=fv y/\fv y<=40000000:=by unfold fv;omega
 simp-implicitDefEqProofs[t1,t2,t3,w0,cH,dW,hs,q8,yj,yk,AC,GZ];refine cI.of Nat (fun k=>[(0,.x (.one (.int .i64 y))),(1,.x (.one (.int .i64 m))),(6,.x (.one (.int .i64 (fv y+fS y (k+1))))),(7,.x (.one (.int .i64 ((k:Int)+1))))]) (fun k=>(k:Int)+1<=m) (fun k=>m.toNat-k) 0 (by omega) ?_ ?_
 ·simp[fS,GN]
 intro k am;by_cases aq:(k:Int)+1<m
 ·have b3:=Du y (k+1) (by omega);have ae:=GP y (k+1);have G0:=GR y (a:=1) (b:=(k:Int)+1) (by omega) (by omega);have zIp:fS y ((k:Int)+1)<=31*k:=by
   clear aq b3 ae G0 am;induction k with
   |zero=>simp[fS,GN]
   |succ k aX=>have:=Du y (k+1) (by omega);have:=GP y (k+1);rw[show ((k+1:Nat):Int)+1=(k:Int)+1+1 by omega];omega
  rw[GO]at G0;have zhK:i64.wrap (fv y+fS y ((k:Int)+1)+p1 y ((k:Int)+1))=fv y+fS y ((k:Int)+1+1):=by rw[bk _ (by omega)];omega
  have zhL:i64.wrap ((k:Int)+1+1)=(k:Int)+1+1:=bk _ (by omega);simp-implicitDefEqProofs[aq];refine aA.of (zhJ y (k+1) (by omega)) ?_;simp-implicitDefEqProofs[zhK,zhL];refine bI.of (k+1) (by omega) (by omega) ?_;simp
 ·have e:(k:Int)+1=m:=by omega
  simp-implicitDefEqProofs[e]
def P1(t:Int):List af:=[.int .i64 (ij (t/86400)),.int .i64 (n3 (t/86400)),.int .i64 (ra (t/86400)),.int .i64 (t%86400/3600),.int .i64 (t%86400/60%60),.int .i64 (t%86400%60)]
structure zhM(t:Int):Prop where
 y:1970<=ij (t/86400)/\ij (t/86400)<=9999
 m:1<=n3 (t/86400)/\n3 (t/86400)<=12
 d:1<=ra (t/86400)/\ra (t/86400)<=31
def KS{t:Int}(h:hV t=true):0<=t/\t<=253402300799:=by simpa[hV,gV]using h
def P2{t:Int}(h:hV t=true):zhM t:=by have ae:=KS h;have ao:=PM (t/86400) (by omega);have:=ao.d;have:=GP (ij (t/86400)) (n3 (t/86400));exact⟨⟨ao.zgX,ao.top (by omega)⟩,⟨ao.m0,ao.m1⟩,by omega⟩
def zhN(n:Nat):fv (1970+n)<=366*n:=by
 induction n with
 |zero=>decide
 |succ n aX=>have:=KF (1970+n);have:=PJ (1970+n);rw[show (1970:Int)+((n+1:Nat):Int)=1970+n+1 by omega];omega
def zhO{d:Int}(h:0<=d):1970+d/366<=ij d:=by have ao:=PM d h;have aa:=zhN (d/366).toNat;rw[show (((d/366).toNat:Nat):Int)=d/366 by omega]at aa;refine yR fun aT=>?_;have:=GS (a:=ij d+1) (b:=1970+d/366) (by omega);have:=ao.ai;omega
def zhP(t:Int)(h:hV t=true):aD prog 275 [.one (.int .i64 t)] (.x (.agg (P1 t))):=by
 refine aD.a6 f275 mixed fun aE=>?_;have ae:=KS h;have aE:=P2 h;have ao:=PM (t/86400) (by omega);have KT:=zhO (d:=t/86400) (by omega);unfold P1;obtain⟨day,sY⟩:∃day,day=t/86400:=⟨_,rfl⟩
 obtain⟨rest,C_⟩:∃rest,rest=t%86400:=⟨_,rfl⟩
 obtain⟨Y,DB⟩:∃Y,Y=ij (t/86400):=⟨_,rfl⟩
 obtain⟨M,o3⟩:∃M,M=n3 (t/86400):=⟨_,rfl⟩
 obtain⟨D,we⟩:∃D,D=ra (t/86400):=⟨_,rfl⟩
 obtain⟨⟨E1,E2⟩,⟨m1,m2⟩,⟨d1,d2⟩⟩:=aE;rw[<-sY]at KT ao DB o3 we E1 E2 m1 m2 d1 d2;rw[<-DB]at KT ao E1 E2;rw[<-o3]at ao m1 m2;rw[<-we]at ao d1 d2;rw[<-sY,<-DB,<-o3,<-we,<-C_];clear DB o3 we;have t1:t.tdiv 86400=day:=by rw[yi _ ae.1,sY]
 have t2:t.tmod 86400=rest:=by rw[AA _ ae.1,C_]
 have k0:0<=rest/\rest<86400:=by omega
 have d0:0<=day/\day<=2932896:=by omega
 have t3:day.tdiv 366=day/366:=yi _ d0.1;have t4:rest.tdiv 3600=rest/3600:=yi _ k0.1;have t5:rest.tdiv 60=rest/60:=yi _ k0.1;have t6:(rest/60).tmod 60=rest/60%60:=AA _ (by omega);have t7:rest.tmod 60=rest%60:=AA _ k0.1;have cH:i64.wrap day=day:=bk _ (by omega);have dW:i64.wrap rest=rest:=bk _ (by omega);have hs:i64.wrap (day/366)=day/366:=bk _ (by omega);have q8:i64.wrap (1970+day/366)=1970+day/366:=bk _ (by omega);have yj:i64.wrap (rest/3600)=rest/3600:=bk _ (by omega);have yk:i64.wrap (rest/60)=rest/60:=bk _ (by omega);have AC:i64.wrap (rest/60%60)=rest/60%60:=bk _ (by omega);have GZ:i64.wrap (rest%60)=rest%60:=bk _ (by omega);simp-implicitDefEqProofs[t1,t2,t3,t4,t5,t6,t7,cH,hs,q8,yj,yk];refine cI.of Int (fun y=>[(2,.box [.int .i64 0,.int .i64 0,.int .i64 0,.int .i64 0,.int .i64 0,.int .i64 0]),(3,.x (.one (.int .i64 day))),(5,.box [.int .i64 y,.int .i64 1,.int .i64 0,.int .i64 (rest/3600),.int .i64 (rest/60%60),.int .i64 (rest%60)])]) (fun y=>1970<=y/\y<=Y) (fun y=>(Y-y).toNat) (1970+day/366) ⟨by omega,KT⟩ ?_ ?_
 ·simp
 rintro y ⟨g1,g2⟩;have v1:i64.wrap (y+1)=y+1:=bk _ (by omega);have EJ:fv (y+1)+fS (y+1) 1=fv (y+1):=by rw[GO,Int.add_zero]
 simp-implicitDefEqProofs[v1];refine aA.of (AB (y+1) 1 (by omega) (by omega)) ?_;rw[EJ];by_cases aq:y<Y
 ·have:=GS (a:=y+1) (b:=Y) (by omega);have:=ao.aK;have hle:fv (y+1)<=day:=by omega
  simp-implicitDefEqProofs[hle,v1];refine bI.of (y+1) ⟨by omega,by omega⟩ (by omega) ?_;simp
 have zhQ:y=Y:=by omega
 subst zhQ;have hle:¬fv (y+1)<=day:=by have:=ao.ai;omega
 simp-implicitDefEqProofs[hle];clear aq hle EJ g1 g2 KT;refine cI.of Int (fun m=>[(2,.box [.int .i64 0,.int .i64 0,.int .i64 0,.int .i64 0,.int .i64 0,.int .i64 0]),(3,.x (.one (.int .i64 day))),(5,.box [.int .i64 y,.int .i64 m,.int .i64 0,.int .i64 (rest/3600),.int .i64 (rest/60%60),.int .i64 (rest%60)])]) (fun m=>1<=m/\m<=M) (fun m=>(M-m).toNat) 1 ⟨by omega,m1⟩ ?_ ?_
 ·simp
 rintro m ⟨g1,g2⟩;have v2:i64.wrap (m+1)=m+1:=bk _ (by omega);by_cases aq:m<M
 ·have Dv:m<12:=by omega
  have:=GR y (a:=m+1) (b:=M) (by omega) (by omega);have:=ao.PK;have hle:fv y+fS y (m+1)<=day:=by omega
  simp-implicitDefEqProofs[Dv,v2];refine bp.of (fun _=>AB y (m+1) (by omega) (by omega)) rfl ?_;simp-implicitDefEqProofs[hle,v2];refine bI.of (m+1) ⟨by omega,by omega⟩ (by omega) ?_;simp
 have zhR:m=M:=by omega
 subst zhR;have kR:∀x,x=fv y+fS y m->i64.wrap (i64.wrap (day-x)+1)=D:=by rintro x rfl;have:=ao.WF;have:=ao.PK;have:=ao.PL;have:=Du y m m1;have:=GP y m;rw[bk (day-_) (by omega),bk _ (by omega)];omega
 have hle:¬fv y+fS y (m+1)<=day:=by have:=ao.PL;omega
 by_cases Dv:m<12
 ·simp-implicitDefEqProofs[Dv,v2];refine bp.of (fun _=>AB y (m+1) (by omega) (by omega)) rfl ?_;simp-implicitDefEqProofs[hle];refine aA.of (AB y m (by omega) (by omega)) ?_;simp-implicitDefEqProofs[kR _ rfl]
 ·simp-implicitDefEqProofs[Dv,v2];refine bp.of (fun _=>AB y (m+1) (by omega) (by omega)) rfl ?_;simp-implicitDefEqProofs[hle];refine aA.of (AB y m (by omega) (by omega)) ?_;simp-implicitDefEqProofs[kR _ rfl]
def zhS:List UInt8:=[74,97,110,70,101,98,77,97,114,65,112,114,77,97,121,74,117,110,74,117,108,65,117,103,83,101,112,79,99,116,78,111,118,68,101,99]
def zhT:List UInt8:=[83,117,110,77,111,110,84,117,101,87,101,100,84,104,117,70,114,105,83,97,116]
def sZ(m:Nat):List UInt8:=(zhS.drop (3*m-3)).take 3
def uB(w:Nat):List UInt8:=(zhT.drop (3*w)).take 3
def mr(t:Int):List UInt8:=
 uB ((t/86400+4)%7).toNat++[44,32]++fZ 2 (ra (t/86400)).toNat++[32]++sZ (n3 (t/86400)).toNat++[32]++fZ 4 (ij (t/86400)).toNat++[32]++fZ 2 (t%86400/3600).toNat++[58]++fZ 2 (t%86400/60%60).toNat++[58]++fZ 2 (t%86400%60).toNat++[32,71,77,84]
def zhU(w:Nat)(h:w<7):(uB w).length=3:=by
 have:∀w:Fin 7,(uB w.val).length=3:=by decide
 exact this ⟨w,h⟩
def zhV(m:Nat)(h:1<=m/\m<=12):(sZ m).length=3:=by
 have:∀w:Fin 12,(sZ (w.val+1)).length=3:=by decide
 have:=this ⟨m-1,by omega⟩;simp only[show m-1+1=m by omega]at this;exact this
def zhW(t:Int)(h:hV t=true):(mr t).length=29/\cutAt (mr t) 8 11=sZ (n3 (t/86400)).toNat/\cutAt (mr t) 12 16=fZ 4 (ij (t/86400)).toNat/\cutAt (mr t) 5 7=fZ 2 (ra (t/86400)).toNat /\
  cutAt (mr t) 17 19=fZ 2 (t%86400/3600).toNat/\cutAt (mr t) 20 22=fZ 2 (t%86400/60%60).toNat/\cutAt (mr t) 23 25=fZ 2 (t%86400%60).toNat:=by
 have ae:=KS h;obtain⟨_,hm,_⟩:=P2 h;have lw:=zhU ((t/86400+4)%7).toNat (by omega);have lm:=zhV (n3 (t/86400)).toNat (by omega);unfold mr;generalize uB ((t/86400+4)%7).toNat=W at lw⊢;generalize sZ (n3 (t/86400)).toNat=M at lm⊢;have ec:=AD 2 (ra (t/86400)).toNat;have l2:=AD 4 (ij (t/86400)).toNat;have lI:=AD 2 (t%86400/3600).toNat;have mn:=AD 2 (t%86400/60%60).toNat;have q9:=AD 2 (t%86400%60).toNat;generalize fZ 2 (ra (t/86400)).toNat=D at ec⊢;generalize fZ 4 (ij (t/86400)).toNat=Y at l2⊢;generalize fZ 2 (t%86400/3600).toNat=H at lI⊢;generalize fZ 2 (t%86400/60%60).toNat=I at mn⊢;generalize fZ 2 (t%86400%60).toNat=S at q9⊢
 match W,lw,D,ec,M,lm,Y,l2,H,lI,I,mn,S,q9 with
 |[cH,dW,hs],_,[d1,d2],_,[m1,m2,m3],_,[E1,E2,zIq,zIr],_,[aa,ab],_,[i1,i2],_,[s1,s2],_=>exact⟨rfl,rfl,rfl,rfl,rfl,rfl,rfl⟩
end Go.Proofs.YtaalfcghmjkaeaaGreatDoor
namespace Go.Proofs.YtaalfcghmjkaeaaGreatDoor
open Go
def cu(c:UInt8)(s:List UInt8):List UInt8:=s.takeWhile (· != c)
def n1(c:UInt8)(s:List UInt8):List UInt8:=s.drop ((cu c s).length+1)
def LM(c:UInt8)(r:List UInt8):cu c (c::r)=[]:=by simp[cu]
def HJ{b c:UInt8}(h:b≠c)(r:List UInt8):cu c (b::r)=b::cu c r:=by simp[cu,h]
def Zi(c:UInt8)(r:List UInt8):n1 c (c::r)=r:=by simp[n1,LM]
def Zj{b c:UInt8}(h:b≠c)(r:List UInt8):n1 c (b::r)=n1 c r:=by simp[n1,HJ h]
def zmh{c:UInt8}{s:List UInt8}(h:c∉s):cu c s=s:=by
 induction s with
 |nil=>rfl
 |cons b r aX=>simp only[eT,not_or]at h;rw[HJ (fun e=>h.1 e.symm),aX h.2]
def Y2{c:UInt8}{s:List UInt8}(h:c∈s):s=cu c s++c::n1 c s:=by
 induction s with
 |nil=>cases h
 |cons b r aX=>
  by_cases e:b=c
  ·subst e;rw[LM,Zi];rfl
  ·rw[HJ e,Zj e];have:=aX ((eT.1 h).resolve_left (fun x=>e x.symm));rw[gO,<-this]
def index_one(c:UInt8):∀s:List UInt8,Lib.index s [c]=if c∈s then ((cu c s).length:Int)else -1
 |[]=>by simp[Lib.index]
 |b::r=>by
  have aX:=index_one c r;unfold Lib.index;by_cases h:b=c
  ·subst h;simp[List.isPrefixOf,LM]
  ·have ak:([c].isPrefixOf (b::r))=false:=by simp[List.isPrefixOf];exact fun e=>h e.symm
   rw[ak,aX,HJ h];by_cases hm:c∈r
   ·have bC:¬(((cu c r).length:Int)=-1):=by omega
    simp[hm,bC]
   ·have:c∉b::r:=by simp[hm];exact fun e=>h e.symm
    simp[hm,this]
def ey(c:UInt8):List UInt8->List (List UInt8)
 |[]=>[[]]
 |b::r=>if b=c then []::ey c r else match ey c r with
  |h::t=>(b::h)::t
  |[]=>[[b]]
def sR(c:UInt8)(s:List UInt8):ey c s≠[]:=by
 cases s with
 |nil=>simp[ey]
 |cons b r=>
  unfold ey;split
  ·simp
  ·split<;>simp
def zmN{c:UInt8}{s:List UInt8}(h:c∈s):ey c s=cu c s::ey c (n1 c s):=by
 induction s with
 |nil=>cases h
 |cons b r aX=>
  by_cases e:b=c
  ·subst e;rw[LM,Zi];simp[ey]
  ·rw[HJ e,Zj e,ey,au e,aX ((eT.1 h).resolve_left (fun x=>e x.symm))]
def Zk{c:UInt8}{s:List UInt8}(h:c∉s):ey c s=[s]:=by
 induction s with
 |nil=>rfl
 |cons b r aX=>simp only[eT,not_or]at h;rw[ey,au (fun e=>h.1 e.symm),aX h.2]
def PX(c:UInt8):∀(k:Nat) (s:List UInt8),s.count c<=k->Lib.splitK [c] 0 k s=ey c s
 |0,s,h=>by
  have:c∉s:=fun hm=>by have:=List.count_pos_iff.2 hm;omega
  rw[Zk this];rfl
 |k+1,s,h=>by
  unfold Lib.splitK;rw[index_one];by_cases hm:c∈s
  ·have bC:¬(((cu c s).length:Int)=-1):=by omega
   have e:=Y2 hm;have ao:(n1 c s).count c<=k:=by have:=mH (List.count c) e;rw[List.count_append,List.count_cons_self]at this;omega
   rw[aC hm,zmN hm,<-PX c k _ ao];have ba:s.take (cu c s).length=cu c s:=by have:=mH (List.take (cu c s).length) e;rw[List.take_left' rfl]at this;exact this
   simp[bC,ba,n1]
  ·rw[au hm,Zk hm];rfl
def hG(c:UInt8):List (List UInt8)->List UInt8
 |[]=>[]
 |[a]=>a
 |a::b::r=>a++c::hG c (b::r)
def yd(c:UInt8)(s:List UInt8):hG c (ey c s)=s:=by
 induction s with
 |nil=>rfl
 |cons b r aX=>
  rw[ey];cases ap:ey c r with
  |nil=>exact absurd ap (sR c r)
  |cons h t=>
   rw[ap]at aX;split
   ·rename_i e;subst e;simp[hG,aX]
   ·cases t with
    |nil=>simp[hG]at aX⊢;exact aX
    |cons ab t2=>simp[hG]at aX⊢;exact aX
def GA(c:UInt8)(s:List UInt8):(ey c s).length<=s.length+1:=by
 induction s with
 |nil=>simp[ey]
 |cons b r aX=>
  rw[ey];split
  ·simpa using aX
  ·split
   ·rename_i e;rw[e]at aX;simpa using DX aX
   ·simp
end Go.Proofs.YtaalfcghmjkaeaaGreatDoor
namespace Go.Proofs.YtaalfcghmjkaeaaGreatDoor
open Go Go.Proofs.Tryz
set_option maxRecDepth 100000
def ziR:Go.Shelf.Ren:=⟨iF [(138,260),(143,252),(195,287),(197,178),(217,222),(218,288),(219,209),(221,210),(224,224),(225,225),(260,226),(266,273),(267,258),(268,259),(314,286)],iF [(0,0),(3,3),(4,4),(5,5),(9,9),(21,21),(31,34),(46,180),(51,242),(105,254),(119,327),(138,329),(139,330),(146,344)],iF [(1,0),(3,1),(4,2)]⟩
def Aw:Go.Proofs.Lays.n221 prog ziR where
 mixed:=by kernel_rfl
 f138:=bJ func260
 f143:=bJ func252
 f195:=bJ func287
 f197:=bJ func178
 f217:=bJ func222
 f218:=bJ func288
 f219:=bJ func209
 f221:=bJ func210
 f224:=bJ func224
 f225:=bJ func225
 f260:=bJ func226
 f266:=bJ func273
 f267:=bJ func258
 f268:=bJ func259
 f314:=bJ func286
 t0:=underlying0
 a0:=isAgg0
 z0:=sizeOf0
 v0:=zeroValue0
 t3:=underlying3
 a3:=isAgg3
 z3:=sizeOf3
 v3:=zeroValue3
 t4:=underlying4
 a4:=isAgg4
 z4:=sizeOf4
 v4:=zeroValue4
 t5:=underlying5
 a5:=isAgg5
 z5:=sizeOf5
 v5:=zeroValue5
 t9:=underlying9
 a9:=isAgg9
 z9:=sizeOf9
 v9:=zeroValue9
 t21:=underlying21
 a21:=isAgg21
 z21:=sizeOf21
 v21:=zeroValue21
 t31:=underlying34
 a31:=isAgg34
 z31:=sizeOf34
 v31:=zeroValue34
 t46:=underlying180
 a46:=isAgg180
 z46:=sizeOf180
 v46:=zeroValue180
 t51:=underlying242
 a51:=isAgg242
 z51:=sizeOf242
 v51:=zeroValue242
 t105:=underlying254
 a105:=isAgg254
 z105:=sizeOf254
 v105:=zeroValue254
 t119:=underlying327
 a119:=isAgg327
 z119:=sizeOf327
 t138:=underlying329
 a138:=isAgg329
 z138:=sizeOf329
 v138:=zeroValue329
 t139:=underlying330
 a139:=isAgg330
 z139:=sizeOf330
 v139:=zeroValue330
 t146:=underlying344
 a146:=isAgg344
 z146:=sizeOf344
 v146:=zeroValue344
 g1:=by kernel_rfl
 g3:=by kernel_rfl
 g4:=by kernel_rfl
def ziS:Go.Shelf.Ren:=⟨iF [(129,153),(171,187),(172,129),(205,282),(243,244),(244,190),(245,191),(246,279),(247,245),(279,246),(280,247),(281,248),(282,249),(283,297),(284,298),(285,299),(286,300),(287,280),(316,281),(317,308),(318,309),(319,310),(320,311),(321,301),(322,302),(337,314),(338,315)],iF [(0,0),(2,2),(3,3),(4,4),(5,5),(9,9),(20,20),(21,21),(37,54),(46,180),(51,242),(53,127),(75,171),(76,172),(80,175),(85,303),(127,232),(143,354),(145,356),(167,302),(168,305),(171,350),(173,352),(175,337),(210,340),(212,362),(213,363),(232,367),(233,368)],iF [(15,3),(16,4),(17,5),(18,6),(19,7)]⟩
def ziT:Go.Proofs.Lays.n172 prog ziS where
 mixed:=by kernel_rfl
 f129:=bJ func153
 f171:=bJ func187
 f172:=bJ func129
 f205:=bJ func282
 f243:=bJ func244
 f244:=bJ func190
 f245:=bJ func191
 f246:=bJ func279
 f247:=bJ func245
 f279:=bJ func246
 f280:=bJ func247
 f281:=bJ func248
 f282:=bJ func249
 f283:=bJ func297
 f284:=bJ func298
 f285:=bJ func299
 f286:=bJ func300
 f287:=bJ func280
 f316:=bJ func281
 f317:=bJ func308
 f318:=bJ func309
 f319:=bJ func310
 f320:=bJ func311
 f321:=bJ func301
 f322:=bJ func302
 f337:=bJ func314
 f338:=bJ func315
 t0:=underlying0
 a0:=isAgg0
 z0:=sizeOf0
 v0:=zeroValue0
 t2:=underlying2
 a2:=isAgg2
 z2:=sizeOf2
 v2:=zeroValue2
 t3:=underlying3
 a3:=isAgg3
 z3:=sizeOf3
 v3:=zeroValue3
 t4:=underlying4
 a4:=isAgg4
 z4:=sizeOf4
 v4:=zeroValue4
 t5:=underlying5
 a5:=isAgg5
 z5:=sizeOf5
 v5:=zeroValue5
 t9:=underlying9
 a9:=isAgg9
 z9:=sizeOf9
 v9:=zeroValue9
 t20:=underlying20
 a20:=isAgg20
 z20:=sizeOf20
 v20:=zeroValue20
 t21:=underlying21
 a21:=isAgg21
 z21:=sizeOf21
 v21:=zeroValue21
 t37:=underlying54
 a37:=isAgg54
 z37:=sizeOf54
 v37:=zeroValue54
 t46:=underlying180
 a46:=isAgg180
 z46:=sizeOf180
 v46:=zeroValue180
 t51:=underlying242
 a51:=isAgg242
 z51:=sizeOf242
 v51:=zeroValue242
 t53:=underlying127
 a53:=isAgg127
 z53:=sizeOf127
 v53:=zeroValue127
 t75:=underlying171
 a75:=isAgg171
 z75:=sizeOf171
 v75:=zeroValue171
 t76:=underlying172
 a76:=isAgg172
 z76:=sizeOf172
 v76:=zeroValue172
 t85:=underlying303
 a85:=isAgg303
 z85:=sizeOf303
 v85:=zeroValue303
 t127:=underlying232
 a127:=isAgg232
 z127:=sizeOf232
 v127:=zeroValue232
 t143:=underlying354
 a143:=isAgg354
 z143:=sizeOf354
 v143:=zeroValue354
 t145:=underlying356
 a145:=isAgg356
 z145:=sizeOf356
 v145:=zeroValue356
 t167:=underlying302
 a167:=isAgg302
 z167:=sizeOf302
 v167:=zeroValue302
 t168:=underlying305
 a168:=isAgg305
 z168:=sizeOf305
 v168:=zeroValue305
 t171:=underlying350
 a171:=isAgg350
 z171:=sizeOf350
 v171:=zeroValue350
 t173:=underlying352
 a173:=isAgg352
 z173:=sizeOf352
 v173:=zeroValue352
 t175:=underlying337
 a175:=isAgg337
 z175:=sizeOf337
 v175:=zeroValue337
 t210:=underlying340
 a210:=isAgg340
 z210:=sizeOf340
 v210:=zeroValue340
 t212:=underlying362
 a212:=isAgg362
 z212:=sizeOf362
 v212:=zeroValue362
 t213:=underlying363
 a213:=isAgg363
 z213:=sizeOf363
 t232:=underlying367
 a232:=isAgg367
 z232:=sizeOf367
 v232:=zeroValue367
 t233:=underlying368
 a233:=isAgg368
 z233:=sizeOf368
 v233:=zeroValue368
 g15:=by kernel_rfl
 g16:=by kernel_rfl
 g17:=by kernel_rfl
 g18:=by kernel_rfl
 g19:=by kernel_rfl
end Go.Proofs.YtaalfcghmjkaeaaGreatDoor
namespace Go.Proofs.YtaalfcghmjkaeaaGreatDoor
open Go Go.Ab Go.Proofs.Tryz Go.IntKind
variable [bf]
set_option maxRecDepth 100000
set_option maxHeartbeats 4000000
def V4(c:UInt8)(s:List UInt8):Lib.indexByte s c=if c∈s then ((cu c s).length:Int)else -1:=by rw[<-Lib.index_one,index_one]
def G5(c:UInt8)(s:List UInt8):(cu c s).length<=s.length:=(KU _).length_le
def zme{c:UInt8}{s:List UInt8}(h:c∈s):(cu c s).length+1<=s.length:=by have:=mH List.length (Y2 h);simp at this;omega
def XI(s:List UInt8)(c:UInt8):aD prog 209 [.one (.str s),.one (.str [c])] (.x (.one (.int .i64 (if c∈s then ((cu c s).length:Int)else -1)))):=by rw[<-V4];refine aD.C2 [.string ⟨s.toArray⟩,.string ⟨[c].toArray⟩] _ (nc f209 (by kernel_rfl) (by kernel_rfl) rfl) rfl (fun _ _=>O7 _ _) (fun _ w=>?_);refine(Any.stringslite_Index_one {Aw with} ⟨s.toArray⟩ c w).mono ?_;rintro e w' ⟨rfl,rfl⟩;exact⟨rfl,RowKit.Below.refl _ _⟩
def zmf(c:UInt8)(s:List UInt8):s.take (cu c s).length=cu c s:=by
 conv=>rhs;unfold cu
 rw[Y3];congr 1;unfold cu;rw[Y3,d'];exact K2 List.findIdx_le_length
def zmg(s:List UInt8)(c:UInt8):aD prog 154 [.one (.str s),.one (.str [c])] (.b2 [.one (.str (cu c s)),.one (.str (if c∈s then n1 c s else [])),.one (.bool (decide (c∈s)))]):=by
 refine aD.a6 f154 mixed fun aE=>?_;have ap:s.length<=maxLen:=by have:=aE _ kl;simpa[az.ok,af.ok]using this
 simp-implicitDefEqProofs;refine aA.of (XI s c) ?_;by_cases h:c∈s
 ·have ae:=zme h;have aa:(0<=((cu c s).length:Int))=True:=aL (by omega);have hw:i64.wrap (((cu c s).length:Int)+1)=(((cu c s).length+1:Nat):Int):=by rw[bk _ (by unfold maxLen at ap;omega)];omega
  have ab:((cu c s).length<=s.length)=True:=aL (by omega);have ar:((cu c s).length+1<=s.length)=True:=aL (by omega);have ba:=zmf c s;have bj:s.drop ((cu c s).length+1)=n1 c s:=rfl;simp-implicitDefEqProofs[h,aa,hw,ab,ba,bj];exact⟨by omega,by omega⟩
 ·have aT:=zmh h;simp-implicitDefEqProofs[h,aT]
def KN(s:List UInt8)(c:UInt8):aD prog 90 [.one (.str s),.one (.str [c])] (.b2 [.one (.str (cu c s)),.one (.str (if c∈s then n1 c s else [])),.one (.bool (decide (c∈s)))]):=by refine aD.a6 f90 mixed fun aE=>?_;simp-implicitDefEqProofs;refine aA.of (zmg s c) ?_;simp-implicitDefEqProofs
def PW:∀xs:List ByteArray,(((xs.map (·.data.toList)).map fun s=>[af.str s])).flatten=xs.map fun x=>af.str x.data.toList
 |[]=>rfl
 |a::r=>by have:=PW r;simp only[iw,qn,this];rfl
def zmi{f:FuncId}{args:List az}(vs:List Value)(xs:List ByteArray)(t:TypeId)(ao:r6 prog f)(bj:vR args=some vs)
  (al:∀x∈xs,x.data.toList.length<=maxLen)(aT:xs.length<=maxLen)
  (h:∀w,Calls prog f vs.toArray w fun e w'=>e=.returned (.slice (some ⟨w.heap.size,0,none⟩) xs.length xs.length)/\w'=w.alloc (.cells (xs.map Value.string).toArray t)) :
  aD prog f args (.x (strs (xs.map (·.data.toList)))):=by
 refine⟨ao,fun w S us bW fJ=>?_⟩;have e:us=vs.toArray:=by have:=Gb (us:=us.toList) (by rw[iZ];exact fJ.1) (fun j x ac=>by simpa using fJ.2 j x ac) bj;rw[<-this]
 subst e;refine(h w).mono ?_;rintro e w' ⟨rfl,rfl⟩;have eh:=PW xs;have hlen:((xs.map (·.data.toList)).map fun s=>[af.str s]).length=xs.length:=by simp
 refine⟨_,rfl,(RowKit.Below.refl _ _).alloc (eG _) _,?_,fun b ae=>by cases ae⟩;rw[<-hlen];refine bn.list ⟨w.heap.size,0,none⟩ _ 1 _ (fun j=>(xs[j]?.map Value.string).getD .nilIface) (Or.inr ⟨eG _,by show _<(w.heap.push _).size;rw[Array.size_push];exact Nat.lt_succ_self _⟩) rfl (eG _) (by rw[hlen];exact aT) (fun x aj=>by obtain⟨y,_,rfl⟩:=hh.1 aj;rfl) (fun j c ac=>?_) (fun j c ac=>?_)
 ·rw[eh,dO]at ac;obtain⟨x,aj,_⟩:=KP.1 ac;rw[ln,World.cell?_alloc_new,aj];simp[aj]
 ·rw[eh,dO]at ac;obtain⟨x,aj,rfl⟩:=KP.1 ac;have hm:x∈xs:=iq aj;rw[aj];exact bn.str _ (al x hm)
def KM(c:UInt8)(s:List UInt8):∀y∈ey c s,y.length<=s.length:=by
 induction s with
 |nil=>intro y aS;simp[ey]at aS;subst aS;simp
 |cons b r aX=>
  intro y aS;by_cases ae:b=c
  ·rw[ey,aC ae]at aS;rcases eT.1 aS with rfl|aS
   ·simp
   ·have:=aX y aS;simp only[eg];omega
  ·rw[ey,au ae]at aS;cases an:ey c r with
   |nil=>exact absurd an (sR c r)
   |cons h t=>
    rw[an]at aS aX;rcases eT.1 aS with rfl|aS
    ·have:=aX h kl;simp only[eg];omega
    ·have:=aX y (l3 _ aS);simp only[eg];omega
def zmj(s:List UInt8)(c:UInt8)(ap:s.length<=600000):aD prog 210 [.one (.str s),.one (.str [c]),.one (.int .i64 0),.one (.int .i64 (-1))] (.x (strs (ey c s))):=by
 have zhr:s.count c<=s.length:=List.count_le_length;have pK:Lib.countB ⟨s.toArray⟩ ⟨[c].toArray⟩=s.count c:=Lib.count_one c s;have cU:(Lib.splitB ⟨[c].toArray⟩ 0 (s.count c) ⟨s.toArray⟩).map (·.data.toList)=ey c s:=by rw[Lib.splitB_data];exact PX c _ _ (eG _)
 have hle:=Lib.splitB_length_le ⟨[c].toArray⟩ 0 (s.count c) ⟨s.toArray⟩;have fM:=Lib.splitB_all ⟨[c].toArray⟩ (eG 1) 0 _ ⟨s.toArray⟩ pK;rw[<-cU];have da:=KM c s;have GW:∀w,Calls prog 210 [Value.string ⟨s.toArray⟩,.string ⟨[c].toArray⟩,.int .i64 0,.int .i64 (-1)].toArray w fun e w'=>
   e=.returned (.slice (some ⟨w.heap.size,0,none⟩) (s.count c+1) (s.count c+1))/\w'=w.alloc (.cells ((Lib.splitB ⟨[c].toArray⟩ 0 (s.count c) ⟨s.toArray⟩).map Value.string).toArray 9):=by
  intro w;have g:=Any.strings_genSplit_core Aw (by kernel_rfl) ⟨s.toArray⟩ ⟨[c].toArray⟩ 0 (-1) (s.count c+1) w (by show s.toArray.size<_;simp;omega) (eG 1) (cd _)
   (fun x cs aj=>(Any.strings_Index_one {Aw with} x c _).mono fun e w' ⟨aa,ab⟩=>⟨by rw[aa];show _=Ending.returned (.int .i64 (Lib.index x.data.toList [c]));rw[Lib.index_one],ab⟩)
   ((Any.strings_Count_one {Aw with} ⟨s.toArray⟩ c w).mono fun e w' ⟨aa,ab⟩=>⟨by rw[aa,pK];rfl,ab⟩)
   (by decide) (by decide) (by rw[aC (by decide),pK];show _=min _ ((s.toArray.size:Int)+1);simp;omega)
  rw[yU,fM]at g;have aI:Lib.cellsOf (Lib.splitB ⟨[c].toArray⟩ 0 (s.count c) ⟨s.toArray⟩) (s.count c+1)=((Lib.splitB ⟨[c].toArray⟩ 0 (s.count c) ⟨s.toArray⟩).map Value.string).toArray:=by rw[<-fM];exact Lib.cellsOf_full _
  rw[aI]at g;exact g
 obtain⟨xs,ex⟩:∃xs,xs=Lib.splitB ⟨[c].toArray⟩ 0 (s.count c) ⟨s.toArray⟩:=⟨_,rfl⟩
 rw[<-ex]at cU fM GW⊢;refine zmi [.string ⟨s.toArray⟩,.string ⟨[c].toArray⟩,.int .i64 0,.int .i64 (-1)] xs 9 (nc f210 (by kernel_rfl) (by kernel_rfl) rfl) rfl (fun x aj=>?_) (by rw[fM];unfold maxLen;omega) (fun w=>by rw[fM];exact GW w);have:=da x.data.toList (by rw[<-cU];exact List.mem_map_of_mem aj);unfold maxLen;omega
def Km(s:List UInt8)(c:UInt8)(ap:s.length<=600000):aD prog 155 [.one (.str s),.one (.str [c])] (.x (strs (ey c s))):=by refine aD.a6 f155 mixed fun aE=>?_;simp-implicitDefEqProofs;refine aA.of (zmj s c ap) ?_;simp-implicitDefEqProofs
def Hb(s:List UInt8)(n:Int)(al:s.length<=18)(h:Lib.atoi s=some n):aD prog 129 [.one (.str s)] (.b2 [.one (.int .i64 n),.one (.atom .nilIface)]):=by
 refine aD.C2 [.string ⟨s.toArray⟩] (.tuple #[.int .i64 n,.nilIface]) (nc f129 (by kernel_rfl) (by kernel_rfl) rfl) rfl (fun w S=>?_) (fun _ w=>?_)
 ·refine⟨_,rfl,rfl,fun j x ac=>?_⟩
  match j,ac with
  |0,ac=>cases ac;exact⟨_,rfl,bn.int _ _⟩
  |1,ac=>cases ac;exact⟨_,rfl,bn.atom _ rfl⟩
  |j+2,ac=>simp at ac
 refine(Any.strconv_Atoi ziT ⟨s.toArray⟩ n (by show s.toArray.size<=18;simpa using al) h w).mono ?_;rintro e w' ⟨rfl,t,rfl⟩;exact⟨rfl,Lib.bytesWorld_below _ _ _⟩
abbrev wj:List UInt8:=[48,49,50,51,52,53,54,55,56,57]
def zjf(b:UInt8):wj.contains b=df b:=by rw[q4];simp only[df,b4,hF,List.contains_iff_mem,eT,List.not_mem_nil,or_false,<-uw];simp;omega
def Qg(s:List UInt8):(Lib.trimS s wj=[])↔s.all df=true:=by rw[Gv];have:(fun b=>wj.contains b)=df:=funext zjf;rw[this]
def Qh(l:List (List UInt8))(e:List UInt8):aD prog 17 [strs l,.one (.str e)] (.x (.one (.int .i64 (match l.findIdx? (·==e)with|some i=>(i:Int)|none=>-1)))):=by
 refine aD.a6 f17 mixed fun aE=>?_;have al:l.length<=maxLen:=by have:=aE _ kl;simp[az.ok,af.ok]at this;exact this.1
 simp-implicitDefEqProofs +contextual[-Bool.and_eq_false_imp];refine cI.of Nat (fun i=>[(0,.x (strs l)),(1,.x (.one (.str e))),(7,.x (.one (.int .i64 l.length))),(8,.x (.one (.int .i64 i)))]) (fun i=>i<=l.length/\∀j,(h:j<i)->(ac:j<l.length)->l[j]≠e) (fun i=>l.length-i) 0 ⟨cd _,fun j h=>by omega⟩ ?_ ?_
 ·simp
 rintro i ⟨ai,ak⟩;by_cases aq:i<l.length
 ·have aO:((i:Int)<(l.length:Int))=True:=aL (by omega);have bG:i64.wrap ((i:Int)+1)=(i:Int)+1:=bk _ (by unfold maxLen at al;omega);by_cases he:l[i]=e
  ·have ay:l.findIdx? (·==e)=some i:=by
    rw[s8];exact⟨aq,by simp[he],fun j ac=>by simpa using ak j ac (by omega)⟩
   rw[ay];simp-implicitDefEqProofs[aq,aO,he]
  ·have oS:(e=l[i])=False:=aV fun h=>he h.symm;simp-implicitDefEqProofs[aq,aO,oS,bG];refine bI.of (i+1) ⟨by omega,fun j h ac=>?_⟩ (by omega) (by simp);by_cases fA:j=i
   ·subst fA;exact he
   ·exact ak j (by omega) ac
 ·have ay:l.findIdx? (·==e)=none:=by
   rw[AM];intro x aj;obtain⟨j,ac,rfl⟩:=Qi.1 aj;simpa using ak j (by omega) ac
  rw[ay];have aO:((i:Int)<(l.length:Int))=False:=aV (by omega);simp-implicitDefEqProofs[aO]
def AN(l:List (List UInt8))(e:List UInt8):aD prog 8 [strs l,.one (.str e)] (.x (.one (.bool (decide (e∈l))))):=by
 refine aD.a6 f8 mixed fun aE=>?_;simp-implicitDefEqProofs;refine aA.of (Qh l e) ?_;cases h:l.findIdx? (·==e)with
 |some i=>
  have hm:e∈l:=by
   rw[s8]at h;obtain⟨ai,he,_⟩:=h;have:l[i]=e:=by simpa using he
   rw[<-this];exact jN ai
  simp-implicitDefEqProofs[hm]
 |none=>
  have hm:e∉l:=by rw[AM]at h;intro hm;simpa using h e hm
  simp-implicitDefEqProofs[hm]
end Go.Proofs.YtaalfcghmjkaeaaGreatDoor
namespace Go.Proofs.YtaalfcghmjkaeaaGreatDoor
open Go
def Xn(y m d h i s:Int):Prop:=1970<=y/\(1<=m/\m<=12)/\(1<=d/\d<=p1 y m)/\(0<=h/\h<=23)/\(0<=i/\i<=59)/\(0<=s/\s<=59)
instance (y m d h i s:Int):Decidable (Xn y m d h i s):=by unfold Xn;infer_instance
def zjd(y m d h i s:Int):Int:=(fv y+fS y m+d-1)*86400+h*3600+i*60+s
def zje:fv 1970=0:=by decide
end Go.Proofs.YtaalfcghmjkaeaaGreatDoor
namespace Go.Proofs.YtaalfcghmjkaeaaGreatDoor
open Go Go.Ab Go.Proofs.Tryz Go.IntKind
variable [bf][cK prog]
set_option maxRecDepth 100000
set_option maxHeartbeats 4000000
def rp:List (List UInt8):=[[74,97,110],[70,101,98],[77,97,114],[65,112,114],[77,97,121],[74,117,110],[74,117,108],[65,117,103],[83,101,112],[79,99,116],[78,111,118],[68,101,99]]
def DS:List (List UInt8):=[[77,111,110],[84,117,101],[87,101,100],[84,104,117],[70,114,105],[83,97,116],[83,117,110]]
def XM:aD prog 278 [] (.x (strs rp)):=by refine aD.a6 f278 mixed fun aE=>?_;simp-implicitDefEqProofs[rp]
def zjP:aD prog 276 [] (.x (strs DS)):=by refine aD.a6 f276 mixed fun aE=>?_;simp-implicitDefEqProofs[DS]
def zjQ(m:Nat)(h:1<=m/\m<=12):rp.getD (m-1) []=sZ m:=by
 have:∀k:Fin 12,rp.getD k.val []=sZ (k.val+1):=by decide
 have:=this ⟨m-1,by omega⟩;simp only at this;rw[this,show m-1+1=m by omega]
def zjR(k:Nat)(h:k<7):DS.getD k []=uB ((k+1)%7):=by
 have:∀k:Fin 7,DS.getD k.val []=uB ((k.val+1)%7):=by decide
 exact this ⟨k,h⟩
def XN(t:Int)(h:hV t=true):aD prog 243 [.one (.int .i64 t)] (.x (.one (.str (mr t)))):=by
 have ae:=KS h;have aE:=P2 h;have aF:=zhP t h;unfold P1 at aF;unfold mr;obtain⟨W,GD⟩:∃W,W=((t/86400+4)%7).toNat:=⟨_,rfl⟩
 obtain⟨v,ev⟩:∃v:Nat,v=((t/86400+3)%7).toNat:=⟨_,rfl⟩
 have aH:v<7:=by omega
 have dq:W=(v+1)%7:=by omega
 obtain⟨⟨E1,E2⟩,⟨m1,m2⟩,⟨d1,d2⟩⟩:=aE;have GJ:t.tdiv 86400=t/86400:=yi _ ae.1;obtain⟨Q,eq⟩:∃Q,Q=t/86400:=⟨_,rfl⟩
 have x8:0<=Q/\Q<=2932896:=by omega
 have dL:(Q+3).tmod 7=(v:Int):=by rw[AA _ (by omega)];omega
 obtain⟨H,zjS⟩:∃H:Nat,H=(t%86400/3600).toNat:=⟨_,rfl⟩
 obtain⟨I,zjT⟩:∃I:Nat,I=(t%86400/60%60).toNat:=⟨_,rfl⟩
 obtain⟨S,G'⟩:∃S:Nat,S=(t%86400%60).toNat:=⟨_,rfl⟩
 obtain⟨Y,DB⟩:∃Y:Nat,Y=(ij (t/86400)).toNat:=⟨_,rfl⟩
 obtain⟨M,o3⟩:∃M:Nat,M=(n3 (t/86400)).toNat:=⟨_,rfl⟩
 obtain⟨D,we⟩:∃D:Nat,D=(ra (t/86400)).toNat:=⟨_,rfl⟩
 have DP:t%86400/3600=(H:Int):=by omega
 have zjU:t%86400/60%60=(I:Int):=by omega
 have bW:t%86400%60=(S:Int):=by omega
 have uF:ij (t/86400)=(Y:Int):=by omega
 have ho:n3 (t/86400)=(M:Int):=by omega
 have hA:ra (t/86400)=(D:Int):=by omega
 rw[DP,zjU,bW,uF,ho,hA]at aF;rw[<-GD,<-zjS,<-zjT,<-G',<-DB,<-o3,<-we,dq];have dm:=GY D 2 (by omega) (by omega) (by omega);have dF:=GY Y 4 (by omega) (by omega) (by omega);have je:=GY H 2 (by omega) (by omega) (by omega);have jf:=GY I 2 (by omega) (by omega) (by omega);have kA:=GY S 2 (by omega) (by omega) (by omega);have cH:i64.wrap (t/86400)=Q:=by rw[<-eq];exact bk _ (by omega)
 have dW:i64.wrap (Q+3)=Q+3:=bk _ (by omega);have hs:i64.wrap (v:Int)=(v:Int):=bk _ (by omega);have q8:i64.wrap ((M:Int)-1)=(((M-1:Nat)):Int):=by rw[bk _ (by omega)];omega
 have Hh:∀k n,(fZ k n).length=k:=AD;have bj:=zjR v aH;have hm:=zjQ M (by omega);have zjV:DS.length=7:=rfl;have zjW:rp.length=12:=rfl;have i1:∀h,((DS.map fun s=>[af.str s])[v]'h)=[.str (uB ((v+1)%7))]:=fun h=>by rw[List.getElem_map];rw[jQ,cn (by omega)]at bj;rw[<-bj];rfl
 have i2:rp[M-1]?=some (sZ M):=by rw[jQ,cn (by omega)]at hm;rw[cn (by omega),<-hm];rfl
 have zjX:(((M-1:Nat):Int)<12)=True:=aL (by omega);refine aD.a6 f243 mixed fun aE=>?_;simp-implicitDefEqProofs;refine aA.of aF ?_;simp-implicitDefEqProofs;refine aA.of zjP ?_;simp-implicitDefEqProofs[GJ,cH,dW,dL,zjV,aH,i1];have zIZ:(uB ((v+1)%7)).length<=3:=by unfold uB;simp only[d'];omega
 have zJa:(sZ M).length<=3:=by unfold sZ;simp only[d'];omega
 clear bj hm i1;generalize uB ((v+1)%7)=zJb at*;have mx:(1000:Nat)<=maxLen:=by unfold maxLen;omega
 have ec:(fZ 2 D).length=2:=Hh 2 D;have l2:(fZ 4 Y).length=4:=Hh 4 Y;have lI:(fZ 2 H).length=2:=Hh 2 H;have mn:(fZ 2 I).length=2:=Hh 2 I;have q9:(fZ 2 S).length=2:=Hh 2 S;generalize fZ 2 D=zJc at*;generalize fZ 4 Y=zJd at*;generalize fZ 2 H=zJe at*;generalize fZ 2 I=zJf at*;generalize fZ 2 S=zJg at*;generalize sZ M=zJh at*;refine⟨by omega,by omega,aA.of dm ?_⟩;simp-implicitDefEqProofs[ec];refine⟨by omega,by omega,aA.of XM ?_⟩;simp-implicitDefEqProofs[q8,zjW,i2,zjX];refine⟨by omega,by omega,aA.of dF ?_⟩;simp-implicitDefEqProofs[ec,l2];refine⟨by omega,by omega,aA.of je ?_⟩;simp-implicitDefEqProofs[ec,l2,lI];refine⟨by omega,by omega,aA.of jf ?_⟩;simp-implicitDefEqProofs[ec,l2,lI,mn];refine⟨by omega,by omega,aA.of kA ?_⟩;simp-implicitDefEqProofs[ec,l2,lI,mn,q9];exact⟨by omega,by omega⟩
def uG(s:List UInt8):List UInt8:=cutAt s 5 7
def rq(s:List UInt8):List UInt8:=cutAt s 12 16
def uH(s:List UInt8):List UInt8:=cutAt s 17 19
def uI(s:List UInt8):List UInt8:=cutAt s 20 22
def uJ(s:List UInt8):List UInt8:=cutAt s 23 25
def iW(s:List UInt8):List (List UInt8):=[uG s,rq s,uH s,uI s,uJ s]
def p'(s:List UInt8):Nat:=match rp.findIdx? (·==cutAt s 8 11)with
 |some i=>i+1
 |none=>0
def ys(s:List UInt8):Int:=zjd (dk (rq s):Nat) (p' s:Nat) (dk (uG s):Nat) (dk (uH s):Nat) (dk (uI s):Nat) (dk (uJ s):Nat)
def o9(s:List UInt8):Bool:=decide (s.length=29)&&((iW s).all (fun x=>x.all df)&&(decide (p' s≠0)&&(decide (1970<=dk (rq s))&&(hV (ys s)&&decide (mr (ys s)=s)))))
def o_(s:List UInt8):Int:=if o9 s=true then ys s else 0
def zjY(s:List UInt8):p' s<=12:=by
 unfold p';cases h:rp.findIdx? (·==cutAt s 8 11)with
 |none=>simp
 |some i=>have:=(s8.1 h).1;simp[rp]at this⊢;omega
def Hi{s:List UInt8}{a b:Int}(aW:0<=a)(aa:a<=b)(ab:b<=s.length):(cutAt s a b).length=(b-a).toNat:=by unfold cutAt;simp;omega
def zjZ(s:List UInt8):(Lib.trimS s wj=[])↔s.all df=true:=Qg s
def zka(s:List UInt8):aD prog 274 [.one (.str s)] (.b2 [.one (.int .i64 (o_ s)),.one (.bool (o9 s))]):=by
 obtain⟨B,di⟩:∃B,B=o9 s:=⟨_,rfl⟩
 obtain⟨V,el⟩:∃V,V=o_ s:=⟨_,rfl⟩
 rw[<-di,<-el];unfold o_ at el;rw[<-di]at el;unfold o9 at di;by_cases al:s.length=29;rotate_left
 ·have du:((s.length:Int)=29)=False:=aV (by omega);rw[nb al,kq]at di;subst di;rw[au (by decide)]at el;subst el;refine aD.a6 f274 mixed fun aE=>?_;simp-implicitDefEqProofs[du]
 rw[s6 al,kL]at di;have du:((s.length:Int)=29)=True:=aL (by omega);have ps:aD prog 17 [strs rp,.one (.str (cutAt s 8 11))] (.x (.one (.int .i64 ((p' s:Int)-1)))):=by
  have k:=Qh rp (cutAt s 8 11);unfold p';cases h:rp.findIdx? (·==cutAt s 8 11)with
  |none=>rw[h]at k;exact k
  |some i=>rw[h]at k;simpa using k
 have zJi:=zjY s;have zkb:i64.wrap ((p' s:Int)-1+1)=(p' s:Int):=by rw[bk _ (by omega)];omega
 have zkc:i64.wrap (p' s:Int)=(p' s:Int):=bk _ (by omega);refine aD.a6 f274 mixed fun aE=>?_;simp-implicitDefEqProofs[du];refine aA.of XM ?_;simp-implicitDefEqProofs;have dm:cutAt s 5 7=uG s:=rfl;have dF:cutAt s 12 16=rq s:=rfl;have je:cutAt s 17 19=uH s:=rfl;have jf:cutAt s 20 22=uI s:=rfl;have kA:cutAt s 23 25=uJ s:=rfl;have jw:(uG s).length=2:=Hi (by omega) (by omega) (by omega);have mV:(rq s).length=4:=Hi (by omega) (by omega) (by omega);have QC:(uH s).length=2:=Hi (by omega) (by omega) (by omega);have zkd:(uI s).length=2:=Hi (by omega) (by omega) (by omega);have zke:(uJ s).length=2:=Hi (by omega) (by omega) (by omega);have Hj:(7<=(s.length:Int))=True:=aL (by omega);have zkf:(16<=(s.length:Int))=True:=aL (by omega);have zkg:(19<=(s.length:Int))=True:=aL (by omega);have zkh:(22<=(s.length:Int))=True:=aL (by omega);have zki:(25<=(s.length:Int))=True:=aL (by omega);refine⟨by omega,aA.of ps ?_⟩;simp-implicitDefEqProofs[zkc,dm,dF,je,jf,kA,Hj,zkf,zkg,zkh,zki];have XO:(iW s).length=5:=rfl;have zkj:∀x∈iW s,1<=x.length/\x.length<=4:=by intro x aj;simp only[iW,eT,List.not_mem_nil,or_false]at aj;rcases aj with rfl|rfl|rfl|rfl|rfl<;>omega
 have zkk:([[.str (uG s)],[.str (rq s)],[.str (uH s)],[.str (uI s)],[.str (uJ s)]]:List (List af))=(iW s).map fun x=>[.str x]:=rfl;have fin:∀(K:List (List UInt8)),K=iW s->True:=fun _ _=>trivial;refine cI.of Nat (fun i=>[(0,.x (.one (.str s))),(4,.x (.one (.int .i64 (p' s:Nat)))),(5,.own 3 1 (((iW s).take i).map fun x=>[.int .i64 (dk x:Nat)])),(29,.own 9 1 ((iW s).map fun x=>[.str x])),(30,.x (.one (.int .i64 5))),(31,.x (.one (.int .i64 i)))]) (fun i=>i<=5/\((iW s).take i).all (fun x=>x.all df)=true) (fun i=>5-i) 0 ⟨by omega,by simp⟩ ?_ ?_
 ·simp[zkk]
 rintro i ⟨ai,ax⟩;by_cases aq:i<5
 ·have aO:((i:Int)<5)=True:=aL (by omega);have bG:i64.wrap ((i:Int)+1)=(i:Int)+1:=bk _ (by omega);have i8:i<(iW s).length:=by omega
  obtain⟨x,ex⟩:∃x,x=(iW s)[i]:=⟨_,rfl⟩
  have XP:=zkj x (by rw[ex];exact jN i8);have bO:(iW s)[i]?=some x:=by rw[ex];exact cn i8
  have ba:(iW s).take (i+1)=(iW s).take i++[x]:=by rw[ex,nF i8]
  have Ij:((iW s).take i).length=i:=by rw[d',XO];omega
  have aF:=x4 x wj (by decide) (by decide);have ao:=zjZ x;generalize Lib.trimS x wj=T at aF ao;unfold wj at aF;simp-implicitDefEqProofs[aO,bO,XO];refine aA.of aF ?_;by_cases b_:T=[]
  ·have QD:=ao.1 b_;subst b_;have aY:dk x<10^4:=u0 (ux x QD) (Dh (by omega) XP.2);have aP:=Hb x _ (by omega) (Xq QD (by rintro rfl;simp at XP));simp-implicitDefEqProofs;refine aA.of aP ?_;have gA:i+1<=maxLen:=by unfold maxLen;omega
   simp-implicitDefEqProofs[bG];refine⟨⟨by omega,by unfold maxLen;omega⟩,?_⟩;refine bI.of (i+1) ⟨by omega,?_⟩ (by omega) (by simp[ba]);rw[ba,tL,ax];simp only[qW,List.all_nil,Bool.and_true,kL];exact QD
  ·have bl:B=false:=by
    rw[di];have:((iW s).all fun x=>x.all df)=false:=by rw[List.all_eq_false];exact⟨x,by rw[ex];exact jN i8,fun h=>b_ (ao.2 h)⟩
    rw[this];rfl
   subst bl;rw[au (by decide)]at el;subst el;simp-implicitDefEqProofs[b_]
 ·have dd:i=5:=by omega
  subst dd;have fM:((iW s).all fun x=>x.all df)=true:=by rw[iv (by omega)]at ax;exact ax
  rw[fM,kL]at di;have ul:∀x∈iW s,x.all df=true:=fun x aj=>fm.1 fM x aj;have v1:dk (uG s)<100:=by have:=ux (uG s) (ul _ (by simp[iW]));rw[jw]at this;exact this
  have v2:dk (rq s)<10000:=by have:=ux (rq s) (ul _ (by simp[iW]));rw[mV]at this;exact this
  have v3:dk (uH s)<100:=by have:=ux (uH s) (ul _ (by simp[iW]));rw[QC]at this;exact this
  have v4:dk (uI s)<100:=by have:=ux (uI s) (ul _ (by simp[iW]));rw[zkd]at this;exact this
  have v5:dk (uJ s)<100:=by have:=ux (uJ s) (ul _ (by simp[iW]));rw[zke]at this;exact this
  have XQ:ys s=(fv (dk (rq s):Nat)+fS (dk (rq s):Nat) (p' s:Nat)+(dk (uG s):Nat)-1)*86400+(dk (uH s):Nat)*3600+(dk (uI s):Nat)*60+(dk (uJ s):Nat):=rfl;have zkl:(((iW s).take 5).map fun x=>[af.int .i64 (dk x:Nat)])=[[.int .i64 (dk (uG s):Nat)],[.int .i64 (dk (rq s):Nat)],[.int .i64 (dk (uH s):Nat)],[.int .i64 (dk (uI s):Nat)],[.int .i64 (dk (uJ s):Nat)]]:=rfl;rw[zkl];generalize dk (uG s)=D at*;generalize dk (rq s)=Y at*;generalize dk (uH s)=H at*;generalize dk (uI s)=I at*;generalize dk (uJ s)=S at*;generalize p' s=M at*;by_cases ho:M=0
  ·subst ho;have bl:B=false:=by rw[di];rfl
   subst bl;rw[au (by decide)]at el;subst el;simp-implicitDefEqProofs
  have DT:((M:Int)=0)=False:=aV (by omega);rw[s6 ho,kL]at di;by_cases uF:1970<=Y;rotate_left
  ·have QE:((Y:Int)<1970)=True:=aL (by omega);have bl:B=false:=by rw[di,nb uF];rfl
   subst bl;rw[au (by decide)]at el;subst el;simp-implicitDefEqProofs[ho,QE]
  have QE:((Y:Int)<1970)=False:=aV (by omega);rw[s6 uF,kL]at di;have xr:=AB (Y:Int) (M:Int) (by omega) (by omega);obtain⟨A,iT⟩:∃A,A=fv (Y:Int)+fS (Y:Int) (M:Int):=⟨_,rfl⟩
  have cY:-1000000<=A/\A<=4000000:=by
   have d1:=GR (Y:Int) (a:=1) (b:=(M:Int)) (by omega) (by omega);have d2:=GR (Y:Int) (a:=(M:Int)) (b:=13) (by omega) (by omega);rw[GO]at d1;rw[WE]at d2;have d3:uz (Y:Int)<=366:=by unfold uz;split<;>omega
   have d4:=GS (a:=1970) (b:=(Y:Int)) (by omega);have d5:=GS (a:=(Y:Int)) (b:=10000) (by omega);rw[zje]at d4;have d6:fv 10000=2932897:=by decide
   omega
  rw[<-iT]at xr XQ;have cH:i64.wrap (A+(D:Int))=A+(D:Int):=bk _ (by omega);have dW:i64.wrap (A+(D:Int)-1)=A+(D:Int)-1:=bk _ (by omega);have hs:i64.wrap ((A+(D:Int)-1)*86400)=(A+(D:Int)-1)*86400:=bk _ (by omega);have q8:i64.wrap ((H:Int)*3600)=(H:Int)*3600:=bk _ (by omega);have yj:i64.wrap ((A+(D:Int)-1)*86400+(H:Int)*3600)=(A+(D:Int)-1)*86400+(H:Int)*3600:=bk _ (by omega);have yk:i64.wrap ((I:Int)*60)=(I:Int)*60:=bk _ (by omega);have AC:i64.wrap ((A+(D:Int)-1)*86400+(H:Int)*3600+(I:Int)*60)=(A+(D:Int)-1)*86400+(H:Int)*3600+(I:Int)*60:=bk _ (by omega);have GZ:i64.wrap ((A+(D:Int)-1)*86400+(H:Int)*3600+(I:Int)*60+(S:Int))=ys s:=by rw[XQ];exact bk _ (by omega)
  have fG:=C6 (ys s);have eC:=XN (ys s);simp-implicitDefEqProofs[ho,QE];refine aA.of xr ?_;simp-implicitDefEqProofs[cH,dW,hs,q8,yj,yk,AC,GZ];refine aA.of fG ?_;generalize ys s=N at*;cases hm:hV N
  ·rw[hm]at di;simp only[kq]at di;subst di;rw[au (by decide)]at el;subst el;simp-implicitDefEqProofs;refine bp.of (fun h=>by cases h) (r:=.x (.one (.str []))) rfl ?_;simp-implicitDefEqProofs
  ·rw[hm,kL]at di;simp-implicitDefEqProofs;refine bp.of (fun _=>eC hm) rfl ?_;by_cases fE:mr N=s
   ·rw[s6 fE]at di;subst di;rw[aC rfl]at el;subst el;simp-implicitDefEqProofs[fE]
   ·rw[nb fE]at di;subst di;rw[au (by decide)]at el;subst el;simp-implicitDefEqProofs[fE]
def zkm(s:List UInt8):aD prog 236 [.one (.str s)] (.b2 [.one (.int .i64 (o_ s)),.one (.int .i64 (if o9 s=true then 0 else 10))]):=by
 have k:=zka s;have h:o9 s=false->o_ s=0:=fun h=>by unfold o_;rw[h];rfl
 generalize o_ s=V at*;generalize o9 s=B at*;refine aD.a6 f236 mixed fun aE=>?_;simp-implicitDefEqProofs;refine aA.of k ?_;cases B
 ·rw[h rfl];simp-implicitDefEqProofs
 ·simp-implicitDefEqProofs
def zkn(t:Int):aD prog 186 [.one (.int .i64 t)] (.b2 [.one (.str (if hV t=true then mr t else [])),.one (.int .i64 (if hV t=true then 0 else 1))]):=by
 have fG:=C6 t;have eC:=XN t;generalize mr t=D at*;generalize hV t=B at*;refine aD.a6 f186 mixed fun aE=>?_;simp-implicitDefEqProofs;refine aA.of fG ?_;cases B
 ·simp-implicitDefEqProofs
 ·simp-implicitDefEqProofs;refine aA.of (eC rfl) ?_;simp-implicitDefEqProofs
end Go.Proofs.YtaalfcghmjkaeaaGreatDoor
namespace Go.Proofs.YtaalfcghmjkaeaaGreatDoor
open Go Go.Ab Go.Proofs.Tryz Go.IntKind
def qY(c:UInt8):Bool:=(decide (97<=c.toNat)&&decide (c.toNat<=122)) ||(decide (65<=c.toNat)&&decide (c.toNat<=90))
def gG(c:UInt8):Bool:=df c ||((decide (97<=c.toNat)&&decide (c.toNat<=102)) ||(decide (65<=c.toNat)&&decide (c.toNat<=70)))
def hf(c:UInt8):UInt8:=if 65<=c.toNat/\c.toNat<=90 then c+32 else c
def cD(s:List UInt8):List UInt8:=s.map hf
def sH(c:UInt8):Bool:=qY c ||(df c ||decide (c=45))
def hW(c:UInt8):Bool:=sH c ||decide (c=46)
def x0(s:List UInt8):Bool:=(decide (1<=s.length)&&decide (s.length<=63))&&((decide (s.head?≠some 45)&&decide (s.getLast?≠some 45))&&s.all sH)
def lF(s:List UInt8):Bool:=decide (s.length<=253)&&(ey 46 s).all x0
def gh(s:List UInt8):Nat:=if 1<=s.length/\s.length<=5/\s.all df=true/\dk s<=65535 then dk s else 0
def Gp:List UInt8:=[34,35,60,62,92,94,123,124,125,96]
def lG(c:UInt8):Bool:=(decide (33<=c.toNat)&&decide (c.toNat<=126))&&!Gp.contains c
def sI:List UInt8->Bool
 |a::b::_=>gG a&&gG b
 |_=>false
def cy(w:List UInt8):List UInt8->Nat×Bool
 |[]=>(0,true)
 |c::r=>if w.contains c=true then (0,true)else if lG c=false\/(c=37/\sI r=false)then (0,false)else ((cy w r).1+1,(cy w r).2)
def eM(w s:List UInt8):Bool:=(cy w s).2&&decide ((cy w s).1=s.length)
structure Addr where
 scheme:List UInt8
 host:List UInt8
 port:List UInt8
 path:List UInt8
 query:List UInt8
 jD:Bool
 gH:List UInt8
 k3:Bool
 deriving DecidableEq
def dG:Addr:=⟨[],[],[],[],[],false,[],false⟩
def Addr.row(a:Addr):List af:=[.str a.scheme,.str a.host,.str a.port,.str a.path,.str a.query,.bool a.jD,.str a.gH,.bool a.k3]
def pX(a:Addr):List UInt8:=if a.jD=true then 63::a.query else []
def Ah(a:Addr):List UInt8:=if a.k3=true then 35::a.gH else []
def uo(a:Addr):List UInt8:=a.path++pX a++Ah a
def qZ(a:Addr):List UInt8:=if a.port=[]then []else 58::a.port
def oZ(a:Addr):List UInt8:=a.scheme++[58,47,47]++a.host++qZ a++uo a
def j2:List UInt8:=[104,116,116,112]
def iS:List UInt8:=[104,116,116,112,115]
def uq(p:List UInt8):Bool:=decide (p=[]) ||(decide (p.head?=some 47)&&eM [63] p)
def q0(s:List UInt8):Bool:=decide (cD s=j2) ||decide (cD s=iS)
def e3(a:Addr):Int:=
 if q0 a.scheme=false\/lF a.host=false\/(a.port≠[]/\gh a.port=0)then 10
 else if uq a.path=false\/eM [] a.query=false\/eM [] a.gH=false then 10
 else if (a.query≠[]/\a.jD=false)\/(a.gH≠[]/\a.k3=false)then 3
 else if 2000<(oZ a).length then 2 else 0
def hr:List UInt8->List UInt8->Nat
 |w::ws,t::ts=>if hf t=w then hr ws ts+1 else 0
 |_,_=>0
def x1(t:List UInt8):Except Nat Nat:=
 if hr (j2++[58,47,47]) t=7 then .ok 4 else if hr (iS++[58,47,47]) t=8 then .ok 5 else .error (max (hr (j2++[58,47,47]) t) (hr (iS++[58,47,47]) t))
def vV(c:UInt8):Bool:=decide (c=47) ||(decide (c=63) ||decide (c=35))
def q2:List UInt8->Bool
 |[]=>true
 |c::_=>vV c
def ku(s:List UInt8):Bool×Nat×List UInt8×List UInt8:=
 let h:=s.takeWhile hW
 let p:=(s.drop (h.length+1)).takeWhile df
 if lF h=false then (false,0,h,[])
 else if (s.drop h.length).head?=some 58 then
  if gh p=0 then (false,h.length+1,h,p)else (q2 (s.drop (h.length+1+p.length)),h.length+1+p.length,h,p)
 else (q2 (s.drop h.length),h.length,h,[])
def gu(c:UInt8)(w s:List UInt8):Bool×Nat×List UInt8×Bool:=
 if s.head?=some c then ((cy w (s.drop 1)).2,(cy w (s.drop 1)).1+1,(s.drop 1).take (cy w (s.drop 1)).1,true)else (true,0,[],false)
structure zfR where
 ok:Bool
 n:Nat
 path:List UInt8
 query:List UInt8
 jD:Bool
 gH:List UInt8
 k3:Bool
def hE(s:List UInt8):zfR:=
 let p:=cy [63,35] s
 let q:=gu 63 [35] (s.drop p.1)
 let f:=gu 35 [] (s.drop (p.1+q.2.1))
 if p.2=false then ⟨false,p.1,s.take p.1,[],false,[],false⟩
 else if q.1=false then ⟨false,p.1+q.2.1,s.take p.1,q.2.2.1,q.2.2.2,[],false⟩
 else ⟨f.1,p.1+q.2.1+f.2.1,s.take p.1,q.2.2.1,q.2.2.2,f.2.2.1,f.2.2.2⟩
def C7(t:List UInt8):Except Nat Addr:=
 match x1 t with
 |.error k=>.error k
 |.ok n=>
  let s:=t.drop (n+3)
  let p:=ku s
  let r:=hE (s.drop p.2.1)
  if p.1=false then .error (n+3+p.2.1)
  else if r.ok=false then .error (n+3+p.2.1+r.n)
  else .ok ⟨t.take n,p.2.2.1,p.2.2.2,r.path,r.query,r.jD,r.gH,r.k3⟩
def nd(t:List UInt8):Addr×Int×Int:=
 if 2000<t.length then (dG,0,2)else match C7 t with
 |.error k=>(dG,k,10)
 |.ok a=>(a,0,0)
def ur{p:UInt8->Prop}(h:∀n:Fin 256,p (UInt8.ofNat n.1))(c:UInt8):p c:=by have:=h ⟨c.toNat,c.toNat_lt⟩;simpa using this
def zfS:∀c:UInt8,gG c=true->lG c=true/\c≠37/\c≠35/\c≠63:=ur (by decide +kernel)
def C8{c:UInt8}(h:gG c=true):lG c=true/\c≠37/\c≠35/\c≠63:=zfS c h
def zfT:∀c:UInt8,hf c=58->c=58:=ur (by decide +kernel)
def VR:∀c:UInt8,hf c=47->c=47:=ur (by decide +kernel)
def Kg(w:List UInt8):∀s,(cy w s).1<=s.length
 |[]=>eG _
 |c::r=>by
  have:=Kg w r;unfold cy;split
  ·simp
  ·split
   ·simp
   ·simp only[eg];omega
def Gq{w:List UInt8}{c:UInt8}{r:List UInt8}(aa:w.contains c=false)(ab:lG c=true)(ar:c=37->sI r=true):cy w (c::r)=((cy w r).1+1,(cy w r).2):=by
 rw[cy,au (by rw[aa];decide),au];rintro (h|⟨h,bE⟩)
 ·rw[ab]at h;cases h
 ·rw[ar h]at bE;cases bE
def Pd{w:List UInt8}{c:UInt8}{r:List UInt8}(h:eM w (c::r)=true):w.contains c=false/\lG c=true/\(c=37->sI r=true)/\eM w r=true:=by
 unfold eM at h;simp only[b4,hF]at h;obtain⟨aa,ab⟩:=h;rw[cy]at aa ab;split at aa
 ·rename_i ao;rw[aC ao]at ab;simp at ab
 ·rename_i ao;rw[au ao]at ab;split at aa
  ·cases aa
  ·rename_i ax;rw[au ax]at ab;simp only[eg,Nat.add_right_cancel_iff]at ab;simp only[not_or,not_and,Bool.not_eq_false]at ax;exact⟨by simpa using ao,ax.1,ax.2,by unfold eM;rw[show (cy w r).2=true from aa,ab];simp⟩
def Pe{w:List UInt8}(hw:∀c,w.contains c=true->gG c=false)(w':List UInt8)(ap:∀c,w'.contains c=true->w.contains c=true):∀s:List UInt8,(cy w s).2=true->eM w' (s.take (cy w s).1)=true
 |[],_=>rfl
 |c::r,h=>by
  have aj:∀c,gG c=true->w.contains c=false:=fun c ao=>by
   cases br:w.contains c with
   |false=>rfl
   |true=>rw[hw c br]at ao;cases ao
  rw[cy]at h⊢;split
  ·simp[eM,cy]
  ·rename_i aa;rw[au aa]at h;split
   ·rename_i ab;rw[aC ab]at h;cases h
   ·rename_i ab;rw[au ab]at h;simp only[not_or,not_and,Bool.not_eq_false]at ab;have aX:=Pe hw w' ap r h;rw[BA];have kn:w'.contains c=false:=by
     cases br:w'.contains c with
     |false=>rfl
     |true=>exact absurd (ap c br) aa
    have ar:c=37->sI (r.take (cy w r).1)=true:=by
     intro e;have a1:=ab.2 e
     match r,a1 with
     |a::b::ca,a1=>simp only[sI,b4]at a1;obtain⟨zfU,vW,_⟩:=C8 a1.1;obtain⟨oH,r5,_⟩:=C8 a1.2;rw[Gq (aj a a1.1) zfU (fun e=>absurd e vW),Gq (aj b a1.2) oH (fun e=>absurd e r5)];simp[sI,a1.1,a1.2]
    unfold eM at aX⊢;rw[Gq kn ab.1 ar];simpa using aX
def zfV{s:List UInt8}(h:gh s≠0):1<=s.length/\s.length<=5/\s.all df=true/\dk s<=65535/\gh s=dk s:=by
 unfold gh at h⊢;split at h
 ·rename_i ao;exact⟨ao.1,ao.2.1,ao.2.2.1,ao.2.2.2,by rw[aC ao]⟩
 ·exact absurd rfl h
def VS{p:UInt8->Bool}:∀(x y:List UInt8),x.all p=true->(∀c,y.head?=some c->p c=false)->(x++y).takeWhile p=x
 |[],[],_,_=>rfl
 |[],c::r,_,h=>by simp[h c rfl]
 |a::x,y,h,aS=>by simp only[qW,b4]at h;rw[gO,C9 h.1,VS x y h.2 aS]
def Ai{a:Addr}(h:e3 a=0):q0 a.scheme=true/\lF a.host=true/\(a.port≠[]->gh a.port≠0)/\uq a.path=true/\eM [] a.query=true/\eM [] a.gH=true /\
  (a.query≠[]->a.jD=true)/\(a.gH≠[]->a.k3=true)/\(oZ a).length<=2000:=by
 unfold e3 at h;split at h
 ·cases h
 rename_i aa;split at h
 ·cases h
 rename_i ab;split at h
 ·cases h
 rename_i ar;split at h
 ·cases h
 rename_i aN;simp only[not_or,not_and,Bool.not_eq_false]at aa ab ar;exact⟨aa.1,aa.2.1,aa.2.2,ab.1,ab.2.1,ab.2.2,ar.1,ar.2,by omega⟩
end Go.Proofs.YtaalfcghmjkaeaaGreatDoor
namespace Go.Proofs.YtaalfcghmjkaeaaGreatDoor
open Go Go.Ab Go.Proofs.Tryz Go.IntKind
variable [bf]
set_option maxRecDepth 100000
set_option maxHeartbeats 4000000
abbrev q5(c:UInt8):az:=.one (.int .u8 c.toNat)
def Kk(c:UInt8):aD prog 216 [q5 c] (.x (.one (.bool (qY c)))):=by refine aD.a6 f216 mixed fun aE=>?_;simp-implicitDefEqProofs;refine⟨by omega,?_⟩;rw[q4];simp only[qY,eO,b4,hF];omega
def x5(c:UInt8):aD prog 217 [q5 c] (.x (.one (.bool (df c)))):=by refine aD.a6 f217 mixed fun aE=>?_;simp-implicitDefEqProofs;rw[q4];simp only[df,b4,hF];omega
def VZ(c:UInt8):aD prog 173 [q5 c] (.x (.one (.bool (gG c)))):=by
 refine aD.a6 f173 mixed fun aE=>?_;simp-implicitDefEqProofs;refine aA.of (x5 c) ?_;cases aW:df c
 ·simp-implicitDefEqProofs;rw[q4];simp only[gG,aW,va,eO,b4,hF];omega
 ·simp-implicitDefEqProofs
  try simp[gG,aW]
def Pk(c:UInt8):((hf c).toNat:Int)=if 65<=c.toNat/\c.toNat<=90 then (c.toNat:Int)+32 else c.toNat:=by
 have:∀c:UInt8,((hf c).toNat:Int)=if 65<=c.toNat/\c.toNat<=90 then (c.toNat:Int)+32 else c.toNat:=ur (by decide +kernel)
 exact this c
def ml(s:List UInt8)(i:Nat):List UInt8:=cD (s.take i)++s.drop i
@[simp]def zgd(s:List UInt8)(i:Nat):(ml s i).length=s.length:=by unfold ml cD;rw[eE,w1,<-eE,uX]
def zge(s:List UInt8):ml s 0=s:=by simp[ml,cD]
def zgf(s:List UInt8):ml s s.length=cD s:=by simp[ml]
def V0{s:List UInt8}{i:Nat}(h:i<s.length):(ml s i)[i]'(by simpa using h)=s[i]:=by
 have al:(cD (s.take i)).length=i:=by simp[cD];omega
 unfold ml;rw[List.getElem_append_right (by omega)];simp[al]
def zgg{s:List UInt8}{i:Nat}(h:i<s.length):ml s (i+1)=(ml s i).set i (hf s[i]):=by
 have al:(cD (s.take i)).length=i:=by simp[cD];omega
 have e:cD (s.take (i+1))=cD (s.take i)++[hf s[i]]:=by show (s.take (i+1)).map hf=_;rw[C5,cn h,vn];rfl
 unfold ml;rw[e,List.set_append_right _ _ (by omega),al,Nat.sub_self,g' h,List.set_cons_zero];simp
def J3(l:List UInt8)(i:Nat)(c:UInt8):(bL l).set i (g_ c)=bL (l.set i c):=by unfold bL;rw[Gy]
def zgh{l:List UInt8}{i:Nat}(h:i<l.length):l.set i l[i]=l:=List.set_getElem_self h
def Df(l:List UInt8):ox (bL l)=l:=by
 unfold ox bL;rw[List.map_map];have:(En∘g_)=id:=by funext b;simp[En]
 rw[this,List.map_id]
def Dg(l:List UInt8):okB (bL l):=by intro x aj;obtain⟨b,_,rfl⟩:=hh.1 aj;exact⟨_,rfl⟩
def zeV{l:List UInt8}{i:Nat}(h:i<l.length):(bL l)[i]?=some (g_ l[i]):=by simp[bL,h]
def Kl{l:List UInt8}{i:Nat}(h:i<(bL l).length):(bL l)[i]=g_ (l[i]'(by simpa[bL]using h)):=by simp[bL]
def j4(l:List UInt8):(bL l).length=l.length:=by simp[bL]
def q6(s:List UInt8):aD prog 94 [.one (.str s)] (.x (.one (.str (cD s)))):=by
 refine aD.a6 f94 mixed fun aE=>?_;have al:s.length<=maxLen:=by simpa[az.ok,af.ok]using aE
 have ah:=j4;have IL:=zgd s;simp-implicitDefEqProofs[ah];refine cI.of Nat (fun i=>[(3,.own 5 1 (bL (ml s i))),(8,.alias 3),(9,.x (.one (.int .i64 s.length))),(10,.x (.one (.int .i64 i)))]) (fun i=>i<=s.length) (fun i=>s.length-i) 0 (cd _) ?_ ?_
 ·simp[zge]
 intro i ai;by_cases aq:i<s.length
 ·have aO:((i:Int)<(s.length:Int))=True:=aL (by omega);have bG:i64.wrap ((i:Int)+1)=(i:Int)+1:=bk _ (by unfold maxLen at al;omega);have bO:∀h,(bL (ml s i))[i]'h=g_ s[i]:=fun h=>by rw[Kl,V0 aq]
  have b3:=zgg aq;by_cases ao:65<=s[i].toNat/\s[i].toNat<=90
  ·have bA:(65<=(s[i].toNat:Int))=True:=aL (by omega);have c2:((s[i].toNat:Int)<=90)=True:=aL (by omega);have hw:u8.wrap (u8.wrap ((s[i].toNat:Int)+97)-65)=((hf s[i]).toNat:Int):=by
    rw[Pk,aC ao];simp[IntKind.wrap,IntKind.signed,IntKind.bits];omega
   simp-implicitDefEqProofs[aq,aO,ah,bO,bA,c2,hw];refine bI.of (i+1) aq (by omega) ?_;have sr:bL (ml s (i+1))=(bL (ml s i)).set i (g_ (hf s[i])):=by rw[b3,J3]
   simp[sr,bG]
  ·have jR:hf s[i]=s[i]:=by unfold hf;rw[au ao]
   have V1:ml s (i+1)=ml s i:=by rw[b3,jR,<-V0 aq,zgh]
   by_cases aa:65<=s[i].toNat
   ·have bA:(65<=(s[i].toNat:Int))=True:=aL (by omega);have c2:((s[i].toNat:Int)<=90)=False:=aV (by omega);simp-implicitDefEqProofs[aq,aO,ah,bO,bA,c2];refine bI.of (i+1) aq (by omega) ?_;simp[V1,bG]
   ·have bA:(65<=(s[i].toNat:Int))=False:=aV (by omega);simp-implicitDefEqProofs[aq,aO,ah,bO,bA];refine bI.of (i+1) aq (by omega) ?_;simp[V1,bG]
 ·have aO:((i:Int)<(s.length:Int))=False:=aV (by omega);have eN:i=s.length:=by omega
  subst eN;have aw:=Dg (cD s);have ae:=Df (cD s);have ay:=zgf s;have fg:(cD s).length=s.length:=by simp[cD]
  simp-implicitDefEqProofs[aO,ay,aw,ae]
def zgi{s:List UInt8}(h:0<s.length):x0 s=(decide (s.length<=63)&&((decide (s[0]≠45)&&decide (s[s.length-1]≠45))&&s.all sH)):=by
 have aa:s.head?=some s[0]:=by rw[List.head?_eq_getElem?,cn h]
 have ab:s.getLast?=some s[s.length-1]:=by rw[Pl,cn (by omega)]
 unfold x0;rw[aa,ab];have:decide (1<=s.length)=true:=by simp;omega
 rw[this];simp
def jE{c:UInt8}(n:Nat)(aT:n<256):((c.toNat:Int)=n)↔c=UInt8.ofNat n:=by rw[<-uw,UInt8.toNat_ofNat_of_lt' (by simp[UInt8.size];omega)];omega
def zgj(s:List UInt8):aD prog 161 [.one (.str s)] (.x (.one (.bool (x0 s)))):=by
 refine aD.a6 f161 mixed fun aE=>?_;by_cases aW:s.length=0
 ·have:s=[]:=ld aW;subst this;simp-implicitDefEqProofs;rfl
 have ak:0<s.length:=by omega
 rw[zgi ak];have g1:((s.length:Int)<1)=False:=aV (by omega);by_cases oo:s.length<=63;rotate_left
 ·have g2:(63<(s.length:Int))=True:=aL (by omega);have q7:(63<s.length)=True:=aL (by omega);have Pi:decide (s.length<=63)=false:=by simp;omega
  rw[Pi,kq];simp-implicitDefEqProofs[g1,g2,ak]
 have g2:(63<(s.length:Int))=False:=aV (by omega);have q7:(63<s.length)=False:=aV (by omega);have hw:i64.wrap ((s.length:Int)-1)=((s.length-1:Nat):Int):=by rw[bk _ (by omega)];omega
 have m8:s.length-1<s.length:=by omega
 have Pi:decide (s.length<=63)=true:=by simp;omega
 rw[Pi,kL];by_cases a0:s[0]=45
 ·have ch:((s[0].toNat:Int)=45)=True:=aL ((jE 45 (by omega)).2 a0);have Gz:decide (s[0]≠45)=false:=by simp[a0]
  rw[Gz,kq,kq];simp-implicitDefEqProofs[g1,g2,ak,ch]
 have ch:((s[0].toNat:Int)=45)=False:=aV (fun h=>a0 ((jE 45 (by omega)).1 h));have Gz:decide (s[0]≠45)=true:=by simp[a0]
 rw[Gz,kL];by_cases de:s[s.length-1]=45
 ·have av:((s[s.length-1].toNat:Int)=45)=True:=aL ((jE 45 (by omega)).2 de);have sc:decide (s[s.length-1]≠45)=false:=by simp[de]
  rw[sc,kq];simp-implicitDefEqProofs[g1,g2,ak,ch,av,hw,m8]
 have av:((s[s.length-1].toNat:Int)=45)=False:=aV (fun h=>de ((jE 45 (by omega)).1 h));have sc:decide (s[s.length-1]≠45)=true:=by simp[de]
 rw[sc,kL];simp-implicitDefEqProofs[g1,g2,ak,ch,av,hw,m8];refine cI.of Nat (fun i=>[(0,.x (.one (.str s))),(26,.x (.one (.int .i64 s.length))),(27,.x (.one (.int .i64 i)))]) (gF sH s) (fun i=>s.length-i) 0 gF.zero ?_ ?_
 ·simp
 intro i ai;by_cases aq:i<s.length
 ·have aO:((i:Int)<(s.length:Int))=True:=aL (by omega);have bG:i64.wrap ((i:Int)+1)=(i:Int)+1:=bk _ (by omega);simp-implicitDefEqProofs[aq,aO];refine aA.of (Kk s[i]) ?_;simp-implicitDefEqProofs[aq,aO];refine bp.of (fun _=>x5 s[i]) rfl ?_;cases qy:qY s[i]
  ·cases ef:df s[i]
   ·by_cases dv:s[i]=45
    ·have aI:((s[i].toNat:Int)=45)=True:=aL ((jE 45 (by omega)).2 dv);simp-implicitDefEqProofs[aq,aO,aI,bG];refine bI.of (i+1) (ai.step aq (by simp[sH,dv])) (by omega) (by simp)
    ·have aI:((s[i].toNat:Int)=45)=False:=aV (fun h=>dv ((jE 45 (by omega)).1 h));have ae:sH s[i]=false:=by simp[sH,qy,ef,dv]
     rw[C4 aq ae];simp-implicitDefEqProofs[aq,aO,aI,bG]
   ·simp-implicitDefEqProofs[aq,aO,bG];refine bI.of (i+1) (ai.step aq (by simp[sH,ef])) (by omega) (by simp)
  ·simp-implicitDefEqProofs[aq,aO,bG];refine bI.of (i+1) (ai.step aq (by simp[sH,qy])) (by omega) (by simp)
 ·have aO:((i:Int)<(s.length:Int))=False:=aV (by omega);rw[ai.done aq];simp-implicitDefEqProofs[aO]
def zgk{s:List UInt8}(h:s.length<=253):lF s=(ey 46 s).all x0:=by unfold lF;simp[h]
def zgl{s:List UInt8}(h:¬s.length<=253):lF s=false:=by unfold lF;simp;omega
def Pm(s:List UInt8):aD prog 95 [.one (.str s)] (.x (.one (.bool (lF s)))):=by
 refine aD.a6 f95 mixed fun aE=>?_;by_cases h:s.length<=253;rotate_left
 ·rw[zgl h];have g:(253<(s.length:Int))=True:=aL (by omega);have bQ:(253<s.length)=True:=aL (by omega);simp-implicitDefEqProofs[g]
 rw[zgk h];have g:(253<(s.length:Int))=False:=aV (by omega);have bQ:(253<s.length)=False:=aV (by omega);simp-implicitDefEqProofs[g];refine aA.of (Km s 46 (by omega)) ?_;have ao:=GA 46 s;generalize ey 46 s=w at ao;simp-implicitDefEqProofs;refine cI.of Nat (fun i=>[(9,.x (strs w)),(10,.x (.one (.int .i64 w.length))),(11,.x (.one (.int .i64 i)))]) (gF x0 w) (fun i=>w.length-i) 0 gF.zero ?_ ?_
 ·simp
 intro i ai;by_cases aq:i<w.length
 ·have aO:((i:Int)<(w.length:Int))=True:=aL (by omega);have bG:i64.wrap ((i:Int)+1)=(i:Int)+1:=bk _ (by omega);simp-implicitDefEqProofs[aq,aO];refine aA.of (zgj w[i]) ?_;cases b:x0 w[i]
  ·rw[C4 aq b];simp-implicitDefEqProofs
  ·simp-implicitDefEqProofs;refine bI.of (i+1) (ai.step aq b) (by omega) (by simp[bG])
 ·have aO:((i:Int)<(w.length:Int))=False:=aV (by omega);rw[ai.done aq];simp-implicitDefEqProofs[aO]
def zgm{s:List UInt8}(h:s.all df=true)(ab:s.length<=5):dk s<100000:=by have:=ux s h;have:10^s.length<=10^5:=Dh (by omega) ab;omega
def zgn{s:List UInt8}{i:Nat}(h:i<s.length):dk (s.take (i+1))=dk (s.take i)*10+(s[i].toNat-48):=by rw[C5,cn h];exact V2 _ _
abbrev Di:List UInt8:=[48,49,50,51,52,53,54,55,56,57]
def zgo(b:UInt8):Di.contains b=df b:=by have:∀b:UInt8,Di.contains b=df b:=ur (by decide +kernel);exact this b
def V3(s:List UInt8):(Lib.trimS s Di=[])↔s.all df=true:=by rw[Gv];have:(fun b=>Di.contains b)=df:=funext zgo;rw[this]
def Pn(s:List UInt8):aD prog 96 [.one (.str s)] (.x (.one (.int .i64 (gh s)))):=by
 refine aD.a6 f96 mixed fun aE=>?_;by_cases aW:s.length=0
 ·have:s=[]:=ld aW;subst this;simp-implicitDefEqProofs;refine bp.of (fun h=>by cases h) (r:=.x (.one (.str []))) rfl ?_;simp-implicitDefEqProofs;rfl
 have g1:((s.length:Int)<1)=False:=aV (by omega);by_cases bD:s.length<=5;rotate_left
 ·have g2:(5<(s.length:Int))=True:=aL (by omega);have q7:(5<s.length)=True:=aL (by omega);have aH:gh s=0:=by unfold gh;rw[au (fun h=>bD h.2.1)]
  rw[aH];simp-implicitDefEqProofs[g1,g2];refine bp.of (fun h=>by simp at h) (r:=.x (.one (.str []))) rfl ?_;simp-implicitDefEqProofs
 have g2:(5<(s.length:Int))=False:=aV (by omega);have q7:(5<s.length)=False:=aV (by omega);simp-implicitDefEqProofs[g1,g2];refine bp.of (fun _=>x4 s Di (by decide) (by decide)) rfl ?_;by_cases ax:s.all df=true;rotate_left
 ·have ba:¬Lib.trimS s Di=[]:=fun h=>ax ((V3 s).1 h);have aH:gh s=0:=by unfold gh;rw[au (fun h=>ax h.2.2.1)]
  rw[aH];simp-implicitDefEqProofs[ba]
 have ba:=(V3 s).2 ax;have aq:=zgm ax bD;have hm:=fun i=>iJ (Nat.le_of_lt_succ (Nat.lt_succ_of_lt (ux (s.take i) (by rw[fm]at ax⊢;exact fun x aj=>ax x (rU aj))))) (Dh (show 1<=10 by omega) (show (s.take i).length<=5 by rw[d'];omega));simp-implicitDefEqProofs[ba];refine cI.of Nat (fun i=>[(0,.x (.one (.str s))),(3,.x (.one (.int .i64 (dk (s.take i))))),(19,.x (.one (.int .i64 s.length))),(20,.x (.one (.int .i64 i)))]) (fun i=>i<=s.length) (fun i=>s.length-i) 0 (cd _) ?_ ?_
 ·simp[dk]
 intro i ai;by_cases aq:i<s.length
 ·have aO:((i:Int)<(s.length:Int))=True:=aL (by omega);have bG:i64.wrap ((i:Int)+1)=(i:Int)+1:=bk _ (by omega);have l9:df s[i]=true:=fm.1 ax _ (jN aq);simp only[df,b4,hF]at l9;have gC:=hm i;have b3:=zgn aq;have cH:i64.wrap (10*(dk (s.take i):Int))=10*(dk (s.take i):Int):=bk _ (by omega);have dW:u8.wrap ((s[i].toNat:Int)-48)=((s[i].toNat-48:Nat):Int):=by simp[IntKind.wrap,IntKind.signed,IntKind.bits];omega
  have hs:i64.wrap ((s[i].toNat-48:Nat):Int)=((s[i].toNat-48:Nat):Int):=bk _ (by omega);have q8:i64.wrap (10*(dk (s.take i):Int)+((s[i].toNat-48:Nat):Int))=((dk (s.take (i+1)):Nat):Int):=by rw[bk _ (by omega),b3];omega
  simp-implicitDefEqProofs[aq,aO,cH,dW,hs,q8];refine bI.of (i+1) aq (by omega) (by simp[bG])
 ·have aO:((i:Int)<(s.length:Int))=False:=aV (by omega);rw[show s.take i=s from iv (by omega)];by_cases ae:dk s<=65535
  ·have g3:(65535<(dk s:Int))=False:=aV (by omega);have Po:(65535<dk s)=False:=aV (by omega);have aH:gh s=dk s:=by unfold gh;rw[aC ⟨by omega,bD,ax,ae⟩]
   rw[aH];simp-implicitDefEqProofs[aO,g3]
  ·have g3:(65535<(dk s:Int))=True:=aL (by omega);have Po:(65535<dk s)=True:=aL (by omega);have aH:gh s=0:=by unfold gh;rw[au (fun h=>ae h.2.2.2)]
   rw[aH];simp-implicitDefEqProofs[aO,g3]
def ih(s:List UInt8)(c:UInt8):Int:=if c∈s then ((cu c s).length:Int)else -1
def sL{s:List UInt8}{c:UInt8}(h:s.contains c=true):0<=ih s c:=by unfold ih;rw[aC (by simpa using h)];omega
def Am{s:List UInt8}{c:UInt8}(h:s.contains c=false):ih s c=-1:=by unfold ih;rw[au (by intro hm;rw[List.contains_iff_mem.2 hm]at h;cases h)]
def strings_IndexByte(s:List UInt8)(c:UInt8):aD prog 172 [.one (.str s),q5 c] (.x (.one (.int .i64 (ih s c)))):=by
 unfold ih;rw[<-V4];refine aD.C2 [.string ⟨s.toArray⟩,.int .u8 c.toNat] _ (nc f172 (by kernel_rfl) (by kernel_rfl) rfl) rfl (fun _ _=>O7 _ _) (fun _ w=>?_);refine(Any.strings_IndexByte {VX with} ⟨s.toArray⟩ c.toNat w).mono ?_;rintro e w' ⟨rfl,rfl⟩;have:(c.toNat:Int).toNat.toUInt8=c:=by simp
 rw[this];exact⟨rfl,RowKit.Below.refl _ _⟩
structure nh(w s:List UInt8)(i:Nat):Prop where
 le:i<=s.length
 eq:cy w s=(i+(cy w (s.drop i)).1,(cy w (s.drop i)).2)
def nh.zero(w s:List UInt8):nh w s 0:=⟨cd _,by simp⟩
def nh.step{w s:List UInt8}{i:Nat}(h:nh w s i)(aq:i<s.length)(aa:w.contains s[i]=false)(ab:lG s[i]=true)(ar:s[i]=37->sI (s.drop (i+1))=true):nh w s (i+1):=by refine⟨aq,?_⟩;rw[h.eq,g' aq,Gq aa ab ar];simp only;congr 1;omega
def nh.hit{w s:List UInt8}{i:Nat}(h:nh w s i)(aq:i<s.length)(aa:w.contains s[i]=true):cy w s=(i,true):=by rw[h.eq,g' aq,cy,aC aa];rfl
def nh.bad{w s:List UInt8}{i:Nat}(h:nh w s i)(aq:i<s.length)(aa:w.contains s[i]=false)(ab:lG s[i]=false\/(s[i]=37/\sI (s.drop (i+1))=false)):cy w s=(i,false):=by rw[h.eq,g' aq,cy,au (by rw[aa];decide),aC ab];rfl
def nh.done{w s:List UInt8}{i:Nat}(h:nh w s i)(k':¬i<s.length):cy w s=(s.length,true):=by
 have:i=s.length:=by have:=h.le;omega
 rw[h.eq,this,Dj];rfl
def GB(s:List UInt8)(i:Nat):sI (s.drop (i+1))=if h:i+2<s.length then gG s[i+1]&&gG s[i+2]else false:=by
 by_cases h:i+2<s.length
 ·rw[dif_pos h,g' (by omega),g' (by omega)];rfl
 ·rw[dif_neg h];by_cases aa:i+1<s.length
  ·rw[g' aa,kf (by omega)];rfl
  ·rw[kf (by omega)];rfl
def nh.three{w s:List UInt8}{i:Nat}(hw:∀c,w.contains c=true->gG c=false)(h:nh w s i)(aq:i+2<s.length)(aa:w.contains (s[i]'(by omega))=false)(ab:lG (s[i]'(by omega))=true)(a:gG (s[i+1]'(by omega))=true)(b:gG s[i+2]=true):nh w s (i+3):=by
 have aj:∀c,gG c=true->w.contains c=false:=fun c ao=>by
  cases br:w.contains c with
  |false=>rfl
  |true=>rw[hw c br]at ao;cases ao
 have s1:=h.step (by omega) aa ab (fun _=>by rw[GB,dif_pos aq,a,b];rfl);have s2:=s1.step (by omega) (aj _ a) (C8 a).1 (fun e=>absurd e (C8 a).2.1);exact s2.step (by omega) (aj _ b) (C8 b).1 (fun e=>absurd e (C8 b).2.1)
def V5(c:UInt8):lG c=true↔(¬c.toNat<33/\¬126<c.toNat)/\Gp.contains c=false:=by unfold lG;cases Gp.contains c<;>simp
def V6{c:UInt8}:((c.toNat:Int)=37)↔c=37:=jE 37 (by omega)
def V7(s w:List UInt8)(ap:s.length<=4000000000000000)(hw:∀c,w.contains c=true->gG c=false):aD prog 106 [.one (.str s),.one (.str w)] (.b2 [.one (.int .i64 (cy w s).1),.one (.bool (cy w s).2)]):=by
 refine aD.a6 f106 mixed fun aE=>?_;obtain⟨R,aR⟩:∃R,R=cy w s:=⟨_,rfl⟩
 rw[<-aR];simp-implicitDefEqProofs;refine cI.of Nat (fun i=>[(0,.x (.one (.str s))),(1,.x (.one (.str w))),(6,.x (.one (.int .i64 i)))]) (nh w s) (fun i=>s.length-i) 0 (nh.zero w s) ?_ ?_
 ·simp
 intro i ai;by_cases aq:i<s.length;rotate_left
 ·have aO:((i:Int)<(s.length:Int))=False:=aV (by omega);rw[ai.done aq]at aR;subst aR;simp-implicitDefEqProofs[aO]
 have aO:((i:Int)<(s.length:Int))=True:=aL (by omega);have bG:i64.wrap ((i:Int)+1)=(i:Int)+1:=bk _ (by omega);simp-implicitDefEqProofs[aq,aO];refine aA.of (strings_IndexByte w s[i]) ?_;cases fH:w.contains s[i];rotate_left
 ·have g:(0<=ih w s[i])=True:=aL (sL fH);rw[ai.hit aq fH]at aR;subst aR;simp-implicitDefEqProofs[g]
 have cp:=Am fH;simp-implicitDefEqProofs[cp];by_cases an:lG s[i]=true;rotate_left
 ·have xe:lG s[i]=false:=by simpa using an
  rw[ai.bad aq fH (.inl xe)]at aR;subst aR;by_cases bA:s[i].toNat<33
  ·have gJ:((s[i].toNat:Int)<33)=True:=aL (by omega);simp-implicitDefEqProofs[gJ];refine bp.of (fun h=>by cases h) (r:=.x (.one (.int .i64 0))) rfl ?_;simp-implicitDefEqProofs[gJ]
  ·have gJ:((s[i].toNat:Int)<33)=False:=aV (by omega);by_cases c2:126<s[i].toNat
   ·have ii:(126<(s[i].toNat:Int))=True:=aL (by omega);simp-implicitDefEqProofs[gJ,ii];refine bp.of (fun h=>by cases h) (r:=.x (.one (.int .i64 0))) rfl ?_;simp-implicitDefEqProofs[gJ,ii]
   ·have ii:(126<(s[i].toNat:Int))=False:=aV (by omega);have ae:Gp.contains s[i]=true:=by
     cases ae:Gp.contains s[i]with
     |true=>rfl
     |false=>exact absurd ((V5 _).2 ⟨⟨bA,c2⟩,ae⟩) an
    have g:(0<=ih [34,35,60,62,92,94,123,124,125,96] s[i])=True:=aL (sL ae);simp-implicitDefEqProofs[gJ,ii];refine bp.of (fun _=>strings_IndexByte [34,35,60,62,92,94,123,124,125,96] s[i]) rfl ?_;simp-implicitDefEqProofs[g]
 obtain⟨⟨bA,c2⟩,ae⟩:=(V5 _).1 an;have gJ:((s[i].toNat:Int)<33)=False:=aV (by omega);have ii:(126<(s[i].toNat:Int))=False:=aV (by omega);have hM:ih [34,35,60,62,92,94,123,124,125,96] s[i]=-1:=Am ae;simp-implicitDefEqProofs[gJ,ii];refine bp.of (fun _=>strings_IndexByte [34,35,60,62,92,94,123,124,125,96] s[i]) rfl ?_;by_cases mm:s[i]=37;rotate_left
 ·have e:((s[i].toNat:Int)=37)=False:=aV (fun h=>mm (V6.1 h));simp-implicitDefEqProofs[hM,gJ,ii,e];refine bI.of (i+1) (ai.step aq fH an (fun e=>absurd e mm)) (by omega) (by simp[bG])
 have e:((s[i].toNat:Int)=37)=True:=aL (V6.2 mm);have dW:i64.wrap ((i:Int)+2)=(i:Int)+2:=bk _ (by omega);by_cases ab:i+2<s.length;rotate_left
 ·have g2:((s.length:Int)<=(i:Int)+2)=True:=aL (by omega);rw[ai.bad aq fH (.inr ⟨mm,by rw[GB,dif_neg ab]⟩)]at aR;subst aR;simp-implicitDefEqProofs[hM,gJ,ii,e,dW,g2];refine bp.of (fun h=>by cases h) (r:=.x (.one (.bool false))) rfl ?_;simp-implicitDefEqProofs;refine bp.of (fun h=>by cases h) (r:=.x (.one (.bool false))) rfl ?_;simp-implicitDefEqProofs
 have g2:((s.length:Int)<=(i:Int)+2)=False:=aV (by omega);have q1:i+1<s.length:=by omega
 have vZ:((i:Int)+1<(s.length:Int))=True:=aL (by omega);have Pp:((i:Int)+2<(s.length:Int))=True:=aL (by omega);have dm:(0<=(i:Int)+1)=True:=aL (by omega);have dF:(0<=(i:Int)+2)=True:=aL (by omega);have jw:((i:Int)+1).toNat=i+1:=by omega
 have mV:((i:Int)+2).toNat=i+2:=by omega
 simp-implicitDefEqProofs[hM,gJ,ii,e,dW,bG,g2,q1,vZ,dm,jw];refine bp.of (fun _=>VZ s[i+1]) rfl ?_;cases cA:gG s[i+1]
 ·rw[ai.bad aq fH (.inr ⟨mm,by rw[GB,dif_pos ab,cA];rfl⟩)]at aR;subst aR;simp-implicitDefEqProofs[dW,Pp,ab,dF,mV];refine bp.of (fun h=>by cases h) (r:=.x (.one (.bool false))) rfl ?_;simp-implicitDefEqProofs
 ·simp-implicitDefEqProofs[dW,Pp,ab,dF,mV];refine bp.of (fun _=>VZ s[i+2]) rfl ?_;cases db:gG s[i+2]
  ·rw[ai.bad aq fH (.inr ⟨mm,by rw[GB,dif_pos ab,db];simp⟩)]at aR;subst aR;simp-implicitDefEqProofs
  ·have hs:i64.wrap ((i:Int)+2+1)=(i:Int)+3:=by rw[bk _ (by omega)];omega
   simp-implicitDefEqProofs[dW];refine bI.of (i+3) (ai.three hw ab fH an cA db) (by omega) (by simp[hs])
def An(s w:List UInt8)(ap:s.length<=4000000000000000)(hw:∀c,w.contains c=true->gG c=false):aD prog 59 [.one (.str s),.one (.str w)] (.x (.one (.bool (eM w s)))):=by
 refine aD.a6 f59 mixed fun aE=>?_;simp-implicitDefEqProofs;refine aA.of (V7 s w ap hw) ?_;unfold eM;cases h:(cy w s).2
 ·simp-implicitDefEqProofs
 ·simp-implicitDefEqProofs;rw[q4];simp;omega
def zgp{c d:UInt8}:([c]:List UInt8).contains d=decide (d=c):=by by_cases h:d=c<;>simp[h]
structure Addr.Fit(a:Addr):Prop where
 scheme:a.scheme.length<=300000000000000
 host:a.host.length<=300000000000000
 port:a.port.length<=300000000000000
 path:a.path.length<=300000000000000
 query:a.query.length<=300000000000000
 gH:a.gH.length<=300000000000000
def zgq(a:Addr)(h:a.Fit):aD prog 162 [.agg a.row] (.x (.one (.str (uo a)))):=by
 refine aD.a6 f162 mixed fun aE=>?_;obtain⟨cX,aw,cM,pa,ej,br,bo,ay⟩:=a;obtain⟨ec,l2,lI,mn,q9,GC⟩:=h;simp only at ec l2 lI mn q9 GC;cases br<;>cases ay
 all_goals
  simp-implicitDefEqProofs[Addr.row,uo,pX,Ah]
  try (unfold maxLen;omega)
def zgr(a:Addr)(h:a.Fit):aD prog 97 [.agg a.row] (.x (.one (.str (oZ a)))):=by
 refine aD.a6 f97 mixed fun aE=>?_;have ae:=zgq a h;have k4:(uo a).length<=1000000000000000:=by have:=h.path;have:=h.query;have:=h.gH;unfold uo pX Ah;split<;>split<;>simp<;>omega
 obtain⟨ec,l2,lI,mn,q9,GC⟩:=h;have bm:a.row=[.str a.scheme,.str a.host,.str a.port,.str a.path,.str a.query,.bool a.jD,.str a.gH,.bool a.k3]:=rfl;have dq:oZ a=a.scheme++[58,47,47]++a.host++qZ a++uo a:=rfl;generalize oZ a=W at dq;generalize uo a=B at ae k4 dq;unfold qZ at dq;rw[bm]at ae⊢;by_cases ak:a.port=[]
 ·rw[aC ak,wO]at dq;subst dq;simp-implicitDefEqProofs[ak];rw[ak]at ae;refine⟨by unfold maxLen;omega,by unfold maxLen;omega,aA.of ae ?_⟩;simp-implicitDefEqProofs
  try (unfold maxLen;omega)
 ·rw[au ak]at dq;subst dq;simp-implicitDefEqProofs[ak];refine⟨by unfold maxLen;omega,by unfold maxLen;omega,by unfold maxLen;omega,by unfold maxLen;omega,aA.of ae ?_⟩;simp-implicitDefEqProofs
  try (unfold maxLen;omega)
def v7{a:Addr}(h:q0 a.scheme=false\/lF a.host=false\/(a.port≠[]/\gh a.port=0)\/uq a.path=false\/eM [] a.query=false\/eM [] a.gH=false):e3 a=10:=by
 unfold e3;by_cases aa:q0 a.scheme=false\/lF a.host=false\/(a.port≠[]/\gh a.port=0)
 ·rw[aC aa]
 ·rw[au aa];simp only[not_or]at aa;have ab:uq a.path=false\/eM [] a.query=false\/eM [] a.gH=false:=by
   rcases h with h|h|h|h
   ·exact absurd h aa.1
   ·exact absurd h aa.2.1
   ·exact absurd h aa.2.2
   ·exact h
  rw[aC ab]
def V8{a:Addr}(aa:q0 a.scheme=true)(ab:lF a.host=true)(ar:¬(a.port≠[]/\gh a.port=0))(aN:uq a.path=true)(bD:eM [] a.query=true)(b9:eM [] a.gH=true) :
  e3 a=if (a.query≠[]/\a.jD=false)\/(a.gH≠[]/\a.k3=false)then 3 else if 2000<(oZ a).length then 2 else 0:=by
 unfold e3;rw[au (by rintro (h|h|h);rw[aa]at h;cases h;rw[ab]at h;cases h;exact ar h),au (by simp[aN,bD,b9])]
def Pq{s:List UInt8}(h:0<s.length):uq s=(decide (s[0]=47)&&eM [63] s):=by
 have ax:s.head?=some s[0]:=by rw[List.head?_eq_getElem?,cn h]
 have bC:¬s=[]:=by rintro rfl;simp at h
 unfold uq;rw[ax];simp[bC]
def V9{d:UInt8}(ax:gG d=false):∀c,([d]:List UInt8).contains c=true->gG c=false:=by
 intro c h;rw[zgp]at h;have:c=d:=by simpa using h
 rw[this];exact ax
def Dk{c:UInt8}(n:Nat)(aT:n<256)(h:c≠UInt8.ofNat n):((c.toNat:Int)=n)=False:=aV (fun e=>h ((jE n aT).1 e))
def x6(a:Addr)(h:a.Fit):aD prog 55 [.agg a.row] (.x (.one (.int .i64 (e3 a)))):=by
 refine aD.a6 f55 mixed fun aE=>?_;have bG:=zgr a h;obtain⟨ec,l2,lI,mn,q9,GC⟩:=h;obtain⟨cX,aw,cM,pa,ej,br,bo,ay⟩:=a;simp only[Addr.row]at bG ec l2 lI mn q9 GC⊢;obtain⟨F,a8⟩:∃F,F=e3 ⟨cX,aw,cM,pa,ej,br,bo,ay⟩:=⟨_,rfl⟩
 obtain⟨W,GD⟩:∃W,W=oZ ⟨cX,aw,cM,pa,ej,br,bo,ay⟩:=⟨_,rfl⟩
 rw[<-a8];rw[<-GD]at bG;simp-implicitDefEqProofs;refine aA.of (q6 cX) ?_;cases aa:q0 cX
 ·rw[v7 (.inl aa)]at a8;unfold q0 j2 iS at aa;simp only[Kf,Dl]at aa;simp-implicitDefEqProofs[aa.1,aa.2];exact a8
 have ap:cD cX=[104,116,116,112]\/cD cX=[104,116,116,112,115]:=by unfold q0 j2 iS at aa;simpa only[eO,hF]using aa
 have iM:(!(cD cX==[104,116,116,112])&&!(cD cX==[104,116,116,112,115]))=false:=by rcases ap with ap|ap<;>simp[ap]
 have gc:cD cX=[104,116,116,112]\/cD cX=[104,116,116,112,115]:=ap;clear ap;simp-implicitDefEqProofs;refine⟨fun a b=>absurd (gc.resolve_left a) b,fun _=>aA.of (Pm aw) ?_⟩;cases ab:lF aw
 ·rw[v7 (.inr (.inl ab))]at a8;simp-implicitDefEqProofs;exact a8
 by_cases ar:cM≠[]/\gh cM=0
 ·rw[v7 (.inr (.inr (.inl ar)))]at a8;have x7:=ar.1;have zgs:=ar.2;simp-implicitDefEqProofs[x7];refine bp.of (fun _=>Pn cM) rfl ?_;simp-implicitDefEqProofs[x7,zgs];exact a8
 simp-implicitDefEqProofs;refine bp.of (fun _=>Pn cM) rfl ?_;simp-implicitDefEqProofs;refine⟨fun a b=>absurd ⟨a,b⟩ ar,fun _=>?_⟩;cases pa with
 |nil=>
  simp-implicitDefEqProofs;refine bp.of (fun _=>An [] [63] (by simp) (V9 (by decide))) rfl ?_;have xf:eM [63] []=true:=rfl;simp-implicitDefEqProofs[xf];refine aA.of (An ej [] (by omega) (fun c h=>by simp at h)) ?_;cases bD:eM [] ej
  ·rw[v7 (.inr (.inr (.inr (.inr (.inl bD)))))]at a8;simp-implicitDefEqProofs;exact a8
  simp-implicitDefEqProofs;refine aA.of (An bo [] (by omega) (fun c h=>by simp at h)) ?_;cases b9:eM [] bo
  ·rw[v7 (.inr (.inr (.inr (.inr (.inr b9)))))]at a8;simp-implicitDefEqProofs;exact a8
  rw[V8 aa ab ar rfl bD b9,<-GD]at a8;cases br<;>cases ay<;>by_cases x8:ej=[]<;>by_cases f0:bo=[]
  all_goals
   simp only[x8,f0,ne_eq,Bx,HZ,and_false,and_true,or_false,or_true,hB,h6,GF]at a8;simp-implicitDefEqProofs[x8,f0]
   first
    |exact a8
    |(first
      |exact aA.of bG (by
        by_cases dq:2000<W.length
        ·rw[aC dq]at a8;have ia:(2000<(W.length:Int))=True:=aL (by omega);simp-implicitDefEqProofs[ia];exact a8
        ·rw[au dq]at a8;have ia:(2000<(W.length:Int))=False:=aV (by omega);simp-implicitDefEqProofs[ia];exact a8)
      |(simp only[x8,f0]at bG
        exact aA.of bG (by
         by_cases dq:2000<W.length
         ·rw[aC dq]at a8;have ia:(2000<(W.length:Int))=True:=aL (by omega);simp-implicitDefEqProofs[ia];exact a8
         ·rw[au dq]at a8;have ia:(2000<(W.length:Int))=False:=aV (by omega);simp-implicitDefEqProofs[ia];exact a8)))
 |cons c r=>
  by_cases ao:c=47
  ·have Dm:((c.toNat:Int)=47)=True:=aL ((jE 47 (by omega)).2 ao);have Dn:((c.toNat:Int) != 47)=false:=by rw[Pr];exact(jE 47 (by omega)).2 ao
   simp-implicitDefEqProofs[Dn];refine bp.of (fun _=>An (c::r) [63] (by omega) (V9 (by decide))) rfl ?_;cases aN:eM [63] (c::r)
   ·rw[v7 (.inr (.inr (.inr (.inl (by rw[Pq (by simp)];simp[aN])))))]at a8;simp-implicitDefEqProofs[Dn];exact a8
   simp-implicitDefEqProofs[Dn];refine aA.of (An ej [] (by omega) (fun c h=>by simp at h)) ?_;cases bD:eM [] ej
   ·rw[v7 (.inr (.inr (.inr (.inr (.inl bD)))))]at a8;simp-implicitDefEqProofs;exact a8
   simp-implicitDefEqProofs;refine aA.of (An bo [] (by omega) (fun c h=>by simp at h)) ?_;cases b9:eM [] bo
   ·rw[v7 (.inr (.inr (.inr (.inr (.inr b9)))))]at a8;simp-implicitDefEqProofs;exact a8
   rw[V8 aa ab ar (by rw[Pq (by simp),aN];simp[ao]) bD b9,<-GD]at a8;cases br<;>cases ay<;>by_cases x8:ej=[]<;>by_cases f0:bo=[]
   all_goals
    simp only[x8,f0,ne_eq,Bx,HZ,and_false,and_true,or_false,or_true,hB,h6,GF]at a8;simp-implicitDefEqProofs[x8,f0]
    first
     |exact a8
     |(first
       |exact aA.of bG (by
         by_cases dq:2000<W.length
         ·rw[aC dq]at a8;have ia:(2000<(W.length:Int))=True:=aL (by omega);simp-implicitDefEqProofs[ia];exact a8
         ·rw[au dq]at a8;have ia:(2000<(W.length:Int))=False:=aV (by omega);simp-implicitDefEqProofs[ia];exact a8)
       |(simp only[x8,f0]at bG
         exact aA.of bG (by
          by_cases dq:2000<W.length
          ·rw[aC dq]at a8;have ia:(2000<(W.length:Int))=True:=aL (by omega);simp-implicitDefEqProofs[ia];exact a8
          ·rw[au dq]at a8;have ia:(2000<(W.length:Int))=False:=aV (by omega);simp-implicitDefEqProofs[ia];exact a8)))
  ·have Dm:=Dk 47 (by omega) ao;have Dn:((c.toNat:Int) != 47)=true:=by rw[xE];exact fun e=>ao ((jE 47 (by omega)).1 e)
   rw[v7 (.inr (.inr (.inr (.inl (by rw[Pq (by simp)];simp[ao])))))]at a8;simp-implicitDefEqProofs[Dn];refine bp.of (fun h=>by simp at h) (r:=.x (.one (.bool false))) rfl ?_;simp-implicitDefEqProofs[Dn];exact a8
end Go.Proofs.YtaalfcghmjkaeaaGreatDoor
namespace Go.Proofs.YtaalfcghmjkaeaaGreatDoor
open Go Go.Ab Go.Proofs.Tryz Go.IntKind
def VT:∀(u t:List UInt8),hr u t=u.length->cD (t.take u.length)=u
 |[],t,_=>by simp[cD]
 |w::ws,[],h=>by simp[hr]at h
 |w::ws,a::t,h=>by
  rw[hr]at h;split at h
  ·rename_i hw;have:=VT ws t (by simpa using h);rw[eg,BA];show hf a::cD (t.take ws.length)=_
   rw[this,hw]
  ·simp at h
def zfW{t:List UInt8}{n:Nat}(h:x1 t=.ok n):q0 (t.take n)=true/\t=t.take n++[58,47,47]++t.drop (n+3):=by
 have key:∀(u:List UInt8),hr (u++[58,47,47]) t=u.length+3->cD (t.take u.length)=u/\t=t.take u.length++[58,47,47]++t.drop (u.length+3):=by
  intro u hu;have aa:=VT (u++[58,47,47]) t (by simpa using hu);have al:(t.take (u.length+3)).length=u.length+3:=by have:=mH List.length aa;simpa[cD]using this
  have ap:t.take (u.length+3)=t.take u.length++(t.drop u.length).take 3:=List.take_add;have gk:((t.drop u.length).take 3).length=3:=by rw[d']at al;rw[d',eo];omega
  have dx:cD (t.take u.length)++cD ((t.drop u.length).take 3)=u++[58,47,47]:=by rw[eE]at aa;rw[show u.length+([58,47,47]:List UInt8).length=u.length+3 from rfl,ap]at aa;simpa[cD]using aa
  have vl:(cD (t.take u.length)).length=u.length:=by rw[d']at al;simp[cD];omega
  obtain⟨g1,g2⟩:=List.append_inj dx vl;refine⟨g1,?_⟩;have g3:(t.drop u.length).take 3=[58,47,47]:=by
   match (t.drop u.length).take 3,gk,g2 with
   |[a,b,c],_,g2=>simp[cD]at g2;rw[zfT a g2.1,VR b g2.2.1,VR c g2.2.2]
  rw[<-g3,<-ap,uX]
 unfold x1 at h;split at h
 ·injection h with h;subst h
  rename_i ao;obtain⟨g1,g2⟩:=key j2 ao;exact⟨by unfold q0;rw[show (4:Nat)=j2.length from rfl,g1];rfl,g2⟩
 ·split at h
  ·injection h with h;subst h
   rename_i ao;obtain⟨g1,g2⟩:=key iS ao;exact⟨by unfold q0;rw[show (5:Nat)=iS.length from rfl,g1];rfl,g2⟩
  ·cases h
def take_takeWhile(p:UInt8->Bool):∀s:List UInt8,s=s.takeWhile p++s.drop (s.takeWhile p).length
 |[]=>rfl
 |a::r=>by
  by_cases h:p a=true
  ·rw[C9 h,eg,BB,gO,<-take_takeWhile p r]
  ·rw[Gr h];rfl
def zfX{s:List UInt8}(h:(ku s).1=true):lF (ku s).2.2.1=true/\((ku s).2.2.2≠[]->gh (ku s).2.2.2≠0)/\q2 (s.drop (ku s).2.1)=true /\
  s=(ku s).2.2.1++(if (ku s).2.2.2=[]then []else 58::(ku s).2.2.2)++s.drop (ku s).2.1:=by
 unfold ku at h⊢;obtain⟨x,ex⟩:∃x,x=s.takeWhile hW:=⟨_,rfl⟩
 obtain⟨p,kv⟩:∃p,p=(s.drop (x.length+1)).takeWhile df:=⟨_,rfl⟩
 have aj:=take_takeWhile hW s;have ak:=take_takeWhile df (s.drop (x.length+1));rw[<-ex]at aj;rw[<-kv]at ak;simp only[<-ex]at h⊢;simp only[<-kv]at h⊢;by_cases aa:lF x=false
 ·rw[aC aa]at h;cases h
 rw[au aa]at h;simp only[au aa];by_cases ab:(s.drop x.length).head?=some 58
 ·rw[aC ab]at h;simp only[aC ab];by_cases ar:gh p=0
  ·rw[aC ar]at h;cases h
  ·rw[au ar]at h;simp only[au ar];have x2:p≠[]:=by
    intro e;obtain⟨g,_⟩:=zfV ar;rw[e]at g;simp at g
   refine⟨by simpa using aa,fun _=>ar,h,?_⟩;rw[au x2];have ax:s.drop x.length=58::s.drop (x.length+1):=by
    rw[<-pr];cases br:s.drop x.length with
    |nil=>rw[br]at ab;cases ab
    |cons a r=>rw[br]at ab;simp at ab;subst ab;rfl
   conv=>lhs;rw[aj,ax,ak,pr]
   simp
 ·rw[au ab]at h;simp only[au ab];refine⟨by simpa using aa,fun e=>absurd rfl e,h,?_⟩;simpa using aj
def Pf{w:List UInt8}:∀s:List UInt8,(cy w s).2=true->∀c,(s.drop (cy w s).1).head?=some c->w.contains c=true
 |[],_,c,h=>by simp[cy]at h
 |d::r,am,c,h=>by
  rw[cy]at am h;split at h
  ·rename_i ax;simp at h;subst h;exact ax
  ·rename_i ax;rw[au ax]at am;split at h
   ·rename_i he;rw[aC he]at am;cases am
   ·rename_i he;rw[au he]at am;exact Pf r am c (by simpa using h)
def VU{c:UInt8}{w s:List UInt8}(hw:∀d,w.contains d=true->gG d=false)(h:(gu c w s).1=true)(ap:∀d,s.head?=some d->d=c\/w.contains d=true) :
  eM [] (gu c w s).2.2.1=true/\((gu c w s).2.2.1≠[]->(gu c w s).2.2.2=true)/\s=(if (gu c w s).2.2.2=true then c::(gu c w s).2.2.1 else [])++s.drop (gu c w s).2.1 /\
  ∀d,(s.drop (gu c w s).2.1).head?=some d->w.contains d=true:=by
 unfold gu at h⊢;by_cases aa:s.head?=some c
 ·rw[aC aa]at h;simp only[aC aa,hB];have ax:s=c::s.drop 1:=by
   cases s with
   |nil=>cases aa
   |cons a r=>simp at aa;subst aa;rfl
  have b3:=Pf _ h;have fQ:s.drop ((cy w (s.drop 1)).1+1)=(s.drop 1).drop (cy w (s.drop 1)).1:=by rw[pr];congr 1;omega
  refine⟨Pe hw [] (fun c ao=>by simp at ao) _ h,by simp,?_,by rw[fQ];exact b3⟩;rw[fQ,gO,uX];exact ax
 ·rw[au aa]at h;simp only[au aa];refine⟨rfl,by simp,by simp,fun d ax=>?_⟩;rcases ap d (by simpa using ax)with rfl|ab
  ·exact absurd (by simpa using ax) aa
  ·exact ab
def zfY{s:List UInt8}(h:(hE s).ok=true)(he:q2 s=true):uq (hE s).path=true/\eM [] (hE s).query=true/\eM [] (hE s).gH=true /\
  ((hE s).query≠[]->(hE s).jD=true)/\((hE s).gH≠[]->(hE s).k3=true) /\
  s=(hE s).path++(if (hE s).jD=true then 63::(hE s).query else [])++(if (hE s).k3=true then 35::(hE s).gH else []):=by
 unfold hE at h⊢;obtain⟨p,kv⟩:∃p,p=cy [63,35] s:=⟨_,rfl⟩
 obtain⟨q,eq⟩:∃q,q=gu 63 [35] (s.drop p.1):=⟨_,rfl⟩
 obtain⟨f,gP⟩:∃f,f=gu 35 [] (s.drop (p.1+q.2.1)):=⟨_,rfl⟩
 simp only[<-kv]at h⊢;simp only[<-eq]at h⊢;simp only[<-gP]at h⊢;by_cases aa:p.2=false
 ·rw[aC aa]at h;cases h
 rw[au aa]at h;simp only[au aa];by_cases ab:q.1=false
 ·rw[aC ab]at h;cases h
 rw[au ab]at h;simp only[au ab]
 replace h:f.1=true:=h
 have dx:(cy [63,35] s).2=true:=by rw[<-kv];simpa using aa
 have oD:(gu 63 [35] (s.drop p.1)).1=true:=by rw[<-eq];simpa using ab
 have qA:(gu 35 [] (s.drop (p.1+q.2.1))).1=true:=by rw[<-gP];exact h
 have b3:=Pf s dx;rw[<-kv]at b3;have hw:∀d,([63,35]:List UInt8).contains d=true->d=63\/d=35:=by intro d ax;simpa using ax
 obtain⟨q1,hO,j3,Kh⟩:=VU (fun d ax=>by simp at ax;subst ax;decide) oD (fun d ax=>(hw d (b3 d ax)).imp id (fun e=>by rw[e];decide));rw[<-eq,pr]at j3;rw[<-eq]at q1 hO;rw[<-eq,pr]at Kh;obtain⟨f1,f2,f3,f4⟩:=VU (fun d ax=>by simp at ax) qA (fun d ax=>.inl (by have:=Kh d ax;simpa using this));rw[<-gP]at f1 f2 f3 f4;have Ki:(s.drop (p.1+q.2.1)).drop f.2.1=[]:=by
  cases aj:(s.drop (p.1+q.2.1)).drop f.2.1 with
  |nil=>rfl
  |cons d r=>have:=f4 d (by rw[aj];rfl);simp at this
 rw[Ki,wO]at f3;have bm:eM [63] (s.take p.1)=true:=by rw[kv];exact Pe (fun d ax=>by rcases hw d ax with rfl|rfl<;>decide) [63] (fun d ax=>by simp at ax;subst ax;decide) s dx
 refine⟨?_,q1,f1,hO,f2,?_⟩
 ·unfold uq;cases ap:s with
  |nil=>simp
  |cons c r=>
   rw[ap]at he;have oS:vV c=true:=he;simp only[vV,eO,hF]at oS;rw[<-ap];rcases oS with rfl|oS
   ·have:p.1≠0:=by
     intro aW;have:=b3 47 (by rw[aW,ap];rfl);revert this;decide
    obtain⟨k,am⟩:∃k,p.1=k+1:=⟨p.1-1,by omega⟩
    rw[bm,am,ap];simp
   ·have:p.1=0:=by
     rw[kv,ap,cy,aC (by rcases oS with rfl|rfl<;>decide)]
    rw[this];simp
 ·conv=>lhs;rw[<-uX p.1 s,j3,f3]
  simp
def zfZ{t:List UInt8}{a:Addr}(h:C7 t=.ok a):oZ a=t/\(t.length<=2000->e3 a=0):=by
 unfold C7 at h;split at h
 ·cases h
 ·rename_i n ap;obtain⟨s1,s2⟩:=zfW ap;obtain⟨s,es⟩:∃s,s=t.drop (n+3):=⟨_,rfl⟩
  obtain⟨p,kv⟩:∃p,p=ku s:=⟨_,rfl⟩
  obtain⟨r,C_⟩:∃r,r=hE (s.drop p.2.1):=⟨_,rfl⟩
  simp only[<-es]at h;simp only[<-kv]at h;simp only[<-C_]at h;split at h
  ·cases h
  rename_i aa;split at h
  ·cases h
  rename_i ab;injection h with h
  have dx:(ku s).1=true:=by rw[<-kv];simpa using aa
  have oD:(hE (s.drop p.2.1)).ok=true:=by rw[<-C_];simpa using ab
  obtain⟨dm,dF,je,jf⟩:=zfX dx;rw[<-kv]at dm dF je jf;obtain⟨gm,iK,C',Da,Db,lH⟩:=zfY oD je;rw[<-C_]at gm iK C' Da Db lH;have hw:oZ a=t:=by
   subst h;unfold oZ qZ uo pX Ah;simp only;rw[<-lH]
   conv=>rhs;rw[s2,<-es,jf]
   simp
  refine⟨hw,fun al=>?_⟩;rw[<-hw]at al;subst h;unfold e3;rw[au,au,au,au (by omega)]
  ·rintro (⟨a,b⟩|⟨a,b⟩)
   ·rw[Da a]at b;cases b
   ·rw[Db a]at b;cases b
  ·simp only[gm,iK,C'];simp
  ·simp only[s1,dm];rintro (a|a|⟨a,b⟩)
   ·cases a
   ·cases a
   ·exact dF a b
end Go.Proofs.YtaalfcghmjkaeaaGreatDoor
namespace Go.Proofs.YtaalfcghmjkaeaaGreatDoor
open Go Go.Ab Go.Proofs.Tryz Go.IntKind
variable [bf]
set_option maxRecDepth 100000
set_option maxHeartbeats 4000000
def zgt(c:UInt8):hW c=(qY c ||(df c ||(decide (c=45) ||decide (c=46)))):=by unfold hW sH;cases qY c<;>cases df c<;>simp
def Ps{p:UInt8->Bool}{s:List UInt8}{i:Nat}(h:gF p s i)(ap:∀aq:i<s.length,p s[i]=false):s.takeWhile p=s.take i:=by
 obtain⟨aa,ab⟩:=h;have e:s=s.take i++s.drop i:=(uX i s).symm
 conv=>lhs;rw[e]
 refine VS _ _ ab (fun c ao=>?_);by_cases aq:i<s.length
 ·rw[g' aq]at ao;rw[List.head?_cons]at ao;have kn:s[i]=c:=qX ao;rw[<-kn];exact ap aq
 ·rw[kf (by omega)]at ao;cases ao
def Kn{α:Type}(l:List α)(i k:Nat):cutAt l (i:Int) (k:Int)=(l.drop i).take (k-i):=by simp[cutAt,EF]
def zgu(s:List UInt8)(ap:s.length<=4000000000000000):aD prog 289 [.one (.str s)] (.x (.one (.int .i64 (s.takeWhile hW).length))):=by
 refine aD.a6 f289 mixed fun aE=>?_;simp-implicitDefEqProofs;refine cI.of Nat (fun i=>[(0,.x (.one (.str s))),(3,.x (.one (.int .i64 i)))]) (gF hW s) (fun i=>s.length-i) 0 gF.zero ?_ ?_
 ·simp
 intro i ai;have hle:=ai.1;by_cases aq:i<s.length;rotate_left
 ·have aO:((i:Int)<(s.length:Int))=False:=aV (by omega);have ba:=Ps ai (fun h=>absurd h aq);rw[ba];simp-implicitDefEqProofs[aq,aO];refine bp.of (fun h=>by cases h) (r:=.x (.one (.bool false))) rfl ?_;simp-implicitDefEqProofs[aq,aO];refine bp.of (fun h=>by cases h) (r:=.x (.one (.bool false))) rfl ?_;simp-implicitDefEqProofs[aq,aO]
  try omega
 have aO:((i:Int)<(s.length:Int))=True:=aL (by omega);have bG:i64.wrap ((i:Int)+1)=(i:Int)+1:=bk _ (by omega);have ao:=zgt s[i];simp-implicitDefEqProofs[aq,aO];refine bp.of (fun _=>Kk s[i]) rfl ?_;cases qy:qY s[i]
 ·simp-implicitDefEqProofs[aq,aO];refine bp.of (fun _=>x5 s[i]) rfl ?_;cases ef:df s[i]
  ·by_cases dv:s[i]=45
   ·have aI:((s[i].toNat:Int)=45)=True:=aL ((jE 45 (by omega)).2 dv);have f2:((s[i].toNat:Int)==45)=true:=by simpa using aI
    simp-implicitDefEqProofs[aq,aO,f2];refine bI.of (i+1) (ai.step aq (by rw[ao];simp[dv])) (by omega) (by simp[bG])
   ·have aI:((s[i].toNat:Int)=45)=False:=aV (fun h=>dv ((jE 45 (by omega)).1 h));have f2:((s[i].toNat:Int)==45)=false:=by simpa using aI
    by_cases jy:s[i]=46
    ·have b5:((s[i].toNat:Int)=46)=True:=aL ((jE 46 (by omega)).2 jy);have f3:((s[i].toNat:Int)==46)=true:=by simpa using b5
     simp-implicitDefEqProofs[aq,aO,f2,f3];refine bI.of (i+1) (ai.step aq (by rw[ao];simp[jy])) (by omega) (by simp[bG])
    ·have b5:((s[i].toNat:Int)=46)=False:=aV (fun h=>jy ((jE 46 (by omega)).1 h));have f3:((s[i].toNat:Int)==46)=false:=by simpa using b5
     have ba:=Ps ai (fun h=>by rw[ao,qy,ef];simp[dv,jy]);rw[ba];simp-implicitDefEqProofs[aq,aO,f2,f3]
     try omega
  ·simp-implicitDefEqProofs[aq,aO];refine bI.of (i+1) (ai.step aq (by rw[ao];simp[ef])) (by omega) (by simp[bG])
 ·simp-implicitDefEqProofs[aq,aO];refine bp.of (fun h=>by cases h) (r:=.x (.one (.bool false))) rfl ?_;simp-implicitDefEqProofs[aq,aO];refine bI.of (i+1) (ai.step aq (by rw[ao];simp[qy])) (by omega) (by simp[bG])
def fu(t:List UInt8)(at':Nat)(a:Addr):List af:=.str t::.int .i64 at'::a.row
def Ko(t w:List UInt8)(at':Nat)(a:Addr)(ba:t.length<=2000)(bj:at'<=t.length)(hw:∀c,w.contains c=true->gG c=false) :
  cB prog 290 [.box (fu t at' a),.x (.one (.str w))] (.b2 [.one (.str ((t.drop at').take (cy w (t.drop at')).1)),.one (.bool (cy w (t.drop at')).2)]) [.box (fu t (at'+(cy w (t.drop at')).1) a),.dead]:=by
 refine cB.a6 f290 mixed fun aE=>?_;have al:=Kg w (t.drop at');rw[eo]at al;have g1:((at':Int)<=(t.length:Int))=True:=aL (by omega);have g2:(at'<=t.length)=True:=aL bj;simp-implicitDefEqProofs[fu,Addr.row,g1];obtain⟨q,eq⟩:∃q,q=cy w (t.drop at'):=⟨_,rfl⟩
 refine aA.of (V7 (t.drop at') w (by simp;omega) hw) ?_;rw[<-eq]at al⊢;have bG:i64.wrap ((at':Int)+(q.1:Int))=((at'+q.1:Nat):Int):=by rw[bk _ (by omega)];omega
 have g3:((at':Int)<=((at'+q.1:Nat):Int))=True:=aL (by omega);have g4:(((at'+q.1:Nat):Int)<=(t.length:Int))=True:=aL (by omega);simp-implicitDefEqProofs[fu,Addr.row,bG];refine⟨by omega,?_⟩;rw[show ((at':Int)+(q.1:Int))=((at'+q.1:Nat):Int)from by omega,Kn];congr 1;omega
end Go.Proofs.YtaalfcghmjkaeaaGreatDoor
