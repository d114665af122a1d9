/- Lemmas. -/
import Derived.Test.YtmlnbemjmlogiaaGreatDoorProg
import Derived.Shelf.Lays
import Derived.Test.YtmlnbemjmlogiaaGreatDoorAbJ5
import Derived.Shelf.Small.Strs
import Derived.Shelf.Strings.SlTrimAscii
import Derived.Shelf.LaysM
import Derived.Lib.ItoaLen
import Derived.Shelf.Strconv.Itoa3
import Derived.Shelf.Strings.OnBuilder
import Derived.Lib.Atoi
import Derived.Shelf.Strings.BuilderX
import Derived.Shelf.Strings.Repeat
import Derived.Lib.Split
import Derived.Shelf.Strings.SplitCore
import Derived.Shelf.Strings.Search3
import Derived.Shelf.Strings.Count
import Derived.Shelf.Strconv.Atoi
import Derived.Lib.SplitLaws
import Derived.Lib.AtoiErrMem
set_option linter.all false
set_option maxHeartbeats 4000000
set_option maxRecDepth 100000
namespace Go.Proofs.YtmlnbemjmlogiaaGreatDoor
open Go Go.Ab Go.IntKind Go.Proofs.Tryz
@[simp]def zGF:tk prog 3=cf.one/\
 ju prog 3=false/\
 eH prog 3=some (aG.one (ag.int i64 0))/\
 nB prog 3=some 8/\
 iU prog 3=true/\
 pK prog 3=some i64/\
 tk prog 4=cf.one/\
 eH prog 4=some (aG.one (ag.bool false))/\
 tk prog 5=cf.one/\
 ju prog 5=false/\
 eH prog 5=some (aG.one (ag.int u8 0))/\
 nB prog 5=some 1/\
 iU prog 5=true/\
 pK prog 5=some u8:=by refine⟨?_,?_,?_,?_,?_,?_,?_,?_,?_,?_,?_,?_,?_,?_⟩<;>kernel_rfl
@[simp]def zGG:vQ prog 5=true/\
 tk prog 9=cf.one/\
 k1 prog 9=true/\
 ju prog 9=false/\
 eH prog 9=some (aG.one (ag.str []))/\
 hT prog 9=some [ag.str []]/\
 nB prog 9=some 16/\
 iU prog 9=true/\
 ju prog 21=false/\
 pK prog 21=some i32/\
 tk prog 22=cf.one/\
 gM prog 22=some (50,9)/\
 eH prog 22=some (aG.one ag.nil)/\
 jy prog 22=some (50,9,[ag.str [],ag.int i64 0,ag.int i64 0,ag.str [],ag.str [],ag.str [],ag.int i64 0,ag.int i64 0,ag.bool false]):=by refine⟨?_,?_,?_,?_,?_,?_,?_,?_,?_,?_,?_,?_,?_,?_⟩<;>kernel_rfl
@[simp]def zGH:tk prog 23=cf.one/\
 gM prog 23=some (68,2)/\
 eH prog 23=some (aG.one ag.nil)/\
 tk prog 24=cf.one/\
 gM prog 24=some (109,2)/\
 eH prog 24=some (aG.one ag.nil)/\
 tk prog 26=cf.agg 3/\
 eH prog 26=some (aG.agg [ag.nil,ag.nil,ag.nil])/\
 fieldAt prog 26 0=some (0,cf.one)/\
 fieldAt prog 26 1=some (1,cf.one)/\
 fieldAt prog 26 2=some (2,cf.one)/\
 tk prog 28=cf.agg 5/\
 eH prog 28=some (aG.agg [ag.str [],ag.int i64 0,ag.int i64 0,ag.int i64 0,ag.int i64 0])/\
 hT prog 28=some [ag.str [],ag.int i64 0,ag.int i64 0,ag.int i64 0,ag.int i64 0]:=by refine⟨?_,?_,?_,?_,?_,?_,?_,?_,?_,?_,?_,?_,?_,?_⟩<;>kernel_rfl
@[simp]def zGI:nA prog 28=some ([ag.str [],ag.int i64 0,ag.int i64 0,ag.int i64 0,ag.int i64 0],[(0,1),(1,1),(2,1),(3,1),(4,1)])/\
 uv prog 28=some [hK.s,hK.i,hK.i,hK.i,hK.i]/\
 iU prog 28=true/\
 fieldAt prog 28 2=some (2,cf.one)/\
 fieldAt prog 28 3=some (3,cf.one)/\
 fieldAt prog 28 4=some (4,cf.one)/\
 tk prog 43=cf.agg 2/\
 eH prog 43=some (aG.agg [ag.int i64 0,ag.int i64 0])/\
 hT prog 43=some [ag.int i64 0,ag.int i64 0]/\
 nA prog 43=some ([ag.int i64 0,ag.int i64 0],[(0,1),(1,1)])/\
 uv prog 43=some [hK.i,hK.i]/\
 iU prog 43=true/\
 gM prog 46=some (9,1)/\
 n8 prog 46=none:=by refine⟨?_,?_,?_,?_,?_,?_,?_,?_,?_,?_,?_,?_,?_,?_⟩<;>kernel_rfl
@[simp]def zGJ:jy prog 46=some (9,1,[ag.str []])/\
 tk prog 48=cf.agg 2/\
 eH prog 48=some (aG.agg [ag.int i64 0,ag.int i64 0])/\
 nA prog 48=some ([ag.int i64 0,ag.int i64 0],[(0,1),(1,1)])/\
 uv prog 48=some [hK.i,hK.i]/\
 fieldAt prog 48 0=some (0,cf.one)/\
 fieldAt prog 48 1=some (1,cf.one)/\
 tk prog 50=cf.agg 9/\
 eH prog 50=some (aG.agg [ag.str [],ag.int i64 0,ag.int i64 0,ag.str [],ag.str [],ag.str [],ag.int i64 0,ag.int i64 0,ag.bool false])/\
 hT prog 50=some [ag.str [],ag.int i64 0,ag.int i64 0,ag.str [],ag.str [],ag.str [],ag.int i64 0,ag.int i64 0,ag.bool false]/\
 nB prog 50=some 104/\
 nA prog 50=some ([ag.str [],ag.int i64 0,ag.int i64 0,ag.str [],ag.str [],ag.str [],ag.int i64 0,ag.int i64 0,ag.bool false],[(0,1),(1,1),(2,1),(3,1),(4,1),(5,1),(6,2),(8,1)])/\
 iU prog 50=true/\
 fieldAt prog 50 0=some (0,cf.one):=by refine⟨?_,?_,?_,?_,?_,?_,?_,?_,?_,?_,?_,?_,?_,?_⟩<;>kernel_rfl
@[simp]def zGK:fieldAt prog 50 1=some (1,cf.one)/\
 fieldAt prog 50 2=some (2,cf.one)/\
 fieldAt prog 50 3=some (3,cf.one)/\
 fieldAt prog 50 4=some (4,cf.one)/\
 fieldAt prog 50 5=some (5,cf.one)/\
 fieldAt prog 50 6=some (6,cf.agg 2)/\
 tk prog 51=cf.one/\
 gM prog 51=some (5,1)/\
 ju prog 51=true/\
 n8 prog 51=none/\
 eH prog 51=some (aG.one ag.nil)/\
 jy prog 51=some (5,1,[ag.int u8 0])/\
 iU prog 51=true/\
 vR prog 51=true:=by refine⟨?_,?_,?_,?_,?_,?_,?_,?_,?_,?_,?_,?_,?_,?_⟩<;>kernel_rfl
@[simp]def zGL:tk prog 52=cf.one/\
 gM prog 52=some (28,5)/\
 eH prog 52=some (aG.one ag.nil)/\
 nA prog 54=some ([ag.bool false,ag.nil,ag.str [],ag.int i64 0,ag.int i64 0,ag.str [],ag.str [],ag.str [],ag.int i64 0,ag.int i64 0,ag.bool false,ag.nil,ag.nil,ag.int i64 0],[(0,1),(1,1),(2,9),(11,1),(12,1),(13,1)])/\
 fieldAt prog 54 4=some (12,cf.one)/\
 tk prog 63=cf.one/\
 gM prog 63=some (69,1)/\
 eH prog 63=some (aG.one ag.nil)/\
 jy prog 63=some (69,1,[ag.nil])/\
 iU prog 63=true/\
 tk prog 64=cf.one/\
 gM prog 64=some (72,1)/\
 eH prog 64=some (aG.one ag.nil)/\
 jy prog 64=some (72,1,[ag.nil]):=by refine⟨?_,?_,?_,?_,?_,?_,?_,?_,?_,?_,?_,?_,?_,?_⟩<;>kernel_rfl
@[simp]def zGM:iU prog 64=true/\
 nA prog 66=some ([ag.nil,ag.nil,ag.nil,ag.nil,ag.nil],[(0,3),(3,1),(4,1)])/\
 fieldAt prog 66 0=some (0,cf.agg 3)/\
 fieldAt prog 66 1=some (3,cf.one)/\
 fieldAt prog 66 2=some (4,cf.one)/\
 tk prog 68=cf.agg 2/\
 eH prog 68=some (aG.agg [ag.str [],ag.nil])/\
 hT prog 68=some [ag.str [],ag.nil]/\
 iU prog 68=true/\
 fieldAt prog 68 0=some (0,cf.one)/\
 fieldAt prog 68 1=some (1,cf.one)/\
 tk prog 69=cf.one/\
 gM prog 69=some (78,7)/\
 eH prog 69=some (aG.one ag.nil):=by refine⟨?_,?_,?_,?_,?_,?_,?_,?_,?_,?_,?_,?_,?_,?_⟩<;>kernel_rfl
@[simp]def zGN:jy prog 69=some (78,7,[ag.int i64 0,ag.str [],ag.str [],ag.int i64 0,ag.str [],ag.nil,ag.nil])/\
 nB prog 69=some 24/\
 tk prog 72=cf.one/\
 gM prog 72=some (97,3)/\
 eH prog 72=some (aG.one ag.nil)/\
 jy prog 72=some (97,3,[ag.str [],ag.int i64 0,ag.int i64 0])/\
 nB prog 72=some 24/\
 tk prog 76=cf.one/\
 gM prog 76=some (153,2)/\
 ju prog 76=true/\
 eH prog 76=some (aG.one ag.nil)/\
 jy prog 76=some (153,2,[ag.str [],ag.str []])/\
 iU prog 76=true/\
 tk prog 78=cf.agg 7:=by refine⟨?_,?_,?_,?_,?_,?_,?_,?_,?_,?_,?_,?_,?_,?_⟩<;>kernel_rfl
@[simp]def zGO:eH prog 78=some (aG.agg [ag.int i64 0,ag.str [],ag.str [],ag.int i64 0,ag.str [],ag.nil,ag.nil])/\
 hT prog 78=some [ag.int i64 0,ag.str [],ag.str [],ag.int i64 0,ag.str [],ag.nil,ag.nil]/\
 nB prog 78=some 112/\
 nA prog 78=some ([ag.int i64 0,ag.str [],ag.str [],ag.int i64 0,ag.str [],ag.nil,ag.nil],[(0,1),(1,1),(2,1),(3,1),(4,1),(5,1),(6,1)])/\
 iU prog 78=true/\
 fieldAt prog 78 0=some (0,cf.one)/\
 fieldAt prog 78 1=some (1,cf.one)/\
 fieldAt prog 78 2=some (2,cf.one)/\
 fieldAt prog 78 3=some (3,cf.one)/\
 fieldAt prog 78 4=some (4,cf.one)/\
 fieldAt prog 78 5=some (5,cf.one)/\
 fieldAt prog 78 6=some (6,cf.one)/\
 tk prog 85=cf.agg 4/\
 eH prog 85=some (aG.agg [ag.int i64 0,ag.str [],ag.nil,ag.nil]):=by refine⟨?_,?_,?_,?_,?_,?_,?_,?_,?_,?_,?_,?_,?_,?_⟩<;>kernel_rfl
@[simp]def zGP:hT prog 85=some [ag.int i64 0,ag.str [],ag.nil,ag.nil]/\
 nA prog 85=some ([ag.int i64 0,ag.str [],ag.nil,ag.nil],[(0,1),(1,1),(2,1),(3,1)])/\
 iU prog 85=true/\
 fieldAt prog 85 0=some (0,cf.one)/\
 fieldAt prog 85 1=some (1,cf.one)/\
 fieldAt prog 85 2=some (2,cf.one)/\
 fieldAt prog 85 3=some (3,cf.one)/\
 tk prog 90=cf.one/\
 n8 prog 90=some (gA.s,95)/\
 eH prog 90=some (aG.one (ag.atom (Value.map none)))/\
 nA prog 92=some ([ag.nil,ag.nil,ag.nil,ag.atom (Value.map none)],[(0,3),(3,1)])/\
 fieldAt prog 92 0=some (0,cf.agg 3)/\
 fieldAt prog 92 1=some (3,cf.one)/\
 tk prog 93=cf.one:=by refine⟨?_,?_,?_,?_,?_,?_,?_,?_,?_,?_,?_,?_,?_,?_⟩<;>kernel_rfl
@[simp]def zGQ:n8 prog 93=some (gA.st [hK.i,hK.i],9)/\
 eH prog 93=some (aG.one (ag.atom (Value.map none)))/\
 tk prog 95=cf.agg 2/\
 eH prog 95=some (aG.agg [ag.nil,ag.atom (Value.map none)])/\
 hT prog 95=some [ag.nil,ag.atom (Value.map none)]/\
 nA prog 95=some ([ag.nil,ag.atom (Value.map none)],[(0,1),(1,1)])/\
 iU prog 95=true/\
 fieldAt prog 95 0=some (0,cf.one)/\
 fieldAt prog 95 1=some (1,cf.one)/\
 tk prog 97=cf.agg 3/\
 eH prog 97=some (aG.agg [ag.str [],ag.int i64 0,ag.int i64 0])/\
 hT prog 97=some [ag.str [],ag.int i64 0,ag.int i64 0]/\
 nB prog 97=some 32/\
 nA prog 97=some ([ag.str [],ag.int i64 0,ag.int i64 0],[(0,1),(1,2)]):=by refine⟨?_,?_,?_,?_,?_,?_,?_,?_,?_,?_,?_,?_,?_,?_⟩<;>kernel_rfl
@[simp]def zGR:iU prog 97=true/\
 fieldAt prog 97 0=some (0,cf.one)/\
 fieldAt prog 97 1=some (1,cf.agg 2)/\
 tk prog 109=cf.agg 2/\
 eH prog 109=some (aG.agg [ag.int i64 0,ag.str []])/\
 hT prog 109=some [ag.int i64 0,ag.str []]/\
 iU prog 109=true/\
 fieldAt prog 109 0=some (0,cf.one)/\
 fieldAt prog 109 1=some (1,cf.one)/\
 gM prog 137=some (3,1)/\
 n8 prog 137=none/\
 jy prog 137=some (3,1,[ag.int i64 0])/\
 tk prog 153=cf.agg 2/\
 eH prog 153=some (aG.agg [ag.str [],ag.str []]):=by refine⟨?_,?_,?_,?_,?_,?_,?_,?_,?_,?_,?_,?_,?_,?_⟩<;>kernel_rfl
@[simp]def zGS:hT prog 153=some [ag.str [],ag.str []]/\
 nB prog 153=some 32/\
 nA prog 153=some ([ag.str [],ag.str []],[(0,1),(1,1)])/\
 iU prog 153=true/\
 fieldAt prog 153 0=some (0,cf.one)/\
 fieldAt prog 153 1=some (1,cf.one)/\
 gM prog 154=none/\
 AT prog 154=some (5,1)/\
 hT prog 154=some [ag.int i64 0,ag.int i64 0,ag.int i64 0,ag.int i64 0,ag.int i64 0]/\
 tk prog 161=cf.agg 256/\
 gM prog 161=none/\
 AT prog 161=some (256,1)/\
 hT prog 161=some (List.replicate 256 (ag.bool false))/\
 iU prog 161=true:=by refine⟨?_,?_,?_,?_,?_,?_,?_,?_,?_,?_,?_,?_,?_,?_⟩<;>kernel_rfl
@[simp]def zGT:nA prog 184=some ([ag.nil,ag.int i64 0,ag.int i64 0],[(0,1),(1,1),(2,1)])/\
 fieldAt prog 184 0=some (0,cf.one)/\
 fieldAt prog 184 1=some (1,cf.one)/\
 fieldAt prog 184 2=some (2,cf.one)/\
 tk prog 203=cf.one/\
 nA prog 205=some ([ag.nil,ag.int i64 0,ag.int i64 0,ag.str [],ag.str [],ag.int i64 0,ag.str [],ag.nil,ag.nil,ag.int i64 0,ag.str []],[(0,1),(1,1),(2,7),(9,1),(10,1)])/\
 fieldAt prog 205 0=some (0,cf.one)/\
 fieldAt prog 205 1=some (1,cf.one)/\
 fieldAt prog 205 2=some (2,cf.agg 7)/\
 fieldAt prog 205 3=some (9,cf.one)/\
 fieldAt prog 205 4=some (10,cf.one)/\
 n8 prog 207=some (gA.s,4)/\
 ju prog 209=false/\
 pK prog 209=some u64:=by refine⟨?_,?_,?_,?_,?_,?_,?_,?_,?_,?_,?_,?_,?_,?_⟩<;>kernel_rfl
@[simp]def zGU:n8 prog 212=some (gA.i i64,69)/\
 tk prog 222=cf.agg 6/\
 eH prog 222=some (aG.agg [ag.int i64 0,ag.int i64 0,ag.int i64 0,ag.int i64 0,ag.int i64 0,ag.int i64 0])/\
 hT prog 222=some [ag.int i64 0,ag.int i64 0,ag.int i64 0,ag.int i64 0,ag.int i64 0,ag.int i64 0]/\
 nA prog 222=some ([ag.int i64 0,ag.int i64 0,ag.int i64 0,ag.int i64 0,ag.int i64 0,ag.int i64 0],[(0,1),(1,1),(2,1),(3,1),(4,1),(5,1)])/\
 iU prog 222=true/\
 fieldAt prog 222 0=some (0,cf.one)/\
 fieldAt prog 222 1=some (1,cf.one)/\
 fieldAt prog 222 2=some (2,cf.one)/\
 fieldAt prog 222 3=some (3,cf.one)/\
 fieldAt prog 222 4=some (4,cf.one)/\
 fieldAt prog 222 5=some (5,cf.one)/\
 ju prog 228=false/\
 pK prog 228=some u64:=by refine⟨?_,?_,?_,?_,?_,?_,?_,?_,?_,?_,?_,?_,?_,?_⟩<;>kernel_rfl
@[simp]def zGV:tk prog 237=cf.one:=by kernel_rfl
def zkY:Go.Shelf.Ren:=⟨kn [(106,59),(213,106),(265,156)],kn [(3,3),(9,9)],fun x=>x⟩
def zjf:Go.Proofs.Lays.n106 prog zkY where
 mixed:=by kernel_rfl
 f106:=b1 func59
 f213:=b1 func106
 f265:=b1 func156
 t3:=underlying3
 a3:=isAgg3
 z3:=sizeOf3
 v3:=zeroValue3
 t9:=underlying9
 a9:=isAgg9
 z9:=sizeOf9
 v9:=zeroValue9
def zkZ:Go.Shelf.Ren:=⟨kn [(119,209),(120,212),(137,128),(151,158),(152,153),(160,60),(197,157),(217,176),(224,201),(225,210),(227,109),(228,155),(231,107),(232,108),(233,110),(234,111),(235,112),(236,113),(260,211),(266,237),(271,159)],kn [(0,0),(3,3),(4,4),(5,5),(9,9),(21,21),(46,209),(105,200),(116,161),(117,162),(119,262),(124,165),(138,264),(139,265)],kn [(3,1),(4,2)]⟩
def YF:Go.Proofs.Lays.n160 prog zkZ where
 mixed:=by kernel_rfl
 f119:=b1 func209
 f120:=b1 func212
 f137:=b1 func128
 f151:=b1 func158
 f152:=b1 func153
 f160:=b1 func60
 f197:=b1 func157
 f217:=b1 func176
 f224:=b1 func201
 f225:=b1 func210
 f227:=b1 func109
 f228:=b1 func155
 f231:=b1 func107
 f232:=b1 func108
 f233:=b1 func110
 f234:=b1 func111
 f235:=b1 func112
 f236:=b1 func113
 f260:=b1 func211
 f266:=b1 func237
 f271:=b1 func159
 t0:=underlying0
 a0:=isAgg0
 z0:=sizeOf0
 v0:=zeroValue0
 t3:=underlying3
 a3:=isAgg3
 z3:=sizeOf3
 v3:=zeroValue3
 t4:=underlying4
 a4:=isAgg4
 z4:=sizeOf4
 v4:=zeroValue4
 t5:=underlying5
 a5:=isAgg5
 z5:=sizeOf5
 v5:=zeroValue5
 t9:=underlying9
 a9:=isAgg9
 z9:=sizeOf9
 v9:=zeroValue9
 t21:=underlying21
 a21:=isAgg21
 z21:=sizeOf21
 v21:=zeroValue21
 t46:=underlying209
 a46:=isAgg209
 z46:=sizeOf209
 v46:=zeroValue209
 t105:=underlying200
 a105:=isAgg200
 z105:=sizeOf200
 v105:=zeroValue200
 t116:=underlying161
 a116:=isAgg161
 z116:=sizeOf161
 t117:=underlying162
 a117:=isAgg162
 z117:=sizeOf162
 v117:=zeroValue162
 t119:=underlying262
 a119:=isAgg262
 z119:=sizeOf262
 t124:=underlying165
 a124:=isAgg165
 z124:=sizeOf165
 v124:=zeroValue165
 t138:=underlying264
 a138:=isAgg264
 z138:=sizeOf264
 v138:=zeroValue264
 t139:=underlying265
 a139:=isAgg265
 z139:=sizeOf265
 v139:=zeroValue265
 g3:=by kernel_rfl
 g4:=by kernel_rfl
section
variable [bn]
def mixed:prog.follows .mixedOrders=true:=by kernel_rfl
def lR(n:Int)(h:-9223372036854775808<=n/\n<=9223372036854775807):i64.wrap n=n:=IntWalk.i64_in n h
def bc(n:Int)(h:-9223372036854775808<=n/\n<=9223372036854775807:=by omega):IntKind.i64.wrap n=n:=lR n h
section
variable {α:Type}{p:α->Bool}{l:List α}{i:Nat}
def wR(ar:i<l.length)(h:p l[i]=false):l.all p=false:=by rw[Iu];exact⟨l[i],hS ar,by simp[h]⟩
def ft(p:α->Bool)(l:List α)(i:Nat):Prop:=i<=l.length/\(l.take i).all p=true
def ft.zero:ft p l 0:=⟨cj _,by simp⟩
def ft.step(h:ft p l i)(ar:i<l.length)(am:p l[i]=true):ft p l (i+1):=by refine⟨ar,?_⟩;rw[Co,cr ar];simp only[Option.toList,uN,h.2,pr,am,Iv,Bool.and_self]
def ft.done(h:ft p l i)(iN:¬i<l.length):l.all p=true:=by have:=h.2;rwa[k4 (by omega)]at this
end
def dh(aO ah n:Int):Bool:=decide (aO<=n)&&decide (n<=ah)
def rh(b:UInt8):Bool:=decide (33<=b.toNat)&&decide (b.toNat<=126)
def oB(l:aq):Bool:=l.all rh
def ri(l:aq)(Iw:Int):Bool:=oB l&&dh 1 Iw l.length
def j2(l:aq):Bool:=ri l 2000
def fM(n:Int):Bool:=dh 0 253402300799 n
def Ix(x a b:Int):az prog 67 [.one (.int .i64 x),.one (.int .i64 a),.one (.int .i64 b)] (.x (.one (.bool (dh a b x)))):=by refine az.bd f67 mixed fun aD=>?_;simp[dh]
def Iy(x a b:Int):az prog 81 [.one (.int .i64 x),.one (.int .i64 a),.one (.int .i64 b)] (.x (.one (.bool (dh a b x)))):=by refine az.bd f81 mixed fun aD=>?_;simp[dh]
def E'(x:Int):az prog 15 [.one (.int .i64 x)] (.x (.one (.bool (fM x)))):=by refine az.bd f15 mixed fun aD=>?_;simp[fM,dh]
def Rq{b:UInt8}(h:((b.toNat:Nat):Int)<33\/126<((b.toNat:Nat):Int)):rh b=false:=by unfold rh;rcases h with h|h<;>simp<;>omega
def Rr{b:UInt8}(aa:33<=((b.toNat:Nat):Int))(ab:((b.toNat:Nat):Int)<=126):rh b=true:=by unfold rh;simp;omega
def Md(l:aq):az prog 14 [.one (.str l)] (.x (.one (.bool (j2 l)))):=by
 refine az.bd f14 mixed fun aD=>?_;have al:l.length<=maxLen:=by simpa[aG.ok,ag.ok]using aD
 simp;refine ck.of Nat (fun i=>[(0,.x (.one (.str l))),(5,.x (.one (.int .i64 l.length))),(6,.x (.one (.int .i64 i)))]) (ft rh l) (fun i=>l.length-i) 0 ft.zero ?_ ?_
 ·simp
 intro i ah;by_cases ar:i<l.length
 ·simp[ar];refine⟨fun h=>?_,fun aa ab=>bt.of (i+1) (ah.step ar (Rr (by omega) (by omega))) (by omega) ?_⟩
  ·simp[j2,ri,oB,wR ar (Rq h)]
  ·simp;exact lR _ (by unfold maxLen at al;omega)
 ·simp[ar];simp[j2,ri,oB,ah.done ar,dh]
def isWord(l:aq)(Iw:Int):az prog 116 [.one (.str l),.one (.int .i64 Iw)] (.x (.one (.bool (ri l Iw)))):=by
 refine az.bd f116 mixed fun aD=>?_;have al:l.length<=maxLen:=by simpa[aG.ok,ag.ok]using aD _ (kH)
 simp;refine ck.of Nat (fun i=>[(0,.x (.one (.str l))),(1,.x (.one (.int .i64 Iw))),(7,.x (.one (.int .i64 l.length))),(8,.x (.one (.int .i64 i)))]) (ft rh l) (fun i=>l.length-i) 0 ft.zero ?_ ?_
 ·simp
 intro i ah;by_cases ar:i<l.length
 ·simp[ar];refine⟨fun h=>?_,fun aa ab=>bt.of (i+1) (ah.step ar (Rr (by omega) (by omega))) (by omega) ?_⟩
  ·simp[ri,oB,wR ar (Rq h)]
  ·simp;exact lR _ (by unfold maxLen at al;omega)
 ·simp[ar];refine aH.of (Ix _ _ _) ?_;simp[ri,oB,ah.done ar]
def YC(l:aq):az prog 82 [.one (.str l)] (.x (.one (.bool (oB l)))):=by
 refine az.bd f82 mixed fun aD=>?_;have al:l.length<=maxLen:=by simpa[aG.ok,ag.ok]using aD
 simp;refine ck.of Nat (fun i=>[(0,.x (.one (.str l))),(3,.x (.one (.int .i64 i)))]) (ft rh l) (fun i=>l.length-i) 0 ft.zero ?_ ?_
 ·simp
 intro i ah;by_cases ar:i<l.length
 ·simp[ar];refine⟨fun h=>?_,fun aa ab=>bt.of (i+1) (ah.step ar (Rr (by omega) (by omega))) (by omega) ?_⟩
  ·simp[oB,wR ar (Rq h)]
  ·simp;exact lR _ (by unfold maxLen at al;omega)
 ·simp[ar];simp[oB,ah.done ar]
def zje(l:aq):az prog 80 [.one (.str l)] (.x (.one (.bool (j2 l)))):=by refine az.bd f80 mixed fun aD=>?_;simp;refine aH.of (Iy _ _ _) ?_;simp;refine b_.of (fun _=>YC _) rfl ?_;simp[j2,ri,Bool.and_comm]
def Iz:∀(a b:aq),Lib.compareBytes a b=if dD a b=true then -1 else if a=b then 0 else 1
 |[],[]=>by simp[Lib.compareBytes,dD,Op.bytesLess]
 |[],_::_=>by simp[Lib.compareBytes,dD,Op.bytesLess]
 |_::_,[]=>by simp[Lib.compareBytes,dD,Op.bytesLess]
 |a::x,b::y=>by
  have ba:=Iz x y;unfold dD at ba;simp only[Lib.compareBytes,dD,Op.bytesLess];by_cases aa:a<b
  ·simp[aa]
  ·by_cases ab:b<a
   ·have wS:a≠b:=fun e=>aa (e▸ab);simp[aa,ab,wS]
   ·have wS:a=b:=UInt8.le_antisymm (UInt8.not_lt.1 ab) (UInt8.not_lt.1 aa);subst wS;simp[aa,ba]
def hY(a b:Int):Int:=if a<b then -1 else if b<a then 1 else 0
def strings_Compare(a b:aq):az prog 59 [.one (.str a),.one (.str b)] (.x (.one (.int .i64 (Lib.compareBytes a b)))):=by refine az.E_ [.string ⟨a.toArray⟩,.string ⟨b.toArray⟩] _ (rf f59 (by kernel_rfl) (by kernel_rfl) rfl) rfl (fun _ _=>Rh _ _) (fun aD w=>?_);refine(Any.strings_Compare zjf ⟨a.toArray⟩ ⟨b.toArray⟩ w).mono ?_;rintro e w' ⟨rfl,rfl⟩;exact⟨rfl,RowKit.Below.refl _ _⟩
def YD(a b:aq):az prog 84 [.one (.str a),.one (.str b)] (.x (.one (.int .i64 (Lib.compareBytes a b)))):=by
 refine az.bd f84 mixed fun aD=>?_;have e:=Iz a b;generalize Lib.compareBytes a b=c at e⊢;simp;refine⟨fun h=>by rw[e,av h],fun h=>⟨fun ab au=>?_,fun ab=>?_⟩⟩
 ·rw[e,an (by simp[h]),an au]
 ·rw[e,an (by simp[h]),av (ab h)]
def YE(a b:Int):az prog 85 [.one (.int .i64 a),.one (.int .i64 b)] (.x (.one (.int .i64 (hY a b)))):=by
 refine az.bd f85 mixed fun aD=>?_;simp;refine⟨fun h=>?_,fun h=>⟨fun ab=>?_,fun ab=>?_⟩⟩<;>unfold hY
 ·rw[av h]
 ·rw[an (by omega),av ab]
 ·rw[an (by omega),an (by omega)]
def isNaN(a:Int):az prog 105 [.one (.int .i64 a)] (.x (.one (.bool false))):=by refine az.bd f105 mixed fun aD=>?_;simp
def IA(a b:Int):az prog 58 [.one (.int .i64 a),.one (.int .i64 b)] (.x (.one (.int .i64 (hY a b)))):=by
 refine az.bd f58 mixed fun aD=>?_;simp;refine aH.of (isNaN _) ?_;simp;refine aH.of (isNaN _) ?_;simp;refine⟨fun h=>?_,fun h=>⟨fun ab=>?_,fun ab=>?_⟩⟩<;>unfold hY
 ·rw[av h]
 ·rw[an (by omega),av ab]
 ·rw[an (by omega),an (by omega)]
end
section
variable [bn]
def Mg(l cs:aq):(Lib.trimS l cs=[])↔l.all (cs.contains ·)=true:=by
 have Mh:∀(l:aq),l.dropWhile (cs.contains ·)=[]↔l.all (cs.contains ·)=true:=by
  intro l;induction l with
  |nil=>simp
  |cons a l ba=>
   by_cases h:cs.contains a=true
   ·rw[List.dropWhile_cons_of_pos h,ba];simp only[pr,h,ig]
   ·rw[List.dropWhile_cons_of_neg h];simp only[pr,h,h7];simp
 have d7:∀(l:aq),l.reverse.all (cs.contains ·)=l.all (cs.contains ·):=by intro l;rw[List.all_reverse]
 unfold Lib.trimS Lib.trimLeftS Lib.trimRightS;rw[Mh,d7];have:∀(m:aq),(m.dropWhile (cs.contains ·)).all (cs.contains ·)=m.all (cs.contains ·):=by
  intro m;induction m with
  |nil=>rfl
  |cons a m ba=>
   by_cases h:cs.contains a=true
   ·rw[List.dropWhile_cons_of_pos h,ba];simp only[pr,h,ig]
   ·rw[List.dropWhile_cons_of_neg h]
 rw[this,d7]
def zji(l cs:aq):(Lib.trimS l cs).length<=l.length:=by have Mh:∀(m:aq),(m.dropWhile (cs.contains ·)).length<=m.length:=fun m=>(List.dropWhile_sublist _).length_le;unfold Lib.trimS Lib.trimLeftS Lib.trimRightS;have aa:=Mh (List.dropWhile (fun x=>cs.contains x) l.reverse).reverse;have ab:=Mh l.reverse;simp only[List.length_reverse]at aa ab;omega
def Cq(l cs:aq)(h:cs.all (fun b=>decide (b.toNat<128))=true)(ab:cs.length<1000):az prog 60 [.one (.str l),.one (.str cs)] (.x (.one (.str (Lib.trimS l cs)))):=by
 by_cases al:l.length<=maxLen
 ·refine az.E_ [.string ⟨l.toArray⟩,.string ⟨cs.toArray⟩] _ (rf f60 (by kernel_rfl) (by kernel_rfl) rfl) rfl (fun _ _=>Ri _ (jc (zji l cs) al)) (fun aD w=>?_);have hm:maxLen<=9223372036854775807:=by decide
  exact Any.strings_Trim_laid YF (by kernel_rfl) ⟨l.toArray⟩ ⟨cs.toArray⟩ w (by simp only[ByteArray.size,n3];omega) (by simp only[ByteArray.size,n3];omega) (Go.Proofs.ascii_of_all h)
 ·refine⟨rf f60 (by kernel_rfl) (by kernel_rfl) rfl,fun w S vs bS bj=>?_⟩;exact absurd (by simpa[aG.ok,ag.ok]using Rg bj _ (kH)) al
def yg:aq:=[48,49,50,51,52,53,54,55,56,57,97,98,99,100,101,102]
def IC:aq:=[97,98,99,100,101,102,103,104,105,106,107,108,109,110,111,112,113,114,115,116,117,118,119,120,121,122,48,49,50,51,52,53,54,55,56,57,45]
def qm(b:UInt8):Bool:=dh 48 57 b.toNat ||dh 97 102 b.toNat
def Cr(b:UInt8):Bool:=dh 97 122 b.toNat
def zU(b:UInt8):Bool:=Cr b ||(b.toNat==45) ||dh 48 57 b.toNat
def YG:∀b:UInt8,yg.contains b=qm b:=by
 intro b;have:∀n:Fin 256,yg.contains (UInt8.ofNat n.val)=qm (UInt8.ofNat n.val):=by decide +kernel
 have h:=this ⟨b.toNat,b.toNat_lt⟩;simpa using h
def zjj:∀b:UInt8,IC.contains b=zU b:=by
 intro b;have:∀n:Fin 256,IC.contains (UInt8.ofNat n.val)=zU (UInt8.ofNat n.val):=by decide +kernel
 have h:=this ⟨b.toNat,b.toNat_lt⟩;simpa using h
def nO(l:aq):Bool:=l.all qm&&(l.length==16)
def kl(l:aq):Bool:=l.all zU&&(Cr (l[0]?.getD 0)&&dh 1 40 l.length)
def zjk(l:aq):az prog 83 [.one (.str l)] (.x (.one (.bool (nO l)))):=by
 refine az.bd f83 mixed fun aD=>?_;have al:l.length<=maxLen:=by simpa[aG.ok,ag.ok]using aD
 simp;refine ck.of Nat (fun i=>[(0,.x (.one (.str l))),(3,.x (.one (.int .i64 i)))]) (ft qm l) (fun i=>l.length-i) 0 ft.zero ?_ ?_
 ·simp
 intro i ah;by_cases ar:i<l.length
 ·have e:qm l[i]=(dh 48 57 l[i].toNat ||dh 97 102 l[i].toNat):=rfl;unfold dh at e;simp +contextual[-Bool.and_eq_false_imp,ss,ar];refine⟨fun aa ab=>?_,fun h=>?_⟩
  ·have ad:qm l[i]=false:=by rw[e];simp;omega
   simp[nO,wR ar ad]
  ·have ad:qm l[i]=true:=by rw[e];simp;omega
   refine bt.of (i+1) (ah.step ar ad) (by omega) ?_;simp;exact lR _ (by unfold maxLen at al;omega)
 ·simp[ar];simp[nO,ah.done ar];rw[mm];simp;omega
def Mi(l:aq):az prog 35 [.one (.str l)] (.x (.one (.bool (kl l)))):=by
 refine az.bd f35 mixed fun aD=>?_;have e:=Mg l IC;simp only[zjj]at e;simp +contextual[-Bool.and_eq_false_imp,ss];refine⟨fun h _=>by omega,fun h _ _=>by omega,b_.of (fun _=>Cq l IC (by decide) (by decide)) rfl ?_⟩;simp +contextual[-Bool.and_eq_false_imp,ss];unfold kl Cr dh;generalize ((l[0]?.getD 0).toNat:Int)=n;by_cases h:Lib.trimS l IC=[]
 ·rw[e.1 h,h];rw[mm];simp;omega
 ·have:(l.all zU)=false:=by
   cases ad:l.all zU with
   |true=>exact absurd (e.2 ad) h
   |false=>rfl
  rw[this];simp[h]
def ID(l:aq):az prog 22 [.one (.str l)] (.x (.one (.bool (kl l)))):=by
 refine az.bd f22 mixed fun aD=>?_;have al:l.length<=maxLen:=by simpa[aG.ok,ag.ok]using aD
 simp +contextual[-Bool.and_eq_false_imp];refine ck.of Nat (fun i=>[(0,.x (.one (.str l))),(3,.x (.one (.int .i64 i)))]) (fun i=>ft zU l i/\(0<i->Cr (l[0]?.getD 0)=true)) (fun i=>l.length-i) 0 ⟨ft.zero,by simp⟩ ?_ ?_
 ·simp
 rintro i ⟨ah,u3⟩;by_cases ar:i<l.length
 ·have e:zU l[i]=(Cr l[i] ||(l[i].toNat==45) ||dh 48 57 l[i].toNat):=rfl;have aK:Cr l[i]=(decide ((97:Int)<=l[i].toNat)&&decide ((l[i].toNat:Int)<=122)):=rfl;have a1:i=0->l[0]?.getD 0=l[i]:=by rintro rfl;simp[ar]
  simp +contextual[-Bool.and_eq_false_imp,ss,ar];unfold dh at e;refine⟨fun aa ab=>?_,fun h=>bt.of (i+1) ⟨ah.step ar ?_,fun _=>?_⟩ (by omega) ?_⟩
  ·rcases ab with ab|⟨ab,au⟩
   ·have:Cr (l[0]?.getD 0)=false:=by rw[a1 ab,aK];simp;omega
    simp[kl,this]
   ·have:zU l[i]=false:=by rw[e,aK];simp;omega
    simp[kl,wR ar this]
  ·rw[e,aK];simp;omega
  ·by_cases aZ:i=0
   ·rw[a1 aZ,aK];simp;omega
   ·exact u3 (by omega)
  ·simp;exact lR _ (by unfold maxLen at al;omega)
 ·simp +contextual[-Bool.and_eq_false_imp,ar];unfold kl;rw[ah.done ar];cases l with
  |nil=>simp[dh]
  |cons a r=>have:=u3 (by simp at ar;omega);rw[this,mm];simp[dh];omega
structure Entry where
 key:aq
 time:Int
 status:Int
 type:aq
 ee:aq
 file:aq
 aO:Int
 ah:Int
 same:Bool
 deriving DecidableEq
def Entry.row(e:Entry):List ag:=[.str e.key,.int .i64 e.time,.int .i64 e.status,.str e.type,.str e.ee,.str e.file,.int .i64 e.aO,.int .i64 e.ah,.bool e.same]
def Fc(n:Int):List ag:=[.int .i64 n]
def kP:List Int->Int
 |[]=>0
 |a::r=>if a=0 then kP r else a
def RA:∀{l:List Int} {i:Nat},(l.take i).all (·==0)=true->(h:i<l.length)->l[i]≠0->kP l=l[i]
 |a::r,0,_,_,aX=>by simp[kP]at aX⊢;intro h;exact absurd h aX
 |a::r,i+1,am,h,aX=>by simp only[Gz,pr,b7,fc]at am;simp only[kP,am.1,gW,List.getElem_cons_succ];exact RA am.2 (by simpa using h) (by simpa using aX)
def RB:∀{l:List Int},l.all (·==0)=true->kP l=0
 |[],_=>rfl
 |a::r,am=>by simp only[pr,b7,fc]at am;simp only[kP,am.1,gW];exact RB am.2
def cmpL(a b:Entry):List Int:=[Lib.compareBytes a.key b.key,hY a.time b.time,Lib.compareBytes a.file b.file,hY a.aO b.aO]
def Ct(a b:Entry):Int:=kP (cmpL a b)
def Mp(l:List Int):az prog 57 [.one (.list 1 (l.map Fc))] (.x (.one (.int .i64 (kP l)))):=by
 refine az.bd f57 mixed fun aD=>?_;have al:l.length<=maxLen:=by have:=aD _ kH;simp[aG.ok,ag.ok]at this;exact this.1
 simp +contextual[-Bool.and_eq_false_imp];refine ck.of Nat (fun i=>[(3,.x (.one (.int .i64 0))),(6,.x (.one (.list 1 (l.map Fc)))),(7,.x (.one (.int .i64 l.length))),(8,.x (.one (.int .i64 i)))]) (ft (·==0) l) (fun i=>l.length-i) 0 ft.zero ?_ ?_
 ·simp
 intro i ah;by_cases ar:i<l.length
 ·simp +contextual[-Bool.and_eq_false_imp,ar,Fc];refine⟨fun h=>RA ah.2 ar h,fun h=>bt.of (i+1) (ah.step ar (by simp[h])) (by omega) ?_⟩;simp;exact lR _ (by unfold maxLen at al;omega)
 ·simp +contextual[-Bool.and_eq_false_imp,ar];exact RB (ah.done ar)
def zjA(a b:Entry):az prog 63 [.agg a.row,.agg b.row] (.x (.one (.int .i64 (Ct a b)))):=by refine az.bd f63 mixed fun aD=>?_;simp +contextual[-Bool.and_eq_false_imp,Entry.row];refine aH.of (strings_Compare _ _) ?_;simp +contextual[-Bool.and_eq_false_imp];refine aH.of (IA _ _) ?_;simp +contextual[-Bool.and_eq_false_imp];refine aH.of (strings_Compare _ _) ?_;simp +contextual[-Bool.and_eq_false_imp];refine aH.of (IA _ _) ?_;simp +contextual[-Bool.and_eq_false_imp];refine aH.of (Mp (cmpL a b)) ?_;simp +contextual[-Bool.and_eq_false_imp];rfl
def zjB(a b:Entry):az prog 47 [.agg a.row,.agg b.row] (.x (.one (.int .i64 (Ct a b)))):=by
 refine az.bd f47 mixed fun aD=>?_;simp +contextual[-Bool.and_eq_false_imp,Entry.row];refine aH.of (YD _ _) ?_;simp +contextual[-Bool.and_eq_false_imp];refine aH.of (YE _ _) ?_;simp +contextual[-Bool.and_eq_false_imp];refine aH.of (YD _ _) ?_;simp +contextual[-Bool.and_eq_false_imp];refine aH.of (YE _ _) ?_;simp +contextual[-Bool.and_eq_false_imp];obtain⟨l,el⟩:∃l,l=cmpL a b:=⟨_,rfl⟩
 have aN:l.length=4:=by rw[el];rfl
 refine ck.of Nat (fun i=>[(29,.own 3 1 (l.map Fc)),(30,.x (.one (.int .i64 4))),(31,.x (.one (.int .i64 i)))]) (ft (·==0) l) (fun i=>l.length-i) 0 ft.zero ?_ ?_
 ·simp[el,cmpL,Fc]
 have e:Ct a b=kP l:=by rw[el];rfl
 rw[e];clear el e;intro i ah;by_cases ar:i<l.length
 ·have RC:(i:Int)<4:=by omega
  simp +contextual[-Bool.and_eq_false_imp,ar,RC,Fc];refine⟨fun h=>RA ah.2 ar h,fun h=>bt.of (i+1) (ah.step ar (by simp[h])) (by omega) ?_⟩;simp;exact bc _
 ·have RC:¬(i:Int)<4:=by omega
  simp +contextual[-Bool.and_eq_false_imp,RC];exact RB (ah.done ar)
def rm(e:Entry):Int:=
 if j2 e.key=false then 3
 else if fM e.time=false\/(e.status≠0/\dh 100 599 e.status=false)then 1
 else if e.type≠[]/\ri e.type 40=false then 3
 else if nO e.ee=false then 3
 else if kl e.file=false then 5
 else if dh 0 500000 e.aO=false\/dh e.aO 500000 e.ah=false then 1
 else 0
def zjF(l:aq):(nO l=false)↔(l.length≠16\/Lib.trimS l yg≠[]):=by
 have e:=Mg l yg;simp only[YG]at e;unfold nO;cases ad:l.all qm with
 |true=>simp[e.2 ad]
 |false=>
  have:Lib.trimS l yg≠[]:=fun h=>by rw[e.1 h]at ad;cases ad
  simp[this]
def zjG(e:Entry):az prog 62 [.agg e.row] (.x (.one (.int .i64 (rm e)))):=by
 refine az.bd f62 mixed fun aD=>?_;have vl:=zjF e.ee;generalize a6:rm e=F;unfold rm at a6;simp +contextual[-Bool.and_eq_false_imp,Entry.row];refine aH.of (Md _) ?_;simp +contextual[-Bool.and_eq_false_imp];refine⟨fun h=>?_,fun aa=>?_⟩
 ·rw[<-a6,av h]
 rw[an (by simp[aa])]at a6;refine aH.of (E' _) ?_;simp +contextual[-Bool.and_eq_false_imp];refine b_.of (fun _=>Ix _ _ _) rfl ?_;simp +contextual[-Bool.and_eq_false_imp,ss];refine⟨fun h=>?_,fun ab au=>b_.of (fun _=>isWord _ _) rfl ?_⟩
 ·rw[<-a6,av h]
 rw[an (by simp[ab];exact fun a=>au.resolve_left a)]at a6;simp +contextual[-Bool.and_eq_false_imp,ss];refine⟨fun aN bE=>?_,fun aN=>b_.of (fun _=>Cq _ yg (by decide) (by decide)) rfl ?_⟩
 ·rw[<-a6,av ⟨aN,bE⟩]
 rw[an (by rintro⟨a,b⟩;rcases aN with aN|aN<;>simp_all)]at a6;simp +contextual[-Bool.and_eq_false_imp];have vm:((e.ee.length:Int)=16)↔(e.ee.length=16):=by omega
 refine⟨fun h=>?_,fun bE cS=>aH.of (Mi _) ?_⟩
 ·rw[<-a6,av (vl.2 (by rcases h with h|h;exact .inl (fun a=>h (vm.2 a));exact .inr h))]
 rw[an (fun h=>by rcases vl.1 h with h|h;exact h (vm.1 bE);exact h cS)]at a6;simp +contextual[-Bool.and_eq_false_imp];refine⟨fun h=>?_,fun d8=>aH.of (Ix _ _ _) ?_⟩
 ·rw[<-a6,av h]
 rw[an (by simp[d8])]at a6;simp +contextual[-Bool.and_eq_false_imp];refine b_.of (fun _=>Ix _ _ _) rfl ?_;simp +contextual[-Bool.and_eq_false_imp];refine⟨fun h=>?_,fun ei fA=>?_⟩
 ·rw[<-a6,av h]
 ·rw[<-a6,an (by simp[ei,fA])]
def zjH(e:Entry):az prog 46 [.agg e.row] (.x (.one (.int .i64 (rm e)))):=by
 refine az.bd f46 mixed fun aD=>?_;have YW:(e.type≠[]/\ri e.type 40=false)↔((40:Int)<e.type.length\/oB e.type=false):=by
  unfold ri dh;cases e.type with
  |nil=>simp[oB]
  |cons a r=>cases oB (a::r)<;>simp<;>omega
 generalize a6:rm e=F;unfold rm at a6;simp +contextual[-Bool.and_eq_false_imp,Entry.row];refine aH.of (zje _) ?_;simp +contextual[-Bool.and_eq_false_imp];refine⟨fun h=>?_,fun aa=>?_⟩
 ·rw[<-a6,av h]
 rw[an (by simp[aa])]at a6;refine aH.of (Iy _ _ _) ?_;simp +contextual[-Bool.and_eq_false_imp];refine b_.of (fun _=>Iy _ _ _) rfl ?_;simp +contextual[-Bool.and_eq_false_imp,ss];refine⟨fun h=>?_,fun ab au=>b_.of (fun _=>YC _) rfl ?_⟩
 ·rw[<-a6];exact av h
 rw[an (by rw[show fM e.time=true from ab];simp;exact fun a=>au.resolve_left a)]at a6;simp +contextual[-Bool.and_eq_false_imp];refine b_.of (fun _=>zjk _) rfl ?_;simp +contextual[-Bool.and_eq_false_imp];refine⟨fun h=>?_,fun aN kB bE=>aH.of (ID _) ?_⟩
 ·rw[<-a6];by_cases hw:e.type≠[]/\ri e.type 40=false
  ·rw[av hw]
  ·rw[an hw,av (h.resolve_left (fun a=>hw (YW.2 a)))]
 rw[an (fun a=>by rcases YW.1 a with h|h;omega;rw[kB]at h;cases h),an (by simp[bE])]at a6;simp +contextual[-Bool.and_eq_false_imp];refine⟨fun h=>?_,fun d8=>aH.of (Iy _ _ _) ?_⟩
 ·rw[<-a6,av h]
 rw[an (by simp[d8])]at a6;simp +contextual[-Bool.and_eq_false_imp];refine b_.of (fun _=>Iy _ _ _) rfl ?_;simp +contextual[-Bool.and_eq_false_imp];refine⟨fun h=>?_,fun ei fA=>?_⟩
 ·rw[<-a6,av h]
 ·rw[<-a6,an (by simp[ei,fA])]
def nb:Option Entry->List Entry->Int
 |_,[]=>0
 |none,e::r=>if rm e=0 then nb (some e) r else rm e
 |some q,e::r=>if rm e=0 then (if 0<Ct q e then 8 else if Ct q e=0 then 7 else nb (some e) r)else rm e
def iq(l:List Entry):Int:=if 3000<l.length then 2 else nb none l
def sz(l:List Entry)(i:Nat):Option Entry:=if i=0 then none else l[i-1]?
def wX(l:List Entry)(i:Nat):Prop:=i<=l.length/\nb none l=nb (sz l i) (l.drop i)
def wX.zero{l:List Entry}:wX l 0:=⟨cj _,rfl⟩
def wX.at{l:List Entry}{i:Nat}(h:wX l i)(ar:i<l.length):nb none l=nb (sz l i) (l[i]::l.drop (i+1)):=by rw[h.2,jw ar]
def Mr{l:List Entry}{i:Nat}(ar:i<l.length):sz l (i+1)=some l[i]:=by simp[sz,ar]
def wX.done{l:List Entry}{i:Nat}(h:wX l i)(iN:¬i<l.length):nb none l=0:=by rw[h.2,nu (by omega)];cases sz l i<;>rfl
def YX(l:List Entry):az prog 38 [.one (.list 9 (l.map Entry.row))] (.x (.one (.int .i64 (iq l)))):=by
 refine az.bd f38 mixed fun aD=>?_;simp +contextual[-Bool.and_eq_false_imp];refine⟨fun h=>?_,fun h=>?_⟩
 ·unfold iq;rw[av (by omega)]
 have aF:iq l=nb none l:=by unfold iq;rw[an (by omega)]
 rw[aF];refine ck.of Nat (fun i=>[(0,.x (.one (.list 9 (l.map Entry.row)))),(10,.x (.one (.list 9 (l.map Entry.row)))),(11,.x (.one (.int .i64 l.length))),(12,.x (.one (.int .i64 i)))]) (wX l) (fun i=>l.length-i) 0 wX.zero ?_ ?_
 ·simp
 intro i ah;by_cases ar:i<l.length
 ·have bF:=ah.at ar;simp +contextual[-Bool.and_eq_false_imp,ar,Entry.row];refine aH.of (zjG l[i]) ?_;simp +contextual[-Bool.and_eq_false_imp];refine⟨fun aw=>?_,fun aw=>⟨fun je=>?_,fun aZ=>?_⟩⟩
  ·rw[bF];unfold nb;cases sz l i<;>simp[aw]
  ·have hw:i64.wrap ((i:Int)-1)=((i-1:Nat):Int):=by rw[bc _];omega
   have vn:i-1<l.length:=by omega
   have am:sz l i=some l[i-1]:=by simp[sz,vn];omega
   rw[am]at bF;simp only[nb,aw,gW]at bF;simp +contextual[-Bool.and_eq_false_imp,hw,vn,Entry.row];refine aH.of (zjA l[i-1] l[i]) ?_;simp +contextual[-Bool.and_eq_false_imp];refine⟨fun aa=>?_,fun aa=>⟨fun ab=>?_,fun ab=>?_⟩⟩
   ·rw[bF,av aa]
   ·rw[bF,an (by omega),av ab]
   ·rw[an (by omega),an ab]at bF;refine bt.of (i+1) ⟨ar,by rw[bF,Mr ar]⟩ (by omega) ?_;simp;exact bc _
  ·subst aZ;refine bt.of 1 ⟨ar,?_⟩ (by omega) ?_
   ·rw[bF,Mr ar];simp[sz,nb,aw]
   ·simp;exact bc _
 ·simp[ar];exact ah.done ar
def zjI(l:List Entry):az prog 25 [.one (.list 9 (l.map Entry.row))] (.x (.one (.int .i64 (iq l)))):=by
 refine az.bd f25 mixed fun aD=>?_;simp +contextual[-Bool.and_eq_false_imp];refine⟨fun h=>?_,fun h=>?_⟩
 ·unfold iq;rw[av (by omega)]
 have aF:iq l=nb none l:=by unfold iq;rw[an (by omega)]
 rw[aF];refine ck.of Nat (fun i=>[(0,.x (.one (.list 9 (l.map Entry.row)))),(3,.x (.one (.int .i64 i)))]) (wX l) (fun i=>l.length-i) 0 wX.zero ?_ ?_
 ·simp
 intro i ah;by_cases ar:i<l.length
 ·have bF:=ah.at ar;simp +contextual[-Bool.and_eq_false_imp,ar,Entry.row];refine aH.of (zjH l[i]) ?_;simp +contextual[-Bool.and_eq_false_imp];refine⟨fun aw=>?_,fun aw=>⟨fun aZ=>?_,fun je=>?_⟩⟩
  ·rw[bF];unfold nb;cases sz l i<;>simp[aw]
  ·subst aZ;refine bt.of 1 ⟨ar,?_⟩ (by omega) ?_
   ·rw[bF,Mr ar];simp[sz,nb,aw]
   ·simp;exact bc _
  ·have hw:i64.wrap ((i:Int)-1)=((i-1:Nat):Int):=by rw[bc _];omega
   have vn:i-1<l.length:=by omega
   have am:sz l i=some l[i-1]:=by simp[sz,vn];omega
   rw[am]at bF;simp only[nb,aw,gW]at bF;simp +contextual[-Bool.and_eq_false_imp,hw,vn,ar,Entry.row];refine aH.of (zjB l[i-1] l[i]) ?_;simp +contextual[-Bool.and_eq_false_imp];refine⟨fun aa=>?_,fun aa=>⟨fun ab=>?_,fun ab=>?_⟩⟩
   ·rw[bF,av aa]
   ·rw[bF,an (by omega),av ab]
   ·rw[an (by omega),an ab]at bF;refine bt.of (i+1) ⟨ar,by rw[bF,Mr ar]⟩ (by omega) ?_;simp;exact bc _
 ·simp[ar];exact ah.done ar
section
variable (e:Entry)
@[simp]def zGy:e.row.length=9:=(rfl)
@[simp]def zGz:List.take 9 e.row=e.row:=(rfl)
@[simp]def zGA(z:Option aG)(p:Prop):xl .one z p e.row=(p,.x (.one (.str e.key))):=(rfl)
@[simp]def zGB:e.row.tail=[.int .i64 e.time,.int .i64 e.status,.str e.type,.str e.ee,.str e.file,.int .i64 e.aO,.int .i64 e.ah,.bool e.same]:=(rfl)
end
@[simp]def zGC{α β:Type}(f:α->β)(l:List α)(a b:Int):b4 (l.map f) a b=(b4 l a b).map f:=by simp[b4]
@[simp]def zGD{α:Type}(l:List α)(a:Int):b4 l a (l.length:Int)=l.drop a.toNat:=by simp[b4]
@[simp]def zGE{α:Type}(l:List α)(b:Int):b4 l 0 b=l.take b.toNat:=by simp[b4]
abbrev entries(l:List Entry):aG:=.one (.list 9 (l.map Entry.row))
def e9(s p:aq):Bool:=p.isPrefixOf s
def Y8(s p:aq):az prog 255 [.one (.str s),.one (.str p)] (.x (.one (.bool (e9 s p)))):=by
 refine az.bd f255 mixed fun aD=>?_;simp +contextual[-Bool.and_eq_false_imp];have h:(p.isPrefixOf s=true)↔p=s.take p.length:=by rw[tX,List.prefix_iff_eq_take]
 unfold e9;rw[mm,h];simp;constructor
 ·intro e;refine⟨?_,e.symm⟩;have:=pR List.length e;rw[e']at this;omega
 ·intro e;exact e.2.symm
def RO(s p:aq):az prog 246 [.one (.str s),.one (.str p)] (.x (.one (.bool (e9 s p)))):=by refine az.bd f246 mixed fun aD=>?_;simp +contextual[-Bool.and_eq_false_imp];refine aH.of (Y8 _ _) ?_;simp +contextual[-Bool.and_eq_false_imp]
end
section
variable [bn]
def Mw{l:List Entry}(h:iq l=0):l.length<=3000:=by
 unfold iq at h;split at h
 ·cases h
 ·omega
end
def zlb:Go.Shelf.Ren:=⟨kn [(129,283),(171,197),(243,247),(246,265),(283,275),(284,276),(285,277),(286,278),(317,282),(318,284),(319,285),(320,286),(337,287),(338,288)],kn [(0,0),(2,2),(3,3),(4,4),(5,5),(9,9),(20,20),(37,51),(46,209),(51,258),(53,228),(171,288),(173,291),(212,298),(213,299),(232,302),(233,303)],kn [(17,5),(18,6),(19,7)]⟩
def zlc:Go.Proofs.LaysM.n171 prog zlb where
 i0:=by kernel_rfl
 i2:=by kernel_rfl
 i3:=by kernel_rfl
 i4:=by kernel_rfl
 i5:=by kernel_rfl
 i9:=by kernel_rfl
 i20:=by kernel_rfl
 i37:=by kernel_rfl
 i46:=by kernel_rfl
 i51:=by kernel_rfl
 i53:=by kernel_rfl
 i171:=by kernel_rfl
 i173:=by kernel_rfl
 i212:=by kernel_rfl
 i232:=by kernel_rfl
 i233:=by kernel_rfl
 m17:=by kernel_rfl
 m18:=by kernel_rfl
 m19:=by kernel_rfl
 mixed:=by kernel_rfl
 f129:=b1 func283
 f171:=b1 func197
 f243:=b1 func247
 f246:=b1 func265
 f283:=b1 func275
 f284:=b1 func276
 f285:=b1 func277
 f286:=b1 func278
 f317:=b1 func282
 f318:=b1 func284
 f319:=b1 func285
 f320:=b1 func286
 f337:=b1 func287
 f338:=b1 func288
 t0:=underlying0
 a0:=isAgg0
 z0:=sizeOf0
 v0:=zeroValue0
 t2:=underlying2
 a2:=isAgg2
 z2:=sizeOf2
 v2:=zeroValue2
 t3:=underlying3
 a3:=isAgg3
 z3:=sizeOf3
 v3:=zeroValue3
 t4:=underlying4
 a4:=isAgg4
 z4:=sizeOf4
 v4:=zeroValue4
 t5:=underlying5
 a5:=isAgg5
 z5:=sizeOf5
 v5:=zeroValue5
 t9:=underlying9
 a9:=isAgg9
 z9:=sizeOf9
 v9:=zeroValue9
 t20:=underlying20
 a20:=isAgg20
 z20:=sizeOf20
 v20:=zeroValue20
 t37:=underlying51
 a37:=isAgg51
 z37:=sizeOf51
 v37:=zeroValue51
 t46:=underlying209
 a46:=isAgg209
 z46:=sizeOf209
 v46:=zeroValue209
 t51:=underlying258
 a51:=isAgg258
 z51:=sizeOf258
 v51:=zeroValue258
 t53:=underlying228
 a53:=isAgg228
 z53:=sizeOf228
 v53:=zeroValue228
 t171:=underlying288
 a171:=isAgg288
 z171:=sizeOf288
 v171:=zeroValue288
 t173:=underlying291
 a173:=isAgg291
 z173:=sizeOf291
 v173:=zeroValue291
 t212:=underlying298
 a212:=isAgg298
 z212:=sizeOf298
 v212:=zeroValue298
 t213:=underlying299
 a213:=isAgg299
 z213:=sizeOf299
 t232:=underlying302
 a232:=isAgg302
 z232:=sizeOf302
 v232:=zeroValue302
 t233:=underlying303
 a233:=isAgg303
 z233:=sizeOf303
 v233:=zeroValue303
 g17:=by kernel_rfl
 g18:=by kernel_rfl
 g19:=by kernel_rfl
section
variable [bn][cF prog]
def zY(n:Int):aq:=Lib.itoa n
def ym(n:Int):Prop:=-9223372036854775808<=n/\n<=9223372036854775807
def Z'{n:Int}(h:ym n):(zY n).length<=21:=Lib.itoa_length_le n h.1 h.2
def zoZ(w:bb)(k:Nat)(os:Array Obj):RowKit.Below w.heap.size w (Sort.grow (w.drewN k) os):=
 ⟨rfl,rfl,rfl,by simp[Sort.grow,World.drewN],fun j ac=>by show (w.heap++os)[j]?=w.heap[j]?;rw[G4 ac]⟩
def strconv_Itoa(n:Int)(h:ym n):az prog 197 [.one (.int .i64 n)] (.x (.one (.str (zY n)))):=by refine az.E9 [.int .i64 n] _ (rf f197 (by kernel_rfl) (by kernel_rfl) rfl) rfl (fun _ _=>Ri _ (jc (Z' h) (by decide))) (fun _ w hw=>?_);refine(Any.strconv_Itoa zlc n h.1 h.2 w (cF.ziS w hw)).mono ?_;rintro e w' ⟨rfl,k,os,rfl⟩;exact⟨rfl,zoZ _ _ _⟩
abbrev strs(l:List (aq)):aG:=.one (.list 1 (l.map fun s=>[.str s]))
structure MW(e:Entry):Prop where
 key:e.key.length<=2000
 time:0<=e.time/\e.time<=253402300799
 status:e.status=0\/(100<=e.status/\e.status<=599)
 type:e.type.length<=40
 ee:e.ee.length=16
 file:e.file.length<=40
 aO:0<=e.aO/\e.aO<=500000
 ah:e.aO<=e.ah/\e.ah<=500000
end
def z6(n:Nat):UInt8:=UInt8.ofNat (48+n%10)
def eg:Nat->Nat->aq
 |0,_=>[]
 |k+1,n=>eg k (n/10)++[z6 n]
@[simp]def Cy:∀(k n:Nat),(eg k n).length=k
 |0,_=>rfl
 |k+1,n=>by simp[eg,Cy k]
def Y6:∀k,eg k 0=List.replicate k 48
 |0=>rfl
 |k+1=>by simp only[eg,Nat.zero_div,Y6 k,List.replicate_succ'];rfl
def Y7:∀(k n:Nat),n<10^k->1<=k->(Lib.decDigits n).length<=k/\eg k n=List.replicate (k-(Lib.decDigits n).length) 48++Lib.decDigits n
 |0,n,_,h=>by omega
 |k+1,n,aX,_=>by
  by_cases k5:n<10
  ·have e:Lib.decDigits n=[UInt8.ofNat (48+n)]:=by rw[Lib.decDigits,x9 k5]
   rw[e];refine⟨by simp,?_⟩;simp only[eg,hz,ur,zc,hv];rw[show n/10=0 by omega,Y6,z6,GZ k5]
  ·have e:Lib.decDigits n=Lib.decDigits (n/10)++[UInt8.ofNat (48+n%10)]:=by rw[Lib.decDigits,dif_neg k5]
   have ak:1<=k:=by
    rcases Nat.eq_zero_or_pos k with a1|a1
    ·subst a1;simp at aX;omega
    ·exact a1
   have ar:n/10<10^k:=by rw[Nat.pow_succ]at aX;omega
   obtain⟨aa,ab⟩:=Y7 k (n/10) ar ak;rw[e];refine⟨by simp;omega,?_⟩;simp only[eg,eG,hz,ur,ab];rw[show k+1-((Lib.decDigits (n/10)).length+(0+1))=k-(Lib.decDigits (n/10)).length by omega,pG];rfl
def zjL(k n:Nat)(h:n<10^k)(ak:1<=k):(Lib.itoa (n:Int)).length<=k/\List.replicate (k-(Lib.itoa (n:Int)).length) 48++Lib.itoa (n:Int)=eg k n:=by
 have e:Lib.itoa (n:Int)=Lib.decDigits n:=by unfold Lib.itoa;rw[an (by omega)];rfl
 rw[e];obtain⟨aa,ab⟩:=Y7 k n h ak;exact⟨aa,ab.symm⟩
def zkq(k j n:Nat):eg (k+j) n=eg k (n/10^j)++eg j n:=by
 induction j generalizing n with
 |zero=>simp[eg]
 |succ j ba=>rw[<-rN];simp only[eg];rw[ba,Nat.div_div_eq_div_mul,Nat.pow_succ',pG]
def zjT(n:Nat):eg 2 n=[UInt8.ofNat (48+n/10%10),UInt8.ofNat (48+n%10)]:=rfl
def zkl(n:Nat):eg 4 n=eg 2 (n/100)++eg 2 n:=zkq 2 2 n
def da(b:UInt8):Bool:=decide (48<=b.toNat)&&decide (b.toNat<=57)
def bV(s:aq):Nat:=s.foldl (fun a b=>a*10+(b.toNat-48)) 0
def I0(s:aq):Bool:=decide (s.head?=some 48)&&decide (s.length≠1)
def MJ(s:aq)(b:UInt8):bV (s++[b])=bV s*10+(b.toNat-48):=by simp[bV]
def zlu{α:Type}(l:List α)(h:l≠[]):∃t b,l=t++[b]:=⟨l.dropLast,l.getLast h,(List.dropLast_concat_getLast h).symm⟩
def R5{α:Type}{p:List α->Prop}(a1:p [])(aa:∀t b,p t->p (t++[b]))(l:List α):p l:=by
 generalize aX:l.length=n;induction n generalizing l with
 |zero=>rw[n5 aX];exact a1
 |succ n ba=>obtain⟨t,b,rfl⟩:=zlu l (by rintro rfl;simp at aX);exact aa t b (ba t (by simpa using aX))
def Zt:∀(s:aq) (a:Nat),s.all da=true->Lib.decFrom a s=some (s.foldl (fun a b=>a*10+(b.toNat-48)) a)
 |[],a,_=>rfl
 |b::r,a,h=>by
  simp only[pr,b7,da,hk]at h;have aA:Lib.digitVal b=some (b.toNat-48):=by unfold Lib.digitVal;rw[av ⟨h.1.1,h.1.2⟩]
  unfold Lib.decFrom;rw[aA];exact Zt r _ h.2
def Mo{s:aq}(h:s.all da=true)(a1:s≠[]):Lib.atoi s=some (bV s:Int):=by
 cases s with
 |nil=>exact absurd rfl a1
 |cons b r=>
  have ad:=h;simp only[pr,b7,da,hk]at ad;have zlv:(b==45)=false:=by simp only[jj,ne_eq];rintro rfl;exact absurd ad.1.1 (by decide)
  have zlw:(b==43)=false:=by simp only[jj,ne_eq];rintro rfl;exact absurd ad.1.1 (by decide)
  unfold Lib.atoi;dsimp only;rw[zlv,zlw];simp only[pP,hy,Lib.decNat,List.isEmpty_cons];rw[Zt _ 0 h];rfl
def Zs{b:UInt8}(h:da b=true):UInt8.ofNat (48+(b.toNat-48))=b/\b.toNat-48<10:=by simp only[da,b7,hk]at h;refine⟨?_,by omega⟩;rw[show 48+(b.toNat-48)=b.toNat by omega];simp
def qo:∀(s:aq),s.all da=true->bV s<10^s.length:=by
 intro s;induction s using R5 with
 |a1=>intro _;simp[bV]
 |aa t b ba=>intro h;simp only[uN,pr,Iv,sE,b7]at h;have aa:=ba h.1;have ab:=(Zs h.2).2;rw[MJ,eG,qN,Nat.pow_succ];omega
def rk(y:Int):Bool:=decide (y%4=0)&&(decide (y%100≠0) ||decide (y%400=0))
def dn(y:Int):Int:=365*(y-1)+(y-1)/4-(y-1)/100+(y-1)/400-719162
def oC(y:Int):Int:=if rk y=true then 366 else 365
def km(y m:Int):Int:=if m=4\/m=6\/m=9\/m=11 then 30 else if m=2 then (if rk y=true then 29 else 28)else 31
def IL(y:Int):Nat->Int
 |0=>0
 |n+1=>if n=0 then 0 else IL y n+km y n
def ef(y m:Int):Int:=IL y m.toNat
def Cu(y:Int):dn (y+1)=dn y+oC y:=by unfold dn oC rk;simp only[b7,gl,hk];split<;>omega
def Fe(y:Int):365<=oC y/\oC y<=366:=by unfold oC;split<;>omega
def yj(y:Int):ef y 1=0:=rfl
def yk(y m:Int)(h:1<=m):ef y (m+1)=ef y m+km y m:=by
 unfold ef;obtain⟨n,rfl⟩:∃n:Nat,m=(n:Int)+1:=⟨(m-1).toNat,by omega⟩
 have ax:((n:Int)+1+1).toNat=n+2:=by omega
 have aK:((n:Int)+1).toNat=n+1:=by omega
 rw[ax,aK];show (if n+1=0 then 0 else IL y (n+1)+km y ((n+1:Nat):Int))=_
 rw[an (by omega)];congr 1
def yl(y m:Int):28<=km y m/\km y m<=31:=by unfold km;repeat' split<;>omega
def Mq(y:Int):ef y 13=oC y:=by have h:=fun m h=>yk y m h;have aa:=h 1 (by omega);have ab:=h 2 (by omega);have au:=h 3 (by omega);have aN:=h 4 (by omega);have bE:=h 5 (by omega);have cS:=h 6 (by omega);have d8:=h 7 (by omega);have ei:=h 8 (by omega);have fA:=h 9 (by omega);have k5:=h 10 (by omega);have Fd:=h 11 (by omega);have Ff:=h 12 (by omega);simp only[km,Int.reduceAdd]at aa ab au aN bE cS d8 ei fA k5 Fd Ff;rw[yj]at aa;unfold oC;cases al:rk y<;>simp[al]at*<;> omega
def sx(y:Int){a b:Int}(bj:1<=a)(h:a<=b):ef y a<=ef y b:=by
 obtain⟨n,rfl⟩:∃n:Nat,b=a+n:=⟨(b-a).toNat,by omega⟩
 clear h;induction n with
 |zero=>simp
 |succ n ba=>have:=yk y (a+n) (by omega);have:=yl y (a+n);rw[show a+((n+1:Nat):Int)=a+n+1 by omega];omega
def sy{a b:Int}(h:a<=b):dn a<=dn b:=by
 obtain⟨n,rfl⟩:∃n:Nat,b=a+n:=⟨(b-a).toNat,by omega⟩
 clear h;induction n with
 |zero=>simp
 |succ n ba=>have:=Cu (a+n);have:=Fe (a+n);rw[show a+((n+1:Nat):Int)=a+n+1 by omega];omega
structure qq(cy y m d:Int):Prop where
 YV:1970<=y
 aO:dn y<=cy
 ah:cy<dn (y+1)
 m0:1<=m
 m1:m<=12
 Fg:dn y+ef y m<=cy
 Fh:cy<dn y+ef y (m+1)
 Fi:d=cy-dn y-ef y m+1
def qq.d{cy y m d:Int}(h:qq cy y m d):1<=d/\d<=km y m:=by have:=yk y m h.m0;have:=h.Fg;have:=h.Fh;have:=h.Fi;omega
def qq.year{cy y m d:Int}(h:qq cy y m d){z:Int}(aa:dn z<=cy)(ab:cy<dn (z+1)):z=y:=by
 have c_:=h.aO;have a2:=h.ah;by_cases aZ:z=y
 ·exact aZ
 ·rcases Int.lt_or_lt_of_ne aZ with ar|ar
  ·have:=sy (a:=z+1) (b:=y) (by omega);omega
  ·have:=sy (a:=y+1) (b:=z) (by omega);omega
def qq.month{cy y m d:Int}(h:qq cy y m d){n:Int}(a1:1<=n)(aa:dn y+ef y n<=cy)(ab:cy<dn y+ef y (n+1)):n=m:=by
 have c_:=h.Fg;have a2:=h.Fh;have:=h.m0;by_cases aZ:n=m
 ·exact aZ
 ·rcases Int.lt_or_lt_of_ne aZ with ar|ar
  ·have:=sx y (a:=n+1) (b:=m) (by omega) (by omega);omega
  ·have:=sx y (a:=m+1) (b:=n) (by omega) (by omega);omega
def qq.unique{cy y m d z n e:Int}(h:qq cy y m d)(k:qq cy z n e):z=y/\n=m/\e=d:=by have aa:=h.year k.aO k.ah;subst aa;have ab:=h.month k.m0 k.Fg k.Fh;subst ab;exact⟨rfl,rfl,k.Fi.trans h.Fi.symm⟩
def rl:Nat->Int
 |0=>1970
 |n+1=>if ((n+1:Nat):Int)<dn (rl n+1)then rl n else rl n+1
def zjC(n:Nat):1970<=rl n/\dn (rl n)<=n/\(n:Int)<dn (rl n+1):=by
 induction n with
 |zero=>exact⟨by decide,by decide,by decide⟩
 |succ n ba=>
  obtain⟨a1,aa,ab⟩:=ba;unfold rl;split
  ·rename_i h;exact⟨a1,by omega,h⟩
  ·have:=Cu (rl n+1);have:=Fe (rl n+1);exact⟨by omega,by omega,by omega⟩
def zjD(y r:Int)(a1:0<=r)(aa:r<oC y):∃m,1<=m/\m<=12/\ef y m<=r/\r<ef y (m+1):=by
 have key:∀n:Nat,n<=11->(∃m,1<=m/\m<=12/\ef y m<=r/\r<ef y (m+1))\/ef y ((n:Int)+2)<=r:=by
  intro n;induction n with
  |zero=>
   intro _;by_cases h:r<ef y 2
   ·exact .inl ⟨1,by omega,by omega,by rw[yj];exact a1,h⟩
   ·exact .inr (by simpa using h)
  |succ n ba=>
   intro aX;rcases ba (by omega)with h|h
   ·exact .inl h
   ·by_cases bx:r<ef y ((n:Int)+2+1)
    ·exact .inl ⟨(n:Int)+2,by omega,by omega,h,bx⟩
    ·refine .inr ?_;rw[show ((n+1:Nat):Int)+2=(n:Int)+2+1 by omega];omega
 rcases key 11 (by omega)with h|h
 ·exact h
 ·have:=Mq y;have e:ef y (((11:Nat):Int)+2)=ef y 13:=rfl;omega
def g'(cy:Int):Int:=rl cy.toNat
def kQ(cy:Int):Int:=((((List.range 12).find? (fun (k:Nat)=>decide (cy<dn (g' cy)+ef (g' cy) ((k:Int)+2)))).getD 0:Nat):Int)+1
def na(cy:Int):Int:=cy-dn (g' cy)-ef (g' cy) (kQ cy)+1
def Cv(cy:Int)(h:0<=cy):qq cy (g' cy) (kQ cy) (na cy):=by
 have aU:=zjC cy.toNat;rw[show ((cy.toNat:Nat):Int)=cy by omega]at aU;obtain⟨a1,aa,ab⟩:=aU;have hs:=Cu (rl cy.toNat);obtain⟨m,m0,m1,m2,m3⟩:=zjD (rl cy.toNat) (cy-dn (rl cy.toNat)) (by omega) (by omega);have hm:kQ cy=m:=by
  have zjE:(List.range 12).find? (fun (k:Nat)=>decide (cy<dn (g' cy)+ef (g' cy) ((k:Int)+2)))=some (m-1).toNat:=by
   rw[RD];refine⟨?_,(m-1).toNat,by simp;omega,by simp,fun j ac=>?_⟩
   ·have aK:(((m-1).toNat:Nat):Int)+2=m+1:=by omega
    have:cy<dn (g' cy)+ef (g' cy) ((((m-1).toNat:Nat):Int)+2):=by rw[aK];simp only[g'];omega
    simpa using this
   ·have gm:(j:Int)+2<=m:=by omega
    have:=sx (rl cy.toNat) (a:=(j:Int)+2) (b:=m) (by omega) gm;simp only[List.getElem_range,g'];simp;omega
  unfold kQ;rw[zjE];simp only[oa];omega
 unfold na;rw[hm];exact⟨a1,aa,ab,m0,m1,by unfold g';omega,by unfold g';omega,rfl⟩
def qq.top{cy y m d:Int}(h:qq cy y m d)(aA:cy<=2932896):y<=9999:=by
 refine AX fun aX=>?_;have aa:=sy (a:=10000) (b:=y) (by omega);have ab:dn 10000=2932897:=by decide
 have:=h.aO;omega
def qq.back{y m d:Int}(a1:1970<=y)(m0:1<=m)(m1:m<=12)(d0:1<=d)(d1:d<=km y m):qq (dn y+ef y m+d-1) y m d:=by have hs:=yk y m m0;have aa:=sx y (a:=1) (b:=m) (by omega) m0;have ab:=sx y (a:=m+1) (b:=13) (by omega) (by omega);have aU:=Cu y;have IM:=Mq y;have Fd:=yj y;refine⟨a1,by omega,by omega,m0,m1,by omega,by omega,by omega⟩
def Zn:Go.Shelf.Ren:=⟨kn [(99,246),(105,243),(165,261),(166,262),(169,264),(170,263),(206,255),(212,260),(240,273),(241,274),(263,271),(264,272),(276,280),(277,281)],kn [(0,0),(3,3),(4,4),(5,5),(9,9),(20,20),(37,51),(46,209),(51,258),(53,228),(70,273),(72,275),(75,179),(76,180),(80,278),(109,271),(127,281),(146,259),(148,286),(164,294)],fun x=>x⟩
def zjJ:Go.Proofs.Lays.n105 prog Zn where
 mixed:=by kernel_rfl
 f99:=b1 func246
 f105:=b1 func243
 f165:=b1 func261
 f166:=b1 func262
 f169:=b1 func264
 f170:=b1 func263
 f206:=b1 func255
 f212:=b1 func260
 f240:=b1 func273
 f241:=b1 func274
 f263:=b1 func271
 f264:=b1 func272
 f276:=b1 func280
 f277:=b1 func281
 t0:=underlying0
 a0:=isAgg0
 z0:=sizeOf0
 v0:=zeroValue0
 t3:=underlying3
 a3:=isAgg3
 z3:=sizeOf3
 v3:=zeroValue3
 t4:=underlying4
 a4:=isAgg4
 z4:=sizeOf4
 v4:=zeroValue4
 t5:=underlying5
 a5:=isAgg5
 z5:=sizeOf5
 v5:=zeroValue5
 t9:=underlying9
 a9:=isAgg9
 z9:=sizeOf9
 v9:=zeroValue9
 t20:=underlying20
 a20:=isAgg20
 z20:=sizeOf20
 v20:=zeroValue20
 t37:=underlying51
 a37:=isAgg51
 z37:=sizeOf51
 v37:=zeroValue51
 t46:=underlying209
 a46:=isAgg209
 z46:=sizeOf209
 v46:=zeroValue209
 t51:=underlying258
 a51:=isAgg258
 z51:=sizeOf258
 v51:=zeroValue258
 t53:=underlying228
 a53:=isAgg228
 z53:=sizeOf228
 v53:=zeroValue228
 t70:=underlying273
 a70:=isAgg273
 z70:=sizeOf273
 v70:=zeroValue273
 t72:=underlying275
 a72:=isAgg275
 z72:=sizeOf275
 v72:=zeroValue275
 t75:=underlying179
 a75:=isAgg179
 z75:=sizeOf179
 v75:=zeroValue179
 t76:=underlying180
 a76:=isAgg180
 z76:=sizeOf180
 v76:=zeroValue180
 t109:=underlying271
 a109:=isAgg271
 z109:=sizeOf271
 v109:=zeroValue271
 t127:=underlying281
 a127:=isAgg281
 z127:=sizeOf281
 v127:=zeroValue281
 t146:=underlying259
 a146:=isAgg259
 z146:=sizeOf259
 v146:=zeroValue259
 t148:=underlying286
 a148:=isAgg286
 z148:=sizeOf286
 v148:=zeroValue286
 t164:=underlying294
 a164:=isAgg294
 z164:=sizeOf294
 v164:=zeroValue294
def zjK:Go.Proofs.Builder.Extra prog Zn where
 t5:=underlying5
 a5:=isAgg5
 z5:=sizeOf5
 v5:=zeroValue5
 infoByte:=by kernel_rfl
 cellsByte:=by kernel_rfl
 sizeByte:=by kernel_rfl
 neB5:=by decide
 sizeBuilder:=by kernel_rfl
 liesBuilder:=by kernel_rfl
section
variable [bn][cF prog]
def YY(b:UInt8):∀n:Nat,Lib.repeatL [b] n=List.replicate n b
 |0=>rfl
 |n+1=>by rw[Lib.repeatL,YY b n];rfl
def strings_Repeat(b:UInt8)(n:Nat)(h:n<=1000000):az prog 243 [.one (.str [b]),.one (.int .i64 n)] (.x (.one (.str (List.replicate n b)))):=by refine az.E_ [.string ⟨#[b]⟩,.int .i64 n] _ (rf f243 (by kernel_rfl) (by kernel_rfl) rfl) rfl (fun _ _=>Ri _ (by simp;unfold maxLen;omega)) (fun _ w=>?_);refine(Any.strings_Repeat zjJ zjK ⟨#[b]⟩ n w (by omega) (by show 1*n<=_;omega)).mono ?_;rintro e w' ⟨rfl,ad⟩;refine⟨?_,ad⟩;rw[show (⟨#[b]⟩:ByteArray).data.toList=[b]from rfl,YY]
def IN(n k:Nat)(aX:n<10^k)(ak:1<=k)(YZ:k<=18):az prog 182 [.one (.int .i64 n),.one (.int .i64 k)] (.x (.one (.str (eg k n)))):=by
 refine az.bd f182 mixed fun aD=>?_;obtain⟨aa,ab⟩:=zjL k n aX ak;have am:10^k<=10^18:=Cs (by omega) YZ;have zjM:ym (n:Int):=by unfold ym;omega
 rw[<-ab];simp;refine aH.of (strconv_Itoa _ zjM) ?_;obtain⟨s,es⟩:∃s,s=zY (n:Int):=⟨_,rfl⟩
 rw[show Lib.itoa (n:Int)=s from es.symm]at aa⊢;rw[<-es];have ds:i64.wrap ((k:Int)-s.length)=((k-s.length:Nat):Int):=by rw[bc _];omega
 have dV:max 0 ((k-s.length:Nat):Int)=((k-s.length:Nat):Int):=by omega
 simp[ds,dV];refine aH.of (strings_Repeat 48 _ (by omega)) ?_;have m1:k-s.length+s.length<=maxLen:=by unfold maxLen;omega
 simp[m1]
def Y0(y:Int):(y%4=0/\(y%100≠0\/y%400=0))↔rk y=true:=by unfold rk;simp
def pt{a:Int}(b:Int)(h:0<=a):a.tmod b=a%b:=Int.tmod_eq_emod_of_nonneg h
def sA{a:Int}(b:Int)(h:0<=a):a.tdiv b=a/b:=Int.tdiv_eq_ediv_of_nonneg h
def zjN(y m:Int)(aU:0<=y/\y<=100000):az prog 179 [.one (.int .i64 y),.one (.int .i64 m)] (.x (.one (.int .i64 (km y m)))):=by
 refine az.bd f179 mixed fun aD=>?_;have t1:y.tmod 4=y%4:=pt _ aU.1;have t2:y.tmod 100=y%100:=pt _ aU.1;have t3:y.tmod 400=y%400:=pt _ aU.1;have dV:=bc (y%100);have e:km y m=if m=4\/m=6\/m=9\/m=11 then 30 else if m=2 then (if rk y=true then 29 else 28)else 31:=rfl
 generalize km y m=r at e⊢;by_cases aN:m=4
 ·subst aN;rw[av (.inl rfl)]at e;subst e;simp
 by_cases cS:m=6
 ·subst cS;rw[av (.inr (.inl rfl))]at e;subst e;simp
 by_cases fA:m=9
 ·subst fA;rw[av (.inr (.inr (.inl rfl)))]at e;subst e;simp
 by_cases Fd:m=11
 ·subst Fd;rw[av (.inr (.inr (.inr rfl)))]at e;subst e;simp
 rw[an (by simp[aN,cS,fA,Fd])]at e;by_cases ab:m=2
 ·subst ab;rw[av rfl]at e;have al:=Y0 y;cases ad:rk y with
  |true=>
   obtain⟨eo,l2⟩:=al.2 ad;rw[av ad]at e;subst e;by_cases i6:y%100=0
   ·have jI:=l2.resolve_left (fun h=>h i6);simp[t1,t2,t3,eo,i6,jI]
   ·simp[t1,t2,t3,eo,i6]
  |false=>
   rw[an (by simp[ad])]at e;subst e;by_cases eo:y%4=0
   ·have i6:y%100=0:=AX fun h=>by rw[al.1 ⟨eo,.inl h⟩]at ad;cases ad
    have jI:¬y%400=0:=fun h=>by rw[al.1 ⟨eo,.inr h⟩]at ad;cases ad
    simp[t1,t2,t3,eo,i6,jI]
   ·simp[t1,t2,t3,eo]
 ·rw[an ab]at e;subst e;simp[aN,cS,fA,Fd,ab]
def Cw(y m:Int)(aU:1<=y/\y<=100000)(hm:1<=m/\m<=100):az prog 132 [.one (.int .i64 y),.one (.int .i64 m)] (.x (.one (.int .i64 (dn y+ef y m)))):=by
 refine az.bd f132 mixed fun aD=>?_;have t1:(y-1).tdiv 4=(y-1)/4:=sA _ (by omega);have t2:(y-1).tdiv 100=(y-1)/100:=sA _ (by omega);have t3:(y-1).tdiv 400=(y-1)/400:=sA _ (by omega);have w0:=bc (y-1);have ds:=bc (365*(y-1));have dV:=bc ((y-1)/4);have mn:=bc ((y-1)/100);have m7:=bc ((y-1)/400);have rg:=bc (365*(y-1)+(y-1)/4);have rn:=bc (365*(y-1)+(y-1)/4-(y-1)/100);have yn:=bc (365*(y-1)+(y-1)/4-(y-1)/100+(y-1)/400);have Fj:i64.wrap (365*(y-1)+(y-1)/4-(y-1)/100+(y-1)/400-719162)=dn y:=bc _;have zGs:-800000<=dn y/\dn y<=40000000:=by unfold dn;omega
 simp[t1,t2,t3,w0,ds,dV,mn,m7,rg,rn,yn,Fj];refine ck.of Nat (fun k=>[(0,.x (.one (.int .i64 y))),(1,.x (.one (.int .i64 m))),(6,.x (.one (.int .i64 (dn y+ef y (k+1))))),(7,.x (.one (.int .i64 ((k:Int)+1))))]) (fun k=>(k:Int)+1<=m) (fun k=>m.toNat-k) 0 (by omega) ?_ ?_
 ·simp[ef,IL]
 intro k ak;by_cases ar:(k:Int)+1<m
 ·have cu:=yk y (k+1) (by omega);have ad:=yl y (k+1);have IP:=sx y (a:=1) (b:=(k:Int)+1) (by omega) (by omega);have zGt:ef y ((k:Int)+1)<=31*k:=by
   clear ar cu ad IP ak;induction k with
   |zero=>simp[ef,IL]
   |succ k ba=>have:=yk y (k+1) (by omega);have:=yl y (k+1);rw[show ((k+1:Nat):Int)+1=(k:Int)+1+1 by omega];omega
  rw[yj]at IP;have IQ:i64.wrap (dn y+ef y ((k:Int)+1)+km y ((k:Int)+1))=dn y+ef y ((k:Int)+1+1):=by rw[bc _];omega
  have RE:=bc ((k:Int)+1+1);simp[ar];refine aH.of (zjN y (k+1) (by omega)) ?_;simp[IQ,RE];refine bt.of (k+1) (by omega) (by omega) ?_;simp
 ·have e:(k:Int)+1=m:=by omega
  simp[e]
def RF(t:Int):List ag:=[.int .i64 (g' (t/86400)),.int .i64 (kQ (t/86400)),.int .i64 (na (t/86400)),.int .i64 (t%86400/3600),.int .i64 (t%86400/60%60),.int .i64 (t%86400%60)]
structure zjO(t:Int):Prop where
 y:1970<=g' (t/86400)/\g' (t/86400)<=9999
 m:1<=kQ (t/86400)/\kQ (t/86400)<=12
 d:1<=na (t/86400)/\na (t/86400)<=31
def IS{t:Int}(h:fM t=true):0<=t/\t<=253402300799:=by simpa[fM,dh]using h
def Ms{t:Int}(h:fM t=true):zjO t:=by have ad:=IS h;have ap:=Cv (t/86400) (by omega);have:=ap.d;have:=yl (g' (t/86400)) (kQ (t/86400));exact⟨⟨ap.YV,ap.top (by omega)⟩,⟨ap.m0,ap.m1⟩,by omega⟩
def zjP(n:Nat):dn (1970+n)<=366*n:=by
 induction n with
 |zero=>decide
 |succ n ba=>have:=Cu (1970+n);have:=Fe (1970+n);rw[show (1970:Int)+((n+1:Nat):Int)=1970+n+1 by omega];omega
def zjQ{d:Int}(h:0<=d):1970+d/366<=g' d:=by have ap:=Cv d h;have aa:=zjP (d/366).toNat;rw[show (((d/366).toNat:Nat):Int)=d/366 by omega]at aa;refine AX fun aX=>?_;have:=sy (a:=g' d+1) (b:=1970+d/366) (by omega);have:=ap.ah;omega
def zjR(t:Int)(h:fM t=true):az prog 180 [.one (.int .i64 t)] (.x (.agg (RF t))):=by
 refine az.bd f180 mixed fun aD=>?_;have ad:=IS h;have aD:=Ms h;have ap:=Cv (t/86400) (by omega);have Mt:=zjQ (d:=t/86400) (by omega);unfold RF;obtain⟨cy,vl⟩:∃cy,cy=t/86400:=⟨_,rfl⟩
 obtain⟨rest,wY⟩:∃rest,rest=t%86400:=⟨_,rfl⟩
 obtain⟨Y,j4⟩:∃Y,Y=g' (t/86400):=⟨_,rfl⟩
 obtain⟨M,j5⟩:∃M,M=kQ (t/86400):=⟨_,rfl⟩
 obtain⟨D,j6⟩:∃D,D=na (t/86400):=⟨_,rfl⟩
 obtain⟨⟨wn,r_⟩,⟨m1,m2⟩,⟨d1,d2⟩⟩:=aD;rw[<-vl]at Mt ap j4 j5 j6 wn r_ m1 m2 d1 d2;rw[<-j4]at Mt ap wn r_;rw[<-j5]at ap m1 m2;rw[<-j6]at ap d1 d2;rw[<-vl,<-j4,<-j5,<-j6,<-wY];clear j4 j5 j6;have t1:t.tdiv 86400=cy:=by rw[sA _ ad.1,vl]
 have t2:t.tmod 86400=rest:=by rw[pt _ ad.1,wY]
 have kL:0<=rest/\rest<86400:=by omega
 have d0:0<=cy/\cy<=2932896:=by omega
 have t3:cy.tdiv 366=cy/366:=sA _ d0.1;have t4:rest.tdiv 3600=rest/3600:=sA _ kL.1;have t5:rest.tdiv 60=rest/60:=sA _ kL.1;have t6:(rest/60).tmod 60=rest/60%60:=pt _ (by omega);have t7:rest.tmod 60=rest%60:=pt _ kL.1;have ds:=bc cy;have mn:=bc (cy/366);have m7:=bc (1970+cy/366);have rg:=bc (rest/3600);have rn:=bc (rest/60);have yn:=bc (rest/60%60);simp[t1,t2,t3,t4,t5,t6,t7,ds,mn,m7,rg,rn];refine ck.of Int (fun y=>[(2,.box [.int .i64 0,.int .i64 0,.int .i64 0,.int .i64 0,.int .i64 0,.int .i64 0]),(3,.x (.one (.int .i64 cy))),(5,.box [.int .i64 y,.int .i64 1,.int .i64 0,.int .i64 (rest/3600),.int .i64 (rest/60%60),.int .i64 (rest%60)])]) (fun y=>1970<=y/\y<=Y) (fun y=>(Y-y).toNat) (1970+cy/366) ⟨by omega,Mt⟩ ?_ ?_
 ·simp
 rintro y ⟨g1,g2⟩;have v1:=bc (y+1);have Kd:dn (y+1)+ef (y+1) 1=dn (y+1):=by rw[yj,Int.add_zero]
 simp[v1];refine aH.of (Cw (y+1) 1 (by omega) (by omega)) ?_;rw[Kd];by_cases ar:y<Y
 ·have:=sy (a:=y+1) (b:=Y) (by omega);have:=ap.aO;have cG:dn (y+1)<=cy:=by omega
  simp[cG,v1];refine bt.of (y+1) ⟨by omega,by omega⟩ (by omega) ?_;simp
 have RG:y=Y:=by omega
 subst RG;have cG:¬dn (y+1)<=cy:=by have:=ap.ah;omega
 simp[cG];clear ar cG Kd g1 g2 Mt;refine ck.of Int (fun m=>[(2,.box [.int .i64 0,.int .i64 0,.int .i64 0,.int .i64 0,.int .i64 0,.int .i64 0]),(3,.x (.one (.int .i64 cy))),(5,.box [.int .i64 y,.int .i64 m,.int .i64 0,.int .i64 (rest/3600),.int .i64 (rest/60%60),.int .i64 (rest%60)])]) (fun m=>1<=m/\m<=M) (fun m=>(M-m).toNat) 1 ⟨by omega,m1⟩ ?_ ?_
 ·simp
 rintro m ⟨g1,g2⟩;have v2:=bc (m+1);by_cases ar:m<M
 ·have Ff:m<12:=by omega
  have:=sx y (a:=m+1) (b:=M) (by omega) (by omega);have:=ap.Fg;have cG:dn y+ef y (m+1)<=cy:=by omega
  simp[Ff,v2];refine b_.of (fun _=>Cw y (m+1) (by omega) (by omega)) rfl ?_;simp[cG,v2];refine bt.of (m+1) ⟨by omega,by omega⟩ (by omega) ?_;simp
 have RH:m=M:=by omega
 subst RH;have mN:∀x,x=dn y+ef y m->i64.wrap (i64.wrap (cy-x)+1)=D:=by rintro x rfl;have:=ap.Fi;have:=ap.Fg;have:=ap.Fh;have:=yk y m m1;have:=yl y m;rw[lR (cy-_) (by omega),bc _];omega
 have cG:¬dn y+ef y (m+1)<=cy:=by have:=ap.Fh;omega
 by_cases Ff:m<12
 ·simp[Ff,v2];refine b_.of (fun _=>Cw y (m+1) (by omega) (by omega)) rfl ?_;simp[cG];refine aH.of (Cw y m (by omega) (by omega)) ?_;simp[mN _ rfl]
 ·simp[Ff,v2];refine b_.of (fun _=>Cw y (m+1) (by omega) (by omega)) rfl ?_;simp[cG];refine aH.of (Cw y m (by omega) (by omega)) ?_;simp[mN _ rfl]
def Y1(y:Int)(aU:0<=y/\y<=100000):az prog 150 [.one (.int .i64 y)] (.x (.one (.bool (rk y)))):=by
 refine az.bd f150 mixed fun aD=>?_;have t1:y.tmod 4=y%4:=pt _ aU.1;have t2:y.tmod 100=y%100:=pt _ aU.1;have t3:y.tmod 400=y%400:=pt _ aU.1;have dV:=bc (y%100);have al:=Y0 y;cases ad:rk y with
 |true=>
  obtain⟨eo,l2⟩:=al.2 ad;by_cases i6:y%100=0
  ·have jI:=l2.resolve_left (fun h=>h i6);simp[t1,t2,t3,eo,i6,jI]
  ·simp[t1,t2,t3,eo,i6]
 |false=>
  by_cases eo:y%4=0
  ·have i6:y%100=0:=AX fun h=>by rw[al.1 ⟨eo,.inl h⟩]at ad;cases ad
   have jI:¬y%400=0:=fun h=>by rw[al.1 ⟨eo,.inr h⟩]at ad;cases ad
   simp[t1,t2,t3,eo,i6,jI]
  ·have jI:¬y%400=0:=fun h=>eo (by omega);simp[t1,t2,t3,eo,jI]
def RI(y:Int)(aU:0<=y/\y<=100000):az prog 101 [.one (.int .i64 y)] (.x (.one (.int .i64 (oC y)))):=by
 refine az.bd f101 mixed fun aD=>?_;have e:oC y=if rk y=true then 366 else 365:=rfl
 generalize oC y=r at e⊢;simp;refine aH.of (Y1 y aU) ?_;cases ad:rk y with
 |true=>rw[ad,av rfl]at e;subst e;simp
 |false=>rw[ad,an (by decide)]at e;subst e;simp
def Mu(y m:Int)(aU:0<=y/\y<=100000)(hm:1<=m/\m<=12):az prog 100 [.one (.int .i64 y),.one (.int .i64 m)] (.x (.one (.int .i64 (km y m)))):=by
 refine az.bd f100 mixed fun aD=>?_;have e:km y m=if m=4\/m=6\/m=9\/m=11 then 30 else if m=2 then (if rk y=true then 29 else 28)else 31:=rfl
 generalize km y m=r at e⊢;by_cases ab:m=2
 ·subst ab;rw[an (by decide),av rfl]at e;simp;refine b_.of (fun _=>Y1 y aU) rfl ?_;have w:i64.wrap 1=1:=by decide
  cases ad:rk y with
  |true=>rw[ad,av rfl]at e;subst e;simp
  |false=>rw[ad,an (by decide)]at e;subst e;simp[w]
 ·have kg:m=1\/m=3\/m=4\/m=5\/m=6\/m=7\/m=8\/m=9\/m=10\/m=11\/m=12:=by omega
  have ws:∀k:Int,0<=k/\k<=11->i64.wrap k=k:=fun k h=>bc _;have w0:=ws 0 (by omega);have dV:=ws 2 (by omega);have mn:=ws 3 (by omega);have m7:=ws 4 (by omega);have rg:=ws 5 (by omega);have rn:=ws 6 (by omega);have yn:=ws 7 (by omega);have Fj:=ws 8 (by omega);have IQ:=ws 9 (by omega);have RE:=ws 10 (by omega);have zjS:=ws 11 (by omega);rcases kg with rfl|rfl|rfl|rfl|rfl|rfl|rfl|rfl|rfl|rfl|rfl
  all_goals
   simp only[Int.reduceEq,lS,or_true,or_self,gW,hy]at e;subst e;simp;refine e7 false ?_;simp[w0,dV,mn,m7,rg,rn,yn,Fj,IQ,RE,zjS]
def Fk(n:Nat)(h:n<=100000):az prog 151 [.one (.int .i64 n)] (.x (.one (.str (eg 2 n)))):=by
 refine az.bd f151 mixed fun aD=>?_;have e:eg 2 n=[UInt8.ofNat (48+n/10%10),UInt8.ofNat (48+n%10)]:=zjT n;generalize eg 2 n=r at e⊢;have t1:(n:Int).tdiv 10=((n/10:Nat):Int):=by rw[sA _ (by omega)];omega
 have t2:((n/10:Nat):Int).tmod 10=((n/10%10:Nat):Int):=by rw[pt _ (by omega)];omega
 have t3:(n:Int).tmod 10=((n%10:Nat):Int):=by rw[pt _ (by omega)];omega
 obtain⟨a,ik⟩:∃a,n/10%10=a:=⟨_,rfl⟩
 obtain⟨b,tV⟩:∃b,n%10=b:=⟨_,rfl⟩
 obtain⟨c,RJ⟩:∃c,n/10=c:=⟨_,rfl⟩
 rw[ik,tV]at e;rw[RJ]at t1 t2;rw[RJ]at ik;rw[ik]at t2;rw[tV]at t3;have w0:i64.wrap (c:Int)=c:=bc _;have dV:i64.wrap (48+(a:Int))=48+a:=bc _;have m7:i64.wrap (48+(b:Int))=48+b:=bc _;have DS:u8.wrap (48+(a:Int))=((48+a:Nat):Int):=by
  have:∀x:Fin 10,u8.wrap (48+((x.val:Nat):Int))=((48+x.val:Nat):Int):=by decide
  exact this ⟨a,by omega⟩
 have Kv:u8.wrap (48+(b:Int))=((48+b:Nat):Int):=by
  have:∀x:Fin 10,u8.wrap (48+((x.val:Nat):Int))=((48+x.val:Nat):Int):=by decide
  exact this ⟨b,by omega⟩
 have v1:((48:Int)+(a:Int)).toNat=48+a:=by omega
 have v2:((48:Int)+(b:Int)).toNat=48+b:=by omega
 subst e;clear ik tV RJ h;simp[t1,t2,t3,w0,dV,m7,DS,Kv];rw[v1,v2];simp
def zjU:aq:=[74,97,110,70,101,98,77,97,114,65,112,114,77,97,121,74,117,110,74,117,108,65,117,103,83,101,112,79,99,116,78,111,118,68,101,99]
def Mv:aq:=[83,117,110,77,111,110,84,117,101,87,101,100,84,104,117,70,114,105,83,97,116]
def jJ(m:Nat):aq:=(zjU.drop (3*m-3)).take 3
def rj(w:Nat):aq:=(Mv.drop (3*w)).take 3
def hl(t:Int):aq:=
 rj ((t/86400+4)%7).toNat++[44,32]++eg 2 (na (t/86400)).toNat++[32]++jJ (kQ (t/86400)).toNat++[32]++eg 4 (g' (t/86400)).toNat++[32]++eg 2 (t%86400/3600).toNat++[58]++eg 2 (t%86400/60%60).toNat++[58]++eg 2 (t%86400%60).toNat++[32,71,77,84]
def RL(m:Nat)(h:1<=m/\m<=12):az prog 98 [.one (.int .i64 m)] (.x (.one (.str (jJ m)))):=by
 refine az.bd f98 mixed fun aD=>?_;have tW:i64.wrap 0=0:=by decide
 have d_:i64.wrap 3=3:=by decide
 have ey:i64.wrap 6=6:=by decide
 have gi:i64.wrap 9=9:=by decide
 have zjV:i64.wrap 12=12:=by decide
 have zjW:i64.wrap 15=15:=by decide
 have zjX:i64.wrap 18=18:=by decide
 have zjY:i64.wrap 21=21:=by decide
 have zjZ:i64.wrap 24=24:=by decide
 have zka:i64.wrap 27=27:=by decide
 have zkb:i64.wrap 30=30:=by decide
 have zkc:i64.wrap 33=33:=by decide
 have zkd:i64.wrap 36=36:=by decide
 have ap:m=1\/m=2\/m=3\/m=4\/m=5\/m=6\/m=7\/m=8\/m=9\/m=10\/m=11\/m=12:=by omega
 clear h;rcases ap with rfl|rfl|rfl|rfl|rfl|rfl|rfl|rfl|rfl|rfl|rfl|rfl
 all_goals
  simp[tW,d_,ey,gi,zjV,zjW,zjX,zjY,zjZ,zka,zkb,zkc,zkd,b4]
  try rfl
def Y2(w:Nat)(h:w<7):(rj w).length=3:=by
 have:∀w:Fin 7,(rj w.val).length=3:=by decide
 exact this ⟨w,h⟩
def RM(m:Nat)(h:1<=m/\m<=12):(jJ m).length=3:=by
 have:∀w:Fin 12,(jJ (w.val+1)).length=3:=by decide
 have:=this ⟨m-1,by omega⟩;simp only[show m-1+1=m by omega]at this;exact this
def Y3(t:Int)(h:fM t=true):az prog 102 [.one (.int .i64 t)] (.x (.one (.str (hl t)))):=by
 refine az.bd f102 mixed fun aD=>?_;have ad:=IS h;have aD:=Ms h;have ap:=Cv (t/86400) (by omega);unfold hl;obtain⟨cy,vl⟩:∃cy,cy=t/86400:=⟨_,rfl⟩
 obtain⟨rest,wY⟩:∃rest,rest=t%86400:=⟨_,rfl⟩
 obtain⟨Y,j4⟩:∃Y,Y=g' (t/86400):=⟨_,rfl⟩
 obtain⟨M,j5⟩:∃M,M=kQ (t/86400):=⟨_,rfl⟩
 obtain⟨D,j6⟩:∃D,D=na (t/86400):=⟨_,rfl⟩
 obtain⟨⟨wn,r_⟩,⟨m1,m2⟩,⟨d1,d2⟩⟩:=aD;rw[<-vl]at ap j4 j5 j6 wn r_ m1 m2 d1 d2;rw[<-j4]at ap wn r_;rw[<-j5]at ap m1 m2;rw[<-j6]at ap d1 d2;rw[<-vl,<-j4,<-j5,<-j6,<-wY];clear j4 j5 j6;have t1:t.tdiv 86400=cy:=by rw[sA _ ad.1,vl]
 have t2:t.tmod 86400=rest:=by rw[pt _ ad.1,wY]
 have kL:0<=rest/\rest<86400:=by omega
 have d0:0<=cy/\cy<=2932896:=by omega
 clear vl wY;have t3:(cy+4).tmod 7=(cy+4)%7:=pt _ (by omega);have ds:=bc cy;have dV:=bc rest;have mn:=bc (cy+4);have m7:=bc ((cy+4)%7);obtain⟨W,IR⟩:∃W:Nat,(cy+4)%7=W:=⟨((cy+4)%7).toNat,by omega⟩
 have g9:W<7:=by omega
 rw[IR];simp[t1,t2,t3,ds,mn,IR];have zke:dn 1970=0:=by decide
 refine ck.of Int (fun y=>[(3,.x (.one (.int .i64 (cy-dn y)))),(4,.x (.one (.int .i64 rest))),(5,.x (.one (.int .i64 (W:Nat)))),(6,.x (.one (.int .i64 y))),(7,.x (.one (.int .i64 1)))]) (fun y=>1970<=y/\y<=Y) (fun y=>(Y-y).toNat) 1970 ⟨by omega,wn⟩ ?_ ?_
 ·simp[zke]
 rintro y ⟨g1,g2⟩;have v1:=bc (y+1);have cu:=Cu y;have uS:=Fe y;have qQ:0<=dn y:=by have:=sy (a:=1970) (b:=y) g1;omega
 simp;refine aH.of (RI y (by omega)) ?_;by_cases ar:y<Y
 ·have:=sy (a:=y+1) (b:=Y) (by omega);have:=ap.aO;have cG:oC y<=cy-dn y:=by omega
  have v2:i64.wrap (cy-dn y-oC y)=cy-dn (y+1):=by rw[bc _];omega
  simp[cG];refine aH.of (RI y (by omega)) ?_;simp[v1,v2];refine bt.of (y+1) ⟨by omega,by omega⟩ (by omega) ?_;simp
 have RG:y=Y:=by omega
 subst RG;have cG:¬oC y<=cy-dn y:=by have:=ap.ah;omega
 simp[cG];clear ar cG g1 g2;have zkf:ef y 1=0:=yj y;refine ck.of Int (fun m=>[(3,.x (.one (.int .i64 (cy-dn y-ef y m)))),(4,.x (.one (.int .i64 rest))),(5,.x (.one (.int .i64 (W:Nat)))),(6,.x (.one (.int .i64 y))),(7,.x (.one (.int .i64 m)))]) (fun m=>1<=m/\m<=M) (fun m=>(M-m).toNat) 1 ⟨by omega,m1⟩ ?_ ?_
 ·simp[zkf]
 rintro m ⟨g1,g2⟩;have v2:=bc (m+1);have zkg:=yk y m g1;have nx:=yl y m;have zkh:0<=ef y m:=by have:=sx y (a:=1) (b:=m) (by omega) g1;omega
 simp;refine aH.of (Mu y m (by omega) (by omega)) ?_;by_cases ar:m<M
 ·have:=sx y (a:=m+1) (b:=M) (by omega) (by omega);have:=ap.Fg;have cG:km y m<=cy-dn y-ef y m:=by omega
  have v3:i64.wrap (cy-dn y-ef y m-km y m)=cy-dn y-ef y (m+1):=by rw[bc _];omega
  simp[cG];refine aH.of (Mu y m (by omega) (by omega)) ?_;simp[v2,v3];refine bt.of (m+1) ⟨by omega,by omega⟩ (by omega) ?_;simp
 have RH:m=M:=by omega
 subst RH;have cG:¬km y m<=cy-dn y-ef y m:=by have:=ap.Fh;omega
 obtain⟨zZ,zki⟩:∃zZ:Nat,y=zZ:=⟨y.toNat,by omega⟩
 obtain⟨Fl,zkj⟩:∃Fl:Nat,m=Fl:=⟨m.toNat,by omega⟩
 obtain⟨IT,zkk⟩:∃IT:Nat,D=IT:=⟨D.toNat,by omega⟩
 have hX:i64.wrap (cy-dn y-ef y m+1)=(IT:Int):=by have:=ap.Fi;rw[bc _];omega
 obtain⟨H,pu⟩:∃H:Nat,rest/3600=H:=⟨(rest/3600).toNat,by omega⟩
 obtain⟨I,sB⟩:∃I:Nat,rest/60%60=I:=⟨(rest/60%60).toNat,by omega⟩
 obtain⟨S,oD⟩:∃S:Nat,rest%60=S:=⟨(rest%60).toNat,by omega⟩
 obtain⟨Q,Cx⟩:∃Q:Nat,rest/60=Q:=⟨(rest/60).toNat,by omega⟩
 have t4:rest.tdiv 3600=(H:Int):=by rw[sA _ kL.1,pu]
 have t5:rest.tdiv 60=(Q:Int):=by rw[sA _ kL.1,Cx]
 have t6:(Q:Int).tmod 60=(I:Int):=by rw[pt _ (by omega),<-Cx,sB]
 have t7:rest.tmod 60=(S:Int):=by rw[pt _ kL.1,oD]
 have rg:i64.wrap (H:Int)=H:=bc _;have rn:i64.wrap (Q:Int)=Q:=bc _;have yn:i64.wrap (I:Int)=I:=bc _;have Fj:i64.wrap (S:Int)=S:=bc _;obtain⟨z1,hZ⟩:∃z1:Nat,zZ/100=z1:=⟨_,rfl⟩
 have t8:(zZ:Int).tdiv 100=(z1:Int):=by rw[sA _ (by omega)];omega
 have IQ:i64.wrap (z1:Int)=z1:=bc _;have Y4:eg 4 zZ=eg 2 z1++eg 2 zZ:=by rw[zkl,hZ]
 have zkm:(Mv.drop (3*W)).take 3=rj W:=rfl;have lw:=Y2 W g9;have lm:=RM Fl (by omega);have zGu:zZ<=9999:=by omega
 have RK:1<=Fl/\Fl<=12:=by omega
 have zGv:IT<=31:=by omega
 have tU:H<=24:=by omega
 have lc:I<=60:=by omega
 have bS:S<=60:=by omega
 have en:z1<=100:=by omega
 have fa:i64.wrap (3*(W:Int))=3*W:=bc _;have eV:i64.wrap (3*(W:Int)+3)=3*W+3:=bc _;have q9:b4 Mv (3*(W:Int)) (3*(W:Int)+3)=rj W:=by unfold b4 rj;rw[show (3*(W:Int)).toNat=3*W by omega,show (3*(W:Int)+3).toNat=3*W+3 by omega,GO,Nat.add_sub_cancel_left]
 have RN:(3*(W:Int)+3<=21)=True:=aY;have zkn:(0<=3*(W:Int))=True:=aY;have zko:(3*(W:Int)<=3*(W:Int)+3)=True:=aY;subst zki;subst zkj;subst zkk;rw[pu,sB,oD];simp only[kO];rw[Y4];clear ap ad wn r_ m1 m2 d1 d2 t1 t2 t3 cu uS qQ zkg nx zkh g1 g2 ar v1 v2 pu sB oD Cx hZ Y4 zkm IR;unfold Mv at q9;simp[cG,fa,eV,q9,RN,zkn,zko,lw];rw[hX];refine aH.of (Fk IT (by omega)) ?_;simp[lw];refine aH.of (RL Fl RK) ?_;simp[lw,lm,t8,IQ];refine aH.of (Fk z1 (by omega)) ?_;simp[lw,lm];refine aH.of (Fk zZ (by omega)) ?_;simp[lw,lm,t4,rg];refine aH.of (Fk H (by omega)) ?_;simp[lw,lm,t5,rn,t6];refine aH.of (Fk I (by omega)) ?_;simp[lw,lm,t7];refine aH.of (Fk S (by omega)) ?_;simp[lw,lm]
def zkp{a b:Nat}(bj:1<=a/\a<=12)(ad:1<=b/\b<=12)(h:jJ a=jJ b):a=b:=by
 have:∀x y:Fin 12,jJ (x.val+1)=jJ (y.val+1)->x=y:=by decide
 have:=this ⟨a-1,by omega⟩ ⟨b-1,by omega⟩ (by simp only[show a-1+1=a by omega,show b-1+1=b by omega];exact h);have:=pR Fin.val this;simp only at this;omega
def Y5(t:Int)(h:fM t=true):(hl t).length=29/\b4 (hl t) 8 11=jJ (kQ (t/86400)).toNat/\b4 (hl t) 12 16=eg 4 (g' (t/86400)).toNat/\b4 (hl t) 5 7=eg 2 (na (t/86400)).toNat /\
  b4 (hl t) 17 19=eg 2 (t%86400/3600).toNat/\b4 (hl t) 20 22=eg 2 (t%86400/60%60).toNat/\b4 (hl t) 23 25=eg 2 (t%86400%60).toNat:=by
 obtain⟨_,hm,_⟩:=Ms h;have lw:=Y2 ((t/86400+4)%7).toNat (by omega);have lm:=RM (kQ (t/86400)).toNat (by omega);unfold hl;generalize rj ((t/86400+4)%7).toNat=W at lw⊢;generalize jJ (kQ (t/86400)).toNat=M at lm⊢;have eo:=Cy 2 (na (t/86400)).toNat;have l2:=Cy 4 (g' (t/86400)).toNat;have i6:=Cy 2 (t%86400/3600).toNat;have jI:=Cy 2 (t%86400/60%60).toNat;have sw:=Cy 2 (t%86400%60).toNat;generalize eg 2 (na (t/86400)).toNat=D at eo⊢;generalize eg 4 (g' (t/86400)).toNat=Y at l2⊢;generalize eg 2 (t%86400/3600).toNat=H at i6⊢;generalize eg 2 (t%86400/60%60).toNat=I at jI⊢;generalize eg 2 (t%86400%60).toNat=S at sw⊢
 match W,lw,D,eo,M,lm,Y,l2,H,i6,I,jI,S,sw with
 |[ds,dV,mn],_,[d1,d2],_,[m1,m2,m3],_,[wn,r_,zGw,zGx],_,[aa,ab],_,[i1,i2],_,[s1,s2],_=>exact⟨rfl,rfl,rfl,rfl,rfl,rfl,rfl⟩
end
def ed(c:UInt8)(s:aq):aq:=s.takeWhile (· != c)
def hq(c:UInt8)(s:aq):aq:=s.drop ((ed c s).length+1)
def Ns(c:UInt8)(r:aq):ed c (c::r)=[]:=by simp[ed]
def Jv{b c:UInt8}(h:b≠c)(r:aq):ed c (b::r)=b::ed c r:=by simp[ed,h]
def zoW(c:UInt8)(r:aq):hq c (c::r)=r:=by simp[hq,Ns]
def zoX{b c:UInt8}(h:b≠c)(r:aq):hq c (b::r)=hq c r:=by simp[hq,Jv h]
def zos{c:UInt8}{s:aq}(h:c∉s):ed c s=s:=by
 induction s with
 |nil=>rfl
 |cons b r ba=>simp only[fp,not_or]at h;rw[Jv (fun e=>h.1 e.symm),ba h.2]
def Ni{c:UInt8}{s:aq}(h:c∈s):s=ed c s++c::hq c s:=by
 induction s with
 |nil=>cases h
 |cons b r ba=>
  by_cases e:b=c
  ·subst e;rw[Ns,zoW];rfl
  ·rw[Jv e,zoX e];have:=ba ((fp.1 h).resolve_left (fun x=>e x.symm));rw[List.cons_append,<-this]
def zbq{c:UInt8}{a r:aq}(h:c∉a):ed c (a++c::r)=a:=by
 induction a with
 |nil=>exact Ns c r
 |cons b t ba=>simp only[fp,not_or]at h;rw[List.cons_append,Jv (fun e=>h.1 e.symm),ba h.2]
def zoY{c:UInt8}{a r:aq}(h:c∉a):hq c (a++c::r)=r:=by unfold hq;rw[zbq h];simp
def Tp{c:UInt8}{s:aq}(h:c∈s):(hq c s).length<s.length:=by have:=pR List.length (Ni h);simp at this;omega
def index_one(c:UInt8):∀s:aq,Lib.index s [c]=if c∈s then ((ed c s).length:Int)else -1
 |[]=>by simp[Lib.index]
 |b::r=>by
  have ba:=index_one c r;unfold Lib.index;by_cases h:b=c
  ·subst h;simp[List.isPrefixOf,Ns]
  ·have am:([c].isPrefixOf (b::r))=false:=by simp[List.isPrefixOf];exact fun e=>h e.symm
   rw[am,ba,Jv h];by_cases hm:c∈r
   ·have bY:¬(((ed c r).length:Int)=-1):=by omega
    simp[hm,bY]
   ·have:c∉b::r:=by simp[hm];exact fun e=>h e.symm
    simp[hm,this]
def zld:Go.Shelf.Ren:=⟨kn [(138,251),(143,252),(195,266),(197,157),(217,176),(218,267),(219,253),(221,203),(224,201),(225,210),(260,211),(266,237),(267,268),(268,250),(314,279)],kn [(0,0),(3,3),(4,4),(5,5),(9,9),(21,21),(31,46),(46,209),(51,258),(105,200),(119,262),(138,264),(139,265),(146,259)],kn [(1,0),(3,1),(4,2)]⟩
def MG:Go.Proofs.Lays.n221 prog zld where
 mixed:=by kernel_rfl
 f138:=b1 func251
 f143:=b1 func252
 f195:=b1 func266
 f197:=b1 func157
 f217:=b1 func176
 f218:=b1 func267
 f219:=b1 func253
 f221:=b1 func203
 f224:=b1 func201
 f225:=b1 func210
 f260:=b1 func211
 f266:=b1 func237
 f267:=b1 func268
 f268:=b1 func250
 f314:=b1 func279
 t0:=underlying0
 a0:=isAgg0
 z0:=sizeOf0
 v0:=zeroValue0
 t3:=underlying3
 a3:=isAgg3
 z3:=sizeOf3
 v3:=zeroValue3
 t4:=underlying4
 a4:=isAgg4
 z4:=sizeOf4
 v4:=zeroValue4
 t5:=underlying5
 a5:=isAgg5
 z5:=sizeOf5
 v5:=zeroValue5
 t9:=underlying9
 a9:=isAgg9
 z9:=sizeOf9
 v9:=zeroValue9
 t21:=underlying21
 a21:=isAgg21
 z21:=sizeOf21
 v21:=zeroValue21
 t31:=underlying46
 a31:=isAgg46
 z31:=sizeOf46
 v31:=zeroValue46
 t46:=underlying209
 a46:=isAgg209
 z46:=sizeOf209
 v46:=zeroValue209
 t51:=underlying258
 a51:=isAgg258
 z51:=sizeOf258
 v51:=zeroValue258
 t105:=underlying200
 a105:=isAgg200
 z105:=sizeOf200
 v105:=zeroValue200
 t119:=underlying262
 a119:=isAgg262
 z119:=sizeOf262
 t138:=underlying264
 a138:=isAgg264
 z138:=sizeOf264
 v138:=zeroValue264
 t139:=underlying265
 a139:=isAgg265
 z139:=sizeOf265
 v139:=zeroValue265
 t146:=underlying259
 a146:=isAgg259
 z146:=sizeOf259
 v146:=zeroValue259
 g1:=by kernel_rfl
 g3:=by kernel_rfl
 g4:=by kernel_rfl
def zle:Go.Shelf.Ren:=⟨kn [(129,283),(171,197),(172,131),(205,259),(243,247),(244,177),(245,178),(246,265),(247,238),(279,239),(280,240),(281,241),(282,242),(283,275),(284,276),(285,277),(286,278),(287,257),(316,258),(317,282),(318,284),(319,285),(320,286),(321,269),(322,270),(337,287),(338,288)],kn [(0,0),(2,2),(3,3),(4,4),(5,5),(9,9),(20,20),(21,21),(37,51),(46,209),(51,258),(53,228),(75,179),(76,180),(80,278),(85,252),(127,281),(143,282),(145,284),(167,251),(168,254),(171,288),(173,291),(175,266),(210,269),(212,298),(213,299),(232,302),(233,303)],kn [(15,3),(16,4),(17,5),(18,6),(19,7)]⟩
def zlf:Go.Proofs.Lays.n172 prog zle where
 mixed:=by kernel_rfl
 f129:=b1 func283
 f171:=b1 func197
 f172:=b1 func131
 f205:=b1 func259
 f243:=b1 func247
 f244:=b1 func177
 f245:=b1 func178
 f246:=b1 func265
 f247:=b1 func238
 f279:=b1 func239
 f280:=b1 func240
 f281:=b1 func241
 f282:=b1 func242
 f283:=b1 func275
 f284:=b1 func276
 f285:=b1 func277
 f286:=b1 func278
 f287:=b1 func257
 f316:=b1 func258
 f317:=b1 func282
 f318:=b1 func284
 f319:=b1 func285
 f320:=b1 func286
 f321:=b1 func269
 f322:=b1 func270
 f337:=b1 func287
 f338:=b1 func288
 t0:=underlying0
 a0:=isAgg0
 z0:=sizeOf0
 v0:=zeroValue0
 t2:=underlying2
 a2:=isAgg2
 z2:=sizeOf2
 v2:=zeroValue2
 t3:=underlying3
 a3:=isAgg3
 z3:=sizeOf3
 v3:=zeroValue3
 t4:=underlying4
 a4:=isAgg4
 z4:=sizeOf4
 v4:=zeroValue4
 t5:=underlying5
 a5:=isAgg5
 z5:=sizeOf5
 v5:=zeroValue5
 t9:=underlying9
 a9:=isAgg9
 z9:=sizeOf9
 v9:=zeroValue9
 t20:=underlying20
 a20:=isAgg20
 z20:=sizeOf20
 v20:=zeroValue20
 t21:=underlying21
 a21:=isAgg21
 z21:=sizeOf21
 v21:=zeroValue21
 t37:=underlying51
 a37:=isAgg51
 z37:=sizeOf51
 v37:=zeroValue51
 t46:=underlying209
 a46:=isAgg209
 z46:=sizeOf209
 v46:=zeroValue209
 t51:=underlying258
 a51:=isAgg258
 z51:=sizeOf258
 v51:=zeroValue258
 t53:=underlying228
 a53:=isAgg228
 z53:=sizeOf228
 v53:=zeroValue228
 t75:=underlying179
 a75:=isAgg179
 z75:=sizeOf179
 v75:=zeroValue179
 t76:=underlying180
 a76:=isAgg180
 z76:=sizeOf180
 v76:=zeroValue180
 t85:=underlying252
 a85:=isAgg252
 z85:=sizeOf252
 v85:=zeroValue252
 t127:=underlying281
 a127:=isAgg281
 z127:=sizeOf281
 v127:=zeroValue281
 t143:=underlying282
 a143:=isAgg282
 z143:=sizeOf282
 v143:=zeroValue282
 t145:=underlying284
 a145:=isAgg284
 z145:=sizeOf284
 v145:=zeroValue284
 t167:=underlying251
 a167:=isAgg251
 z167:=sizeOf251
 v167:=zeroValue251
 t168:=underlying254
 a168:=isAgg254
 z168:=sizeOf254
 v168:=zeroValue254
 t171:=underlying288
 a171:=isAgg288
 z171:=sizeOf288
 v171:=zeroValue288
 t173:=underlying291
 a173:=isAgg291
 z173:=sizeOf291
 v173:=zeroValue291
 t175:=underlying266
 a175:=isAgg266
 z175:=sizeOf266
 v175:=zeroValue266
 t210:=underlying269
 a210:=isAgg269
 z210:=sizeOf269
 v210:=zeroValue269
 t212:=underlying298
 a212:=isAgg298
 z212:=sizeOf298
 v212:=zeroValue298
 t213:=underlying299
 a213:=isAgg299
 z213:=sizeOf299
 t232:=underlying302
 a232:=isAgg302
 z232:=sizeOf302
 v232:=zeroValue302
 t233:=underlying303
 a233:=isAgg303
 z233:=sizeOf303
 v233:=zeroValue303
 g15:=by kernel_rfl
 g16:=by kernel_rfl
 g17:=by kernel_rfl
 g18:=by kernel_rfl
 g19:=by kernel_rfl
section
variable [bn]
def YO(c:UInt8)(s:aq):Lib.indexByte s c=if c∈s then ((ed c s).length:Int)else -1:=by rw[<-Lib.index_one,index_one]
def zop{c:UInt8}{s:aq}(h:c∈s):(ed c s).length+1<=s.length:=by have:=pR List.length (Ni h);simp at this;omega
def ZM(s:aq)(c:UInt8):az prog 253 [.one (.str s),.one (.str [c])] (.x (.one (.int .i64 (if c∈s then ((ed c s).length:Int)else -1)))):=by rw[<-YO];refine az.E_ [.string ⟨s.toArray⟩,.string ⟨[c].toArray⟩] _ (rf f253 (by kernel_rfl) (by kernel_rfl) rfl) rfl (fun _ _=>Rh _ _) (fun _ w=>?_);refine(Any.stringslite_Index_one {MG with} ⟨s.toArray⟩ c w).mono ?_;rintro e w' ⟨rfl,rfl⟩;exact⟨rfl,RowKit.Below.refl _ _⟩
def zoq(c:UInt8)(s:aq):s.take (ed c s).length=ed c s:=by
 conv=>rhs;unfold ed
 rw[zbb];congr 1;unfold ed;rw[zbb,e'];exact Nat.min_eq_left List.findIdx_le_length
def zor(s:aq)(c:UInt8):az prog 204 [.one (.str s),.one (.str [c])] (.b2 [.one (.str (ed c s)),.one (.str (if c∈s then hq c s else [])),.one (.bool (decide (c∈s)))]):=by
 refine az.bd f204 mixed fun aD=>?_;have hs:s.length<=maxLen:=by have:=aD _ kH;simpa[aG.ok,ag.ok]using this
 simp;refine aH.of (ZM s c) ?_;by_cases h:c∈s
 ·have ad:=zop h;have aa:(0<=((ed c s).length:Int))=True:=aY;have hw:i64.wrap (((ed c s).length:Int)+1)=(((ed c s).length+1:Nat):Int):=by rw[lR _ (by unfold maxLen at hs;omega)];omega
  have ab:((ed c s).length<=s.length)=True:=aY;have bv:=zoq c s;have bj:s.drop ((ed c s).length+1)=hq c s:=rfl;simp[h,aa,hw,ab,bv,bj];exact⟨by omega,by omega⟩
 ·have aX:=zos h;simp[h,aX]
def znu(s:aq)(c:UInt8):az prog 146 [.one (.str s),.one (.str [c])] (.b2 [.one (.str (ed c s)),.one (.str (if c∈s then hq c s else [])),.one (.bool (decide (c∈s)))]):=by refine az.bd f146 mixed fun aD=>?_;simp;refine aH.of (zor s c) ?_;simp
def zbc:∀xs:List ByteArray,(((xs.map (·.data.toList)).map fun s=>[ag.str s])).flatten=xs.map fun x=>ag.str x.data.toList
 |[]=>rfl
 |a::r=>by have:=zbc r;simp only[kC,ta,this];rfl
def wV(s:aq)(n:Int)(al:s.length<=18)(h:Lib.atoi s=some n):az prog 131 [.one (.str s)] (.b2 [.one (.int .i64 n),.one (.atom .nilIface)]):=by
 refine az.E_ [.string ⟨s.toArray⟩] (.tuple #[.int .i64 n,.nilIface]) (rf f131 (by kernel_rfl) (by kernel_rfl) rfl) rfl (fun w S=>?_) (fun _ w=>?_)
 ·refine⟨_,rfl,rfl,fun j x ac=>?_⟩
  match j,ac with
  |0,ac=>cases ac;exact⟨_,rfl,bD.int _ _⟩
  |1,ac=>cases ac;exact⟨_,rfl,bD.atom _ rfl⟩
  |j+2,ac=>simp at ac
 refine(Any.strconv_Atoi zlf ⟨s.toArray⟩ n (by show s.toArray.size<=18;simpa using al) h w).mono ?_;rintro e w' ⟨rfl,t,rfl⟩;exact⟨rfl,Lib.bytesWorld_below _ _ _⟩
abbrev yq:aq:=[48,49,50,51,52,53,54,55,56,57]
def zlt(b:UInt8):yq.contains b=da b:=by rw[mm];simp only[da,b7,hk,List.contains_iff_mem,fp,Fx,lS,<-su];simp;omega
def R7(s:aq):(Lib.trimS s yq=[])↔s.all da=true:=by rw[Mg];have:(fun b=>yq.contains b)=da:=funext zlt;rw[this]
def R8(l:List (aq))(e:aq):az prog 129 [strs l,.one (.str e)] (.x (.one (.int .i64 (match l.findIdx? (·==e)with|some i=>(i:Int)|none=>-1)))):=by
 refine az.bd f129 mixed fun aD=>?_;have al:l.length<=maxLen:=by have:=aD _ kH;simp[aG.ok,ag.ok]at this;exact this.1
 simp +contextual[-Bool.and_eq_false_imp];refine ck.of Nat (fun i=>[(0,.x (strs l)),(1,.x (.one (.str e))),(7,.x (.one (.int .i64 l.length))),(8,.x (.one (.int .i64 i)))]) (fun i=>i<=l.length/\∀j,(h:j<i)->(ac:j<l.length)->l[j]≠e) (fun i=>l.length-i) 0 ⟨cj _,fun j h=>by omega⟩ ?_ ?_
 ·simp
 rintro i ⟨ah,am⟩;by_cases ar:i<l.length
 ·have aS:((i:Int)<(l.length:Int))=True:=aY;have bC:i64.wrap ((i:Int)+1)=(i:Int)+1:=lR _ (by unfold maxLen at al;omega);by_cases he:l[i]=e
  ·have aw:l.findIdx? (·==e)=some i:=by
    rw[kT];exact⟨ar,by simp[he],fun j ac=>by simpa using am j ac (by omega)⟩
   rw[aw];simp[ar,aS,he]
  ·have Hn:(e=l[i])=False:=bz fun h=>he h.symm;simp[ar,aS,Hn,bC];refine bt.of (i+1) ⟨by omega,fun j h ac=>?_⟩ (by omega) (by simp);by_cases fU:j=i
   ·subst fU;exact he
   ·exact am j (by omega) ac
 ·have aw:l.findIdx? (·==e)=none:=by
   rw[sF];intro x ai;obtain⟨j,ac,rfl⟩:=List.mem_iff_getElem.1 ai;simpa using am j (by omega) ac
  rw[aw];have aS:((i:Int)<(l.length:Int))=False:=a8;simp[aS]
def MM(l:List (aq))(e:aq):az prog 120 [strs l,.one (.str e)] (.x (.one (.bool (decide (e∈l))))):=by
 refine az.bd f120 mixed fun aD=>?_;simp;refine aH.of (R8 l e) ?_;cases h:l.findIdx? (·==e)with
 |some i=>
  have hm:e∈l:=by
   rw[kT]at h;obtain⟨ah,he,_⟩:=h;have:l[i]=e:=by simpa using he
   rw[<-this];exact hS ah
  simp[hm]
 |none=>
  have hm:e∉l:=by rw[sF]at h;intro hm;simpa using h e hm
  simp[hm]
end
def zlp(n:Nat):da (z6 n)=true/\(z6 n).toNat-48=n%10:=by
 have:(z6 n).toNat=48+n%10:=by unfold z6;rw[UInt8.toNat_ofNat_of_lt' (by simp[UInt8.size];omega)]
 unfold da;rw[this];simp;omega
def Fw:∀(k n:Nat),n<10^k->bV (eg k n)=n
 |0,n,h=>by simp at h;subst h;rfl
 |k+1,n,h=>by rw[eg,MJ,Fw k (n/10) (by rw[Nat.pow_succ]at h;omega),(zlp n).2];omega
def IK(s:aq):s.all da=true->eg s.length (bV s)=s:=by
 refine R5 (p:=fun s=>s.all da=true->eg s.length (bV s)=s) (fun _=>rfl) ?_ s;intro t b ba h;simp only[uN,pr,Iv,sE,b7]at h;obtain⟨aa,ab⟩:=Zs h.2;rw[eG,qN,eg,MJ];have ax:(bV t*10+(b.toNat-48))/10=bV t:=by omega
 have aK:z6 (bV t*10+(b.toNat-48))=b:=by unfold z6;rw[show (bV t*10+(b.toNat-48))%10=b.toNat-48 by omega,aa]
 rw[ax,ba h.1,aK]
def yi(y m d h i s:Int):Prop:=1970<=y/\(1<=m/\m<=12)/\(1<=d/\d<=km y m)/\(0<=h/\h<=23)/\(0<=i/\i<=59)/\(0<=s/\s<=59)
instance (y m d h i s:Int):Decidable (yi y m d h i s):=by unfold yi;infer_instance
def qp(y m d h i s:Int):Int:=(dn y+ef y m+d-1)*86400+h*3600+i*60+s
def MK:dn 1970=0:=by decide
def zjz{y m d h i s:Int}(ak:yi y m d h i s)(aU:y<=9999):0<=qp y m d h i s/\qp y m d h i s<=253402300799/\g' (qp y m d h i s/86400)=y/\kQ (qp y m d h i s/86400)=m /\
  na (qp y m d h i s/86400)=d/\qp y m d h i s%86400/3600=h/\qp y m d h i s%86400/60%60=i/\qp y m d h i s%86400%60=s:=by
 obtain⟨aa,ab,au,aN,bE,cS⟩:=ak;have ap:=qq.back aa ab.1 ab.2 au.1 au.2;obtain⟨D,j6⟩:∃D,D=dn y+ef y m+d-1:=⟨_,rfl⟩
 have IZ:0<=D:=by have:=ap.aO;have:=sy (a:=1970) (b:=y) aa;rw[MK]at this;omega
 have R6:D<=2932896:=by
  have:=ap.ah;have:=sy (a:=y+1) (b:=10000) (by omega);have ab:dn 10000=2932897:=by decide
  omega
 have e:qp y m d h i s=D*86400+h*3600+i*60+s:=by rw[j6];rfl
 have eq:qp y m d h i s/86400=D:=by omega
 rw[<-j6]at ap;obtain⟨DS,Kv,zlq⟩:=ap.unique (Cv D IZ);rw[eq];exact⟨by omega,by omega,DS,Kv,zlq,by omega,by omega,by omega⟩
def zlr{t:Int}(a1:0<=t):yi (g' (t/86400)) (kQ (t/86400)) (na (t/86400)) (t%86400/3600) (t%86400/60%60) (t%86400%60) /\
  qp (g' (t/86400)) (kQ (t/86400)) (na (t/86400)) (t%86400/3600) (t%86400/60%60) (t%86400%60)=t:=by
 have ap:=Cv (t/86400) (by omega);have aA:=ap.d;have hX:=ap.Fi;refine⟨⟨ap.YV,⟨ap.m0,ap.m1⟩,aA,by omega,by omega,by omega⟩,?_⟩;unfold qp;rw[show dn (g' (t/86400))+ef (g' (t/86400)) (kQ (t/86400))+na (t/86400)-1=t/86400 by omega];omega
section
variable [bn][cF prog]
def py:List (aq):=[[74,97,110],[70,101,98],[77,97,114],[65,112,114],[77,97,121],[74,117,110],[74,117,108],[65,117,103],[83,101,112],[79,99,116],[78,111,118],[68,101,99]]
def FA:List (aq):=[[77,111,110],[84,117,101],[87,101,100],[84,104,117],[70,114,105],[83,97,116],[83,117,110]]
def ZQ:az prog 130 [] (.x (strs py)):=by refine az.bd f130 mixed fun aD=>?_;simp[py]
def zlZ:az prog 181 [] (.x (strs FA)):=by refine az.bd f181 mixed fun aD=>?_;simp[FA]
def ZR(m:Nat)(h:1<=m/\m<=12):py.getD (m-1) []=jJ m:=by
 have:∀k:Fin 12,py.getD k.val []=jJ (k.val+1):=by decide
 have:=this ⟨m-1,by omega⟩;simp only at this;rw[this,show m-1+1=m by omega]
def zma(k:Nat)(h:k<7):FA.getD k []=rj ((k+1)%7):=by
 have:∀k:Fin 7,FA.getD k.val []=rj ((k.val+1)%7):=by decide
 exact this ⟨k,h⟩
def ZS(t:Int)(h:fM t=true):az prog 133 [.one (.int .i64 t)] (.x (.one (.str (hl t)))):=by
 have ad:=IS h;have aD:=Ms h;have aE:=zjR t h;unfold RF at aE;unfold hl;obtain⟨W,IR⟩:∃W,W=((t/86400+4)%7).toNat:=⟨_,rfl⟩
 obtain⟨v,ev⟩:∃v:Nat,v=((t/86400+3)%7).toNat:=⟨_,rfl⟩
 have aF:v<7:=by omega
 have g9:W=(v+1)%7:=by omega
 obtain⟨⟨wn,r_⟩,⟨m1,m2⟩,⟨d1,d2⟩⟩:=aD;have Cx:t.tdiv 86400=t/86400:=sA _ ad.1;obtain⟨Q,eq⟩:∃Q,Q=t/86400:=⟨_,rfl⟩
 have tW:0<=Q/\Q<=2932896:=by omega
 have mr:(Q+3).tmod 7=(v:Int):=by rw[pt _ (by omega)];omega
 obtain⟨H,pu⟩:∃H:Nat,H=(t%86400/3600).toNat:=⟨_,rfl⟩
 obtain⟨I,sB⟩:∃I:Nat,I=(t%86400/60%60).toNat:=⟨_,rfl⟩
 obtain⟨S,oD⟩:∃S:Nat,S=(t%86400%60).toNat:=⟨_,rfl⟩
 obtain⟨Y,j4⟩:∃Y:Nat,Y=(g' (t/86400)).toNat:=⟨_,rfl⟩
 obtain⟨M,j5⟩:∃M:Nat,M=(kQ (t/86400)).toNat:=⟨_,rfl⟩
 obtain⟨D,j6⟩:∃D:Nat,D=(na (t/86400)).toNat:=⟨_,rfl⟩
 have tU:t%86400/3600=(H:Int):=by omega
 have lc:t%86400/60%60=(I:Int):=by omega
 have bS:t%86400%60=(S:Int):=by omega
 have tT:g' (t/86400)=(Y:Int):=by omega
 have fK:kQ (t/86400)=(M:Int):=by omega
 have hM:na (t/86400)=(D:Int):=by omega
 rw[tU,lc,bS,tT,fK,hM]at aE;rw[<-IR,<-pu,<-sB,<-oD,<-j4,<-j5,<-j6,g9];have dr:=IN D 2 (by omega) (by omega) (by omega);have e4:=IN Y 4 (by omega) (by omega) (by omega);have hE:=IN H 2 (by omega) (by omega) (by omega);have hF:=IN I 2 (by omega) (by omega) (by omega);have hG:=IN S 2 (by omega) (by omega) (by omega);have ds:i64.wrap (t/86400)=Q:=by rw[<-eq];exact bc _
 have dV:=bc (Q+3);have mn:i64.wrap (v:Int)=(v:Int):=bc _;have m7:i64.wrap ((M:Int)-1)=(((M-1:Nat)):Int):=by rw[bc _];omega
 have I6:∀k n,(eg k n).length=k:=Cy;have bj:=zma v aF;have hm:=ZR M (by omega);have zmb:FA.length=7:=rfl;have zmc:py.length=12:=rfl;have i1:∀h,((FA.map fun s=>[ag.str s])[v]'h)=[.str (rj ((v+1)%7))]:=fun h=>by rw[List.getElem_map];rw[lF,cr (by omega)]at bj;rw[<-bj];rfl
 have i2:py[M-1]?=some (jJ M):=by rw[lF,cr (by omega)]at hm;rw[cr (by omega),<-hm];rfl
 have RK:(((M-1:Nat):Int)<12)=True:=aY;refine az.bd f133 mixed fun aD=>?_;simp;refine aH.of aE ?_;simp;refine aH.of zlZ ?_;simp[Cx,ds,dV,mr,zmb,aF,i1];have zHc:(rj ((v+1)%7)).length<=3:=by unfold rj;simp only[e'];omega
 have zHd:(jJ M).length<=3:=by unfold jJ;simp only[e'];omega
 clear bj hm i1;generalize rj ((v+1)%7)=zHe at*;have mx:(1000:Nat)<=maxLen:=by unfold maxLen;omega
 have eo:(eg 2 D).length=2:=I6 2 D;have l2:(eg 4 Y).length=4:=I6 4 Y;have i6:(eg 2 H).length=2:=I6 2 H;have jI:(eg 2 I).length=2:=I6 2 I;have sw:(eg 2 S).length=2:=I6 2 S;generalize eg 2 D=zHf at*;generalize eg 4 Y=zHg at*;generalize eg 2 H=zHh at*;generalize eg 2 I=zHi at*;generalize eg 2 S=zHj at*;generalize jJ M=zHk at*;refine⟨by omega,by omega,aH.of dr ?_⟩;simp[eo];refine⟨by omega,by omega,aH.of ZQ ?_⟩;simp[m7,zmc,i2,RK];refine⟨by omega,by omega,aH.of e4 ?_⟩;simp[eo,l2];refine⟨by omega,by omega,aH.of hE ?_⟩;simp[eo,l2,i6];refine⟨by omega,by omega,aH.of hF ?_⟩;simp[eo,l2,i6,jI];refine⟨by omega,by omega,aH.of hG ?_⟩;simp[eo,l2,i6,jI,sw];exact⟨by omega,by omega⟩
def oI(s:aq):aq:=b4 s 5 7
def mu(s:aq):aq:=b4 s 12 16
def oJ(s:aq):aq:=b4 s 17 19
def oK(s:aq):aq:=b4 s 20 22
def oL(s:aq):aq:=b4 s 23 25
def i'(s:aq):List (aq):=[oI s,mu s,oJ s,oK s,oL s]
def jo(s:aq):Nat:=match py.findIdx? (·==b4 s 8 11)with
 |some i=>i+1
 |none=>0
def yv(s:aq):Int:=qp (bV (mu s):Nat) (jo s:Nat) (bV (oI s):Nat) (bV (oJ s):Nat) (bV (oK s):Nat) (bV (oL s):Nat)
def hn(s:aq):Bool:=decide (s.length=29)&&((i' s).all (fun x=>x.all da)&&(decide (jo s≠0)&&(decide (1970<=bV (mu s))&&(fM (yv s)&&decide (hl (yv s)=s)))))
def h9(s:aq):Int:=if hn s=true then yv s else 0
def ZT(s:aq):jo s<=12:=by
 unfold jo;cases h:py.findIdx? (·==b4 s 8 11)with
 |none=>simp
 |some i=>have:=(kT.1 h).1;simp[py]at this⊢;omega
def I7{s:aq}{a b:Int}(a1:0<=a)(aa:a<=b)(ab:b<=s.length):(b4 s a b).length=(b-a).toNat:=by unfold b4;simp;omega
def zmd(s:aq):(Lib.trimS s yq=[])↔s.all da=true:=R7 s
def zme(s:aq):az prog 76 [.one (.str s)] (.b2 [.one (.int .i64 (h9 s)),.one (.bool (hn s))]):=by
 obtain⟨B,ca⟩:∃B,B=hn s:=⟨_,rfl⟩
 obtain⟨V,dB⟩:∃V,V=h9 s:=⟨_,rfl⟩
 rw[<-ca,<-dB];unfold h9 at dB;rw[<-ca]at dB;unfold hn at ca;by_cases al:s.length=29;rotate_left
 ·have dK:((s.length:Int)=29)=False:=a8;rw[iI al,h7]at ca;subst ca;rw[an (by decide)]at dB;subst dB;refine az.bd f76 mixed fun aD=>?_;simp[dK]
 rw[gw al,ig]at ca;have dK:((s.length:Int)=29)=True:=aY;have rU:az prog 129 [strs py,.one (.str (b4 s 8 11))] (.x (.one (.int .i64 ((jo s:Int)-1)))):=by
  have k:=R8 py (b4 s 8 11);unfold jo;cases h:py.findIdx? (·==b4 s 8 11)with
  |none=>rw[h]at k;exact k
  |some i=>rw[h]at k;simpa using k
 have Su:=ZT s;have zHl:i64.wrap ((jo s:Int)-1+1)=(jo s:Int):=by rw[bc _];omega
 have zmf:i64.wrap (jo s:Int)=(jo s:Int):=bc _;refine az.bd f76 mixed fun aD=>?_;simp[dK];refine aH.of ZQ ?_;simp;have dr:b4 s 5 7=oI s:=rfl;have e4:b4 s 12 16=mu s:=rfl;have hE:b4 s 17 19=oJ s:=rfl;have hF:b4 s 20 22=oK s:=rfl;have hG:b4 s 23 25=oL s:=rfl;have kI:(oI s).length=2:=I7 (by omega) (by omega) (by omega);have jE:(mu s).length=4:=I7 (by omega) (by omega) (by omega);have FB:(oJ s).length=2:=I7 (by omega) (by omega) (by omega);have Sv:(oK s).length=2:=I7 (by omega) (by omega) (by omega);have Sw:(oL s).length=2:=I7 (by omega) (by omega) (by omega);have zmg:(7<=(s.length:Int))=True:=aY;have zmh:(16<=(s.length:Int))=True:=aY;have zmi:(19<=(s.length:Int))=True:=aY;have zmj:(22<=(s.length:Int))=True:=aY;have zmk:(25<=(s.length:Int))=True:=aY;refine⟨by omega,aH.of rU ?_⟩;simp[zmf,dr,e4,hE,hF,hG,zmg,zmh,zmi,zmj,zmk];have ZU:(i' s).length=5:=rfl;have zml:∀x∈i' s,1<=x.length/\x.length<=4:=by intro x ai;simp only[i',fp,Fx,lS]at ai;rcases ai with rfl|rfl|rfl|rfl|rfl<;>omega
 have zmm:([[.str (oI s)],[.str (mu s)],[.str (oJ s)],[.str (oK s)],[.str (oL s)]]:List (List ag))=(i' s).map fun x=>[.str x]:=rfl;have fin:∀(K:List (aq)),K=i' s->True:=fun _ _=>trivial;refine ck.of Nat (fun i=>[(0,.x (.one (.str s))),(4,.x (.one (.int .i64 (jo s:Nat)))),(5,.own 3 1 (((i' s).take i).map fun x=>[.int .i64 (bV x:Nat)])),(29,.own 9 1 ((i' s).map fun x=>[.str x])),(30,.x (.one (.int .i64 5))),(31,.x (.one (.int .i64 i)))]) (fun i=>i<=5/\((i' s).take i).all (fun x=>x.all da)=true) (fun i=>5-i) 0 ⟨by omega,by simp⟩ ?_ ?_
 ·simp[zmm]
 rintro i ⟨ah,aA⟩;by_cases ar:i<5
 ·have aS:((i:Int)<5)=True:=aY;have bC:=bc ((i:Int)+1);have jV:i<(i' s).length:=by omega
  obtain⟨x,ex⟩:∃x,x=(i' s)[i]:=⟨_,rfl⟩
  have ZV:=zml x (by rw[ex];exact hS jV);have bF:(i' s)[i]?=some x:=by rw[ex];exact cr jV
  have bv:(i' s).take (i+1)=(i' s).take i++[x]:=by rw[ex,k6 jV]
  have zj:((i' s).take i).length=i:=by rw[e',ZU];omega
  have aE:=Cq x yq (by decide) (by decide);have ap:=zmd x;generalize Lib.trimS x yq=T at aE ap;unfold yq at aE;simp[aS,bF,ZU];refine aH.of aE ?_;by_cases cp:T=[]
  ·have Sx:=ap.1 cp;subst cp;have aZ:bV x<10^4:=s9 (qo x Sx) (Cs (by omega) ZV.2);have aQ:=wV x _ (by omega) (Mo Sx (by rintro rfl;simp at ZV));simp;refine aH.of aQ ?_;have hA:i+1<=maxLen:=by unfold maxLen;omega
   simp[bC];refine⟨⟨by omega,by unfold maxLen;omega⟩,?_⟩;refine bt.of (i+1) ⟨by omega,?_⟩ (by omega) (by simp[bv]);rw[bv,uN,aA];simp only[pr,Iv,sE,ig];exact Sx
  ·have bk:B=false:=by
    rw[ca];have:((i' s).all fun x=>x.all da)=false:=by rw[Iu];exact⟨x,by rw[ex];exact hS jV,fun h=>cp (ap.2 h)⟩
    rw[this];rfl
   subst bk;rw[an (by decide)]at dB;subst dB;simp[cp]
 ·have gp:i=5:=by omega
  subst gp;have kv:((i' s).all fun x=>x.all da)=true:=by rw[k4 (by omega)]at aA;exact aA
  rw[kv,ig]at ca;have FC:∀x∈i' s,x.all da=true:=fun x ai=>hJ.1 kv x ai;have v1:bV (oI s)<100:=by have:=qo (oI s) (FC _ (by simp[i']));rw[kI]at this;exact this
  have v2:bV (mu s)<10000:=by have:=qo (mu s) (FC _ (by simp[i']));rw[jE]at this;exact this
  have v3:bV (oJ s)<100:=by have:=qo (oJ s) (FC _ (by simp[i']));rw[FB]at this;exact this
  have v4:bV (oK s)<100:=by have:=qo (oK s) (FC _ (by simp[i']));rw[Sv]at this;exact this
  have v5:bV (oL s)<100:=by have:=qo (oL s) (FC _ (by simp[i']));rw[Sw]at this;exact this
  have qv:yv s=(dn (bV (mu s):Nat)+ef (bV (mu s):Nat) (jo s:Nat)+(bV (oI s):Nat)-1)*86400+(bV (oJ s):Nat)*3600+(bV (oK s):Nat)*60+(bV (oL s):Nat):=rfl;have zmn:(((i' s).take 5).map fun x=>[ag.int .i64 (bV x:Nat)])=[[.int .i64 (bV (oI s):Nat)],[.int .i64 (bV (mu s):Nat)],[.int .i64 (bV (oJ s):Nat)],[.int .i64 (bV (oK s):Nat)],[.int .i64 (bV (oL s):Nat)]]:=rfl;rw[zmn];generalize bV (oI s)=D at*;generalize bV (mu s)=Y at*;generalize bV (oJ s)=H at*;generalize bV (oK s)=I at*;generalize bV (oL s)=S at*;generalize jo s=M at*;by_cases fK:M=0
  ·subst fK;have bk:B=false:=by rw[ca];rfl
   subst bk;rw[an (by decide)]at dB;subst dB;simp
  have MQ:((M:Int)=0)=False:=a8;rw[gw fK,ig]at ca;by_cases tT:1970<=Y;rotate_left
  ·have Sy:((Y:Int)<1970)=True:=aY;have bk:B=false:=by rw[ca,iI tT];rfl
   subst bk;rw[an (by decide)]at dB;subst dB;simp[fK,Sy]
  have Sy:((Y:Int)<1970)=False:=a8;rw[gw tT,ig]at ca;have zw:=Cw (Y:Int) (M:Int) (by omega) (by omega);obtain⟨A,jM⟩:∃A,A=dn (Y:Int)+ef (Y:Int) (M:Int):=⟨_,rfl⟩
  have c0:-1000000<=A/\A<=4000000:=by
   have d1:=sx (Y:Int) (a:=1) (b:=(M:Int)) (by omega) (by omega);have d2:=sx (Y:Int) (a:=(M:Int)) (b:=13) (by omega) (by omega);rw[yj]at d1;rw[Mq]at d2;have d3:oC (Y:Int)<=366:=by unfold oC;split<;>omega
   have d4:=sy (a:=1970) (b:=(Y:Int)) (by omega);have d5:=sy (a:=(Y:Int)) (b:=10000) (by omega);rw[MK]at d4;have d6:dn 10000=2932897:=by decide
   omega
  rw[<-jM]at zw qv;have ds:=bc (A+(D:Int));have dV:=bc (A+(D:Int)-1);have mn:=bc ((A+(D:Int)-1)*86400);have m7:=bc ((H:Int)*3600);have rg:=bc ((A+(D:Int)-1)*86400+(H:Int)*3600);have rn:=bc ((I:Int)*60);have yn:=bc ((A+(D:Int)-1)*86400+(H:Int)*3600+(I:Int)*60);have Fj:i64.wrap ((A+(D:Int)-1)*86400+(H:Int)*3600+(I:Int)*60+(S:Int))=yv s:=by rw[qv];exact bc _
  have gc:=E' (yv s);have ga:=ZS (yv s);simp[fK,Sy];refine aH.of zw ?_;simp[ds,dV,mn,m7,rg,rn,yn,Fj];refine aH.of gc ?_;generalize yv s=N at*;cases hm:fM N
  ·rw[hm]at ca;simp only[h7]at ca;subst ca;rw[an (by decide)]at dB;subst dB;simp;refine ya ?_;simp
  ·rw[hm,ig]at ca;simp;refine b_.of (fun _=>ga hm) rfl ?_;by_cases eW:hl N=s
   ·rw[gw eW]at ca;subst ca;rw[av rfl]at dB;subst dB;simp[eW]
   ·rw[iI eW]at ca;subst ca;rw[an (by decide)]at dB;subst dB;simp[eW]
def ZW(s:aq):az prog 43 [.one (.str s)] (.b2 [.one (.int .i64 (h9 s)),.one (.int .i64 (if hn s=true then 0 else 10))]):=by
 have k:=zme s;have h:hn s=false->h9 s=0:=fun h=>by unfold h9;rw[h];rfl
 generalize h9 s=V at*;generalize hn s=B at*;refine az.bd f43 mixed fun aD=>?_;simp;refine aH.of k ?_;cases B
 ·rw[h rfl];simp
 ·simp
def zmo(t:Int):az prog 230 [.one (.int .i64 t)] (.b2 [.one (.str (if fM t=true then hl t else [])),.one (.int .i64 (if fM t=true then 0 else 1))]):=by
 have gc:=E' t;have ga:=ZS t;generalize hl t=D at*;generalize fM t=B at*;refine az.bd f230 mixed fun aD=>?_;simp;refine aH.of gc ?_;cases B
 ·simp
 ·simp;refine aH.of (ga rfl) ?_;simp
end
def la(c:UInt8):Bool:=da c ||((decide (97<=c.toNat)&&decide (c.toNat<=102)) ||(decide (65<=c.toNat)&&decide (c.toNat<=70)))
def nN(c:UInt8):UInt8:=if 65<=c.toNat/\c.toNat<=90 then c+32 else c
def eN(s:aq):aq:=s.map nN
def Cp:aq:=[34,35,60,62,92,94,123,124,125,96]
def j3(c:UInt8):Bool:=(decide (33<=c.toNat)&&decide (c.toNat<=126))&&!Cp.contains c
def Fa:aq->Bool
 |a::b::_=>la a&&la b
 |_=>false
def fN(w:aq):aq->Nat×Bool
 |[]=>(0,true)
 |c::r=>if w.contains c=true then (0,true)else if j3 c=false\/(c=37/\Fa r=false)then (0,false)else ((fN w r).1+1,(fN w r).2)
def lb(w s:aq):Bool:=(fN w s).2&&decide ((fN w s).1=s.length)
structure Addr where
 scheme:aq
 host:aq
 port:aq
 path:aq
 query:aq
 Rs:Bool
 IB:aq
 Rt:Bool
 deriving DecidableEq
def Addr.row(a:Addr):List ag:=[.str a.scheme,.str a.host,.str a.port,.str a.path,.str a.query,.bool a.Rs,.str a.IB,.bool a.Rt]
def Ru:aq->aq->Nat
 |w::ws,t::ts=>if nN t=w then Ru ws ts+1 else 0
 |_,_=>0
structure zGm where
 ok:Bool
 n:Nat
 path:aq
 query:aq
 Rs:Bool
 IB:aq
 Rt:Bool
def Me{p:UInt8->Prop}(h:∀n:Fin 256,p (UInt8.ofNat n.1))(c:UInt8):p c:=by have:=h ⟨c.toNat,c.toNat_lt⟩;simpa using this
def zjg:∀c:UInt8,la c=true->j3 c=true/\c≠37/\c≠35/\c≠63:=Me (by decide +kernel)
def Mf{c:UInt8}(h:la c=true):j3 c=true/\c≠37/\c≠35/\c≠63:=zjg c h
def zjh{w:aq}{c:UInt8}{r:aq}(aa:w.contains c=false)(ab:j3 c=true)(au:c=37->Fa r=true):fN w (c::r)=((fN w r).1+1,(fN w r).2):=by
 rw[fN,an (by rw[aa];decide),an];rintro (h|⟨h,bx⟩)
 ·rw[ab]at h;cases h
 ·rw[au h]at bx;cases bx
section
variable [bn]
abbrev vh(c:UInt8):aG:=.one (.int .u8 c.toNat)
def zjl(c:UInt8):az prog 208 [vh c] (.x (.one (.bool (da c)))):=by refine az.bd f208 mixed fun aD=>?_;simp;rw[mm];simp only[da,b7,hk];omega
def YH(c:UInt8):az prog 152 [vh c] (.x (.one (.bool (la c)))):=by
 refine az.bd f152 mixed fun aD=>?_;simp;refine aH.of (zjl c) ?_;cases a1:da c
 ·simp;rw[mm];simp only[la,a1,zm,gl,b7,hk];omega
 ·simp
  try simp[la,a1]
def zjm(c:UInt8):az prog 244 [vh c] (.x (.one (.bool (da c)))):=by refine az.bd f244 mixed fun aD=>?_;simp;rw[mm];simp only[da,b7,hk];omega
def YI(c:UInt8):az prog 184 [vh c] (.x (.one (.bool (la c)))):=by
 refine az.bd f184 mixed fun aD=>?_;simp;refine aH.of (zjm c) ?_;cases a1:da c
 ·simp;rw[mm];simp only[la,a1,zm,gl,b7,hk];omega
 ·simp
  try simp[la,a1]
def YJ(c:UInt8):((nN c).toNat:Int)=if 65<=c.toNat/\c.toNat<=90 then (c.toNat:Int)+32 else c.toNat:=by
 have:∀c:UInt8,((nN c).toNat:Int)=if 65<=c.toNat/\c.toNat<=90 then (c.toNat:Int)+32 else c.toNat:=Me (by decide +kernel)
 exact this c
def kN(s:aq)(i:Nat):aq:=eN (s.take i)++s.drop i
@[simp]def zGn(s:aq)(i:Nat):(kN s i).length=s.length:=by unfold kN eN;rw[eG,GG,<-eG,Df]
def YK(s:aq):kN s 0=s:=by simp[kN,eN]
def YL(s:aq):kN s s.length=eN s:=by simp[kN]
def Mj{s:aq}{i:Nat}(h:i<s.length):(kN s i)[i]'(by simpa using h)=s[i]:=by
 have al:(eN (s.take i)).length=i:=by simp[eN];omega
 unfold kN;rw[List.getElem_append_right (by omega)];simp[al]
def YM{s:aq}{i:Nat}(h:i<s.length):kN s (i+1)=(kN s i).set i (nN s[i]):=by
 have al:(eN (s.take i)).length=i:=by simp[eN];omega
 have e:eN (s.take (i+1))=eN (s.take i)++[nN s[i]]:=by show (s.take (i+1)).map nN=_;rw[Co,cr h,qa];rfl
 unfold kN;rw[e,List.set_append_right _ _ (by omega),al,Nat.sub_self,jw h,List.set_cons_zero];simp
def LZ(l:aq)(i:Nat)(c:UInt8):(bq l).set i (ie c)=bq (l.set i c):=by unfold bq;rw[List.map_set]
def YN{l:aq}{i:Nat}(h:i<l.length):l.set i l[i]=l:=List.set_getElem_self h
def vi(l:aq):o3 (bq l)=l:=by
 unfold o3 bq;rw[List.map_map];have:(Gw∘ie)=id:=by funext b;simp[Gw]
 rw[this,List.map_id]
def vj(l:aq):vS (bq l):=by intro x ai;obtain⟨b,_,rfl⟩:=hx.1 ai;exact⟨_,rfl⟩
def zin{l:aq}{i:Nat}(h:i<l.length):(bq l)[i]?=some (ie l[i]):=by simp[bq,h]
def IE{l:aq}{i:Nat}(h:i<(bq l).length):(bq l)[i]=ie (l[i]'(by simpa[bq]using h)):=by simp[bq]
def e8(l:aq):(bq l).length=l.length:=by simp[bq]
def IF(s:aq):az prog 75 [.one (.str s)] (.x (.one (.str (eN s)))):=by
 refine az.bd f75 mixed fun aD=>?_;have al:s.length<=maxLen:=by simpa[aG.ok,ag.ok]using aD
 have af:=e8;simp[af];refine ck.of Nat (fun i=>[(3,.own 5 1 (bq (kN s i))),(8,.alias 3),(9,.x (.one (.int .i64 s.length))),(10,.x (.one (.int .i64 i)))]) (fun i=>i<=s.length) (fun i=>s.length-i) 0 (cj _) ?_ ?_
 ·simp[YK]
 intro i ah;by_cases ar:i<s.length
 ·have aS:((i:Int)<(s.length:Int))=True:=aY;have bC:i64.wrap ((i:Int)+1)=(i:Int)+1:=lR _ (by unfold maxLen at al;omega);have bF:∀h,(bq (kN s i))[i]'h=ie s[i]:=fun h=>by rw[IE,Mj ar]
  have cu:=YM ar;by_cases ap:65<=s[i].toNat/\s[i].toNat<=90
  ·have bw:(65<=(s[i].toNat:Int))=True:=aY;have bA:((s[i].toNat:Int)<=90)=True:=aY;have hw:u8.wrap (u8.wrap ((s[i].toNat:Int)+97)-65)=((nN s[i]).toNat:Int):=by
    rw[YJ,av ap];simp[IntKind.wrap,IntKind.signed,IntKind.bits];omega
   simp[ar,aS,af,bF,bw,bA,hw];refine bt.of (i+1) ar (by omega) ?_;have x0:bq (kN s (i+1))=(bq (kN s i)).set i (ie (nN s[i])):=by rw[cu,LZ]
   simp[x0,bC]
  ·have kD:nN s[i]=s[i]:=by unfold nN;rw[an ap]
   have IG:kN s (i+1)=kN s i:=by rw[cu,kD,<-Mj ar,YN]
   by_cases aa:65<=s[i].toNat
   ·have bw:(65<=(s[i].toNat:Int))=True:=aY;have bA:((s[i].toNat:Int)<=90)=False:=a8;simp[ar,aS,af,bF,bw,bA];refine bt.of (i+1) ar (by omega) ?_;simp[IG,bC]
   ·have bw:(65<=(s[i].toNat:Int))=False:=a8;simp[ar,aS,af,bF,bw];refine bt.of (i+1) ar (by omega) ?_;simp[IG,bC]
 ·have aS:((i:Int)<(s.length:Int))=False:=a8;have e_:i=s.length:=by omega
  subst e_;have aB:=vj (eN s);have ad:=vi (eN s);have aw:=YL s;simp[aS,aw,aB,ad]
def Rv(s:aq):az prog 95 [.one (.str s)] (.x (.one (.str (eN s)))):=by
 refine az.bd f95 mixed fun aD=>?_;have al:s.length<=maxLen:=by simpa[aG.ok,ag.ok]using aD
 have af:=e8;simp;refine ck.of Nat (fun i=>[(3,.own 5 1 (bq (kN s i))),(4,.x (.one (.int .i64 i)))]) (fun i=>i<=s.length) (fun i=>s.length-i) 0 (cj _) ?_ ?_
 ·simp[YK]
 intro i ah;by_cases ar:i<s.length
 ·have aS:((i:Int)<(s.length:Int))=True:=aY;have bC:i64.wrap ((i:Int)+1)=(i:Int)+1:=lR _ (by unfold maxLen at al;omega);have bF:∀h,(bq (kN s i))[i]'h=ie s[i]:=fun h=>by rw[IE,Mj ar]
  have cu:=YM ar;by_cases ap:65<=s[i].toNat/\s[i].toNat<=90
  ·have bw:(65<=(s[i].toNat:Int))=True:=aY;have bA:((s[i].toNat:Int)<=90)=True:=aY;have hw:u8.wrap ((s[i].toNat:Int)+32)=((nN s[i]).toNat:Int):=by
    rw[YJ,av ap];simp[IntKind.wrap,IntKind.signed,IntKind.bits];omega
   simp[ar,aS,af,bF,bw,bA,hw];refine bt.of (i+1) ar (by omega) ?_;have x0:bq (kN s (i+1))=(bq (kN s i)).set i (ie (nN s[i])):=by rw[cu,LZ]
   simp[x0,bC]
  ·have kD:nN s[i]=s[i]:=by unfold nN;rw[an ap]
   have IG:kN s (i+1)=kN s i:=by rw[cu,kD,<-Mj ar,YN]
   by_cases aa:65<=s[i].toNat
   ·have bw:(65<=(s[i].toNat:Int))=True:=aY;have bA:((s[i].toNat:Int)<=90)=False:=a8;simp[ar,aS,af,bF,bw,bA];refine bt.of (i+1) ar (by omega) ?_;simp[IG,bC]
   ·have bw:(65<=(s[i].toNat:Int))=False:=a8;simp[ar,aS,af,bF,bw];refine bt.of (i+1) ar (by omega) ?_;simp[IG,bC]
 ·have aS:((i:Int)<(s.length:Int))=False:=a8;have e_:i=s.length:=by omega
  subst e_;have aB:=vj (eN s);have ad:=vi (eN s);have aw:=YL s;have gQ:(eN s).length=s.length:=by simp[eN]
  simp[aS,aw,aB,ad,gQ,af]
def Fb{c:UInt8}(n:Nat)(aX:n<256):((c.toNat:Int)=n)↔c=UInt8.ofNat n:=by rw[<-su,UInt8.toNat_ofNat_of_lt' (by simp[UInt8.size];omega)];omega
def fu(s:aq)(c:UInt8):Int:=if c∈s then ((ed c s).length:Int)else -1
def m'{s:aq}{c:UInt8}(h:s.contains c=true):0<=fu s c:=by unfold fu;rw[av (by simpa using h)];omega
def qn{s:aq}{c:UInt8}(h:s.contains c=false):fu s c=-1:=by unfold fu;rw[an (by intro hm;rw[List.contains_iff_mem.2 hm]at h;cases h)]
def strings_IndexByte(s:aq)(c:UInt8):az prog 128 [.one (.str s),vh c] (.x (.one (.int .i64 (fu s c)))):=by
 unfold fu;rw[<-YO];refine az.E_ [.string ⟨s.toArray⟩,.int .u8 c.toNat] _ (rf f128 (by kernel_rfl) (by kernel_rfl) rfl) rfl (fun _ _=>Rh _ _) (fun _ w=>?_);refine(Any.strings_IndexByte {YF with} ⟨s.toArray⟩ c.toNat w).mono ?_;rintro e w' ⟨rfl,rfl⟩;have:(c.toNat:Int).toNat.toUInt8=c:=by simp
 rw[this];exact⟨rfl,RowKit.Below.refl _ _⟩
structure nP(w s:aq)(i:Nat):Prop where
 le:i<=s.length
 eq:fN w s=(i+(fN w (s.drop i)).1,(fN w (s.drop i)).2)
def nP.zero(w s:aq):nP w s 0:=⟨cj _,by simp⟩
def nP.step{w s:aq}{i:Nat}(h:nP w s i)(ar:i<s.length)(aa:w.contains s[i]=false)(ab:j3 s[i]=true)(au:s[i]=37->Fa (s.drop (i+1))=true):nP w s (i+1):=by refine⟨ar,?_⟩;rw[h.eq,jw ar,zjh aa ab au];simp only;congr 1;omega
def nP.hit{w s:aq}{i:Nat}(h:nP w s i)(ar:i<s.length)(aa:w.contains s[i]=true):fN w s=(i,true):=by rw[h.eq,jw ar,fN,av aa];rfl
def nP.bad{w s:aq}{i:Nat}(h:nP w s i)(ar:i<s.length)(aa:w.contains s[i]=false)(ab:j3 s[i]=false\/(s[i]=37/\Fa (s.drop (i+1))=false)):fN w s=(i,false):=by rw[h.eq,jw ar,fN,an (by rw[aa];decide),av ab];rfl
def nP.done{w s:aq}{i:Nat}(h:nP w s i)(iN:¬i<s.length):fN w s=(s.length,true):=by
 have:i=s.length:=by have:=h.le;omega
 rw[h.eq,this,wT];rfl
def zV(s:aq)(i:Nat):Fa (s.drop (i+1))=if h:i+2<s.length then la s[i+1]&&la s[i+2]else false:=by
 by_cases h:i+2<s.length
 ·rw[x9 h,jw (by omega),jw (by omega)];rfl
 ·rw[dif_neg h];by_cases aa:i+1<s.length
  ·rw[jw aa,nu (by omega)];rfl
  ·rw[nu (by omega)];rfl
def nP.three{w s:aq}{i:Nat}(hw:∀c,w.contains c=true->la c=false)(h:nP w s i)(ar:i+2<s.length)(aa:w.contains (s[i]'(by omega))=false)(ab:j3 (s[i]'(by omega))=true)(a:la (s[i+1]'(by omega))=true)(b:la s[i+2]=true):nP w s (i+3):=by
 have ai:∀c,la c=true->w.contains c=false:=fun c ap=>by
  cases bK:w.contains c with
  |false=>rfl
  |true=>rw[hw c bK]at ap;cases ap
 have s1:=h.step (by omega) aa ab (fun _=>by rw[zV,x9 ar,a,b];rfl);have s2:=s1.step (by omega) (ai _ a) (Mf a).1 (fun e=>absurd e (Mf a).2.1);exact s2.step (by omega) (ai _ b) (Mf b).1 (fun e=>absurd e (Mf b).2.1)
def YP(c:UInt8):j3 c=true↔(¬c.toNat<33/\¬126<c.toNat)/\Cp.contains c=false:=by unfold j3;cases Cp.contains c<;>simp
def Mk{c:UInt8}:((c.toNat:Int)=37)↔c=37:=Fb 37 (by omega)
def zjn(s w:aq)(hs:s.length<=4000000000000000)(hw:∀c,w.contains c=true->la c=false):az prog 103 [.one (.str s),.one (.str w)] (.b2 [.one (.int .i64 (fN w s).1),.one (.bool (fN w s).2)]):=by
 refine az.bd f103 mixed fun aD=>?_;obtain⟨R,aC⟩:∃R,R=fN w s:=⟨_,rfl⟩
 rw[<-aC];simp;refine ck.of Nat (fun i=>[(0,.x (.one (.str s))),(1,.x (.one (.str w))),(6,.x (.one (.int .i64 i)))]) (nP w s) (fun i=>s.length-i) 0 (nP.zero w s) ?_ ?_
 ·simp
 intro i ah;by_cases ar:i<s.length;rotate_left
 ·have aS:((i:Int)<(s.length:Int))=False:=a8;rw[ah.done ar]at aC;subst aC;simp[aS]
 have aS:((i:Int)<(s.length:Int))=True:=aY;have bC:=bc ((i:Int)+1);simp[ar,aS];refine aH.of (strings_IndexByte w s[i]) ?_;cases d9:w.contains s[i];rotate_left
 ·have g:(0<=fu w s[i])=True:=bW (m' d9);rw[ah.hit ar d9]at aC;subst aC;simp[g]
 have cl:=qn d9;simp[cl];by_cases ao:j3 s[i]=true;rotate_left
 ·have zl:j3 s[i]=false:=by simpa using ao
  rw[ah.bad ar d9 (.inl zl)]at aC;subst aC;by_cases bw:s[i].toNat<33
  ·have c7:((s[i].toNat:Int)<33)=True:=aY;simp[c7];refine gH 0 ?_;simp[c7]
  ·have c7:((s[i].toNat:Int)<33)=False:=a8;by_cases bA:126<s[i].toNat
   ·have eU:(126<(s[i].toNat:Int))=True:=aY;simp[c7,eU];refine gH 0 ?_;simp[c7,eU]
   ·have eU:(126<(s[i].toNat:Int))=False:=a8;have ad:Cp.contains s[i]=true:=by
     cases ad:Cp.contains s[i]with
     |true=>rfl
     |false=>exact absurd ((YP _).2 ⟨⟨bw,bA⟩,ad⟩) ao
    have g:(0<=fu [34,35,60,62,92,94,123,124,125,96] s[i])=True:=bW (m' ad);simp[c7,eU];refine b_.of (fun _=>strings_IndexByte [34,35,60,62,92,94,123,124,125,96] s[i]) rfl ?_;simp[g]
 obtain⟨⟨bw,bA⟩,ad⟩:=(YP _).1 ao;have c7:((s[i].toNat:Int)<33)=False:=a8;have eU:(126<(s[i].toNat:Int))=False:=a8;have eJ:fu [34,35,60,62,92,94,123,124,125,96] s[i]=-1:=qn ad;simp[c7,eU];refine b_.of (fun _=>strings_IndexByte [34,35,60,62,92,94,123,124,125,96] s[i]) rfl ?_;by_cases sv:s[i]=37;rotate_left
 ·have e:((s[i].toNat:Int)=37)=False:=bz (fun h=>sv (Mk.1 h));simp[eJ,c7,eU,e];refine bt.of (i+1) (ah.step ar d9 ao (fun e=>absurd e sv)) (by omega) (by simp[bC])
 have e:((s[i].toNat:Int)=37)=True:=bW (Mk.2 sv);have dV:=bc ((i:Int)+2);by_cases ab:i+2<s.length;rotate_left
 ·have g2:((s.length:Int)<=(i:Int)+2)=True:=aY;rw[ah.bad ar d9 (.inr ⟨sv,by rw[zV,dif_neg ab]⟩)]at aC;subst aC;simp[eJ,c7,eU,e,dV,g2];refine e7 false ?_;simp;refine e7 false ?_;simp
 have g2:((s.length:Int)<=(i:Int)+2)=False:=a8;have q1:i+1<s.length:=by omega
 have yh:((i:Int)+1<(s.length:Int))=True:=aY;have IH:((i:Int)+2<(s.length:Int))=True:=aY;have dr:(0<=(i:Int)+1)=True:=aY;have e4:(0<=(i:Int)+2)=True:=aY;have kI:((i:Int)+1).toNat=i+1:=by omega
 have jE:((i:Int)+2).toNat=i+2:=by omega
 simp[eJ,c7,eU,e,dV,bC,g2,q1,yh,dr,kI];refine b_.of (fun _=>YH s[i+1]) rfl ?_;cases cH:la s[i+1]
 ·rw[ah.bad ar d9 (.inr ⟨sv,by rw[zV,x9 ab,cH];rfl⟩)]at aC;subst aC;simp[dV,IH,ab,e4,jE];refine e7 false ?_;simp
 ·simp[dV,IH,ab,e4,jE];refine b_.of (fun _=>YH s[i+2]) rfl ?_;cases dl:la s[i+2]
  ·rw[ah.bad ar d9 (.inr ⟨sv,by rw[zV,x9 ab,dl];simp⟩)]at aC;subst aC;simp
  ·have mn:i64.wrap ((i:Int)+2+1)=(i:Int)+3:=by rw[bc _];omega
   simp[dV];refine bt.of (i+3) (ah.three hw ab d9 ao cH dl) (by omega) (by simp[mn])
def zjo(s w:aq)(hs:s.length<=4000000000000000)(hw:∀c,w.contains c=true->la c=false):az prog 55 [.one (.str s),.one (.str w)] (.x (.one (.bool (lb w s)))):=by
 refine az.bd f55 mixed fun aD=>?_;simp;refine aH.of (zjn s w hs hw) ?_;unfold lb;cases h:(fN w s).2
 ·simp
 ·simp;rw[mm];simp;omega
def zjp(c:UInt8):az prog 183 [vh c] (.x (.one (.bool (j3 c)))):=by
 refine az.bd f183 mixed fun aD=>?_;by_cases bw:33<=c.toNat;rotate_left
 ·have c7:(33<=(c.toNat:Int))=False:=a8;have ao:j3 c=false:=by unfold j3;simp[bw]
  rw[ao];simp[c7];refine gH 0 ?_;simp
 have c7:(33<=(c.toNat:Int))=True:=aY;by_cases bA:c.toNat<=126;rotate_left
 ·have eU:((c.toNat:Int)<=126)=False:=a8;have ao:j3 c=false:=by unfold j3;simp[bA]
  rw[ao];simp[c7,eU];refine gH 0 ?_;simp
 have eU:((c.toNat:Int)<=126)=True:=aY;by_cases cJ:c=96
 ·have jH:((c.toNat:Int)=96)=True:=bW ((Fb 96 (by omega)).2 cJ);have zjq:((c.toNat:Int) != 96)=false:=by rw[Rw];exact(Fb 96 (by omega)).2 cJ
  have ao:j3 c=false:=by subst cJ;decide
  rw[ao];simp[c7,eU,zjq];refine gH 0 ?_;simp
 have jH:((c.toNat:Int)=96)=False:=bz (fun h=>cJ ((Fb 96 (by omega)).1 h));have ao:j3 c=!([34,35,60,62,92,94,123,124,125]:aq).contains c:=by
  have ad:Cp.contains c=([34,35,60,62,92,94,123,124,125]:aq).contains c:=by unfold Cp;simp[cJ]
  unfold j3;rw[ad];simp[bw,bA]
 rw[ao];simp[c7,eU,jH];refine b_.of (fun _=>strings_IndexByte [34,35,60,62,92,94,123,124,125] c) rfl ?_;cases d9:([34,35,60,62,92,94,123,124,125]:aq).contains c
 ·have g:fu [34,35,60,62,92,94,123,124,125] c=-1:=qn d9;simp[g,jH]
 ·have g:(fu [34,35,60,62,92,94,123,124,125] c<0)=False:=bz (by have:=m' d9;omega);simp[g]
def zW(w s:aq):Int:=if lb w s=true then -1 else (fN w s).1
def II{w s:aq}{i:Nat}{b:Bool}(h:fN w s=(i,b))(ah:i<s.length):zW w s=i:=by unfold zW lb;rw[h,an (by simp;omega)]
def zjr{w s:aq}(h:fN w s=(s.length,true)):zW w s=-1:=by unfold zW lb;rw[h,av (by simp)]
def Ml{c d:UInt8}:([c]:aq).contains d=decide (d=c):=by by_cases h:d=c<;>simp[h]
def zjs(s:aq)(c:UInt8)(hs:s.length<=4000000000000000):az prog 134 [.one (.str s),vh c] (.x (.one (.int .i64 (zW [c] s)))):=by
 refine az.bd f134 mixed fun aD=>?_;obtain⟨R,aC⟩:∃R,R=zW [c] s:=⟨_,rfl⟩
 rw[<-aC];simp;refine ck.of Nat (fun i=>[(0,.x (.one (.str s))),(1,.x (vh c)),(5,.x (.one (.int .i64 i)))]) (nP [c] s) (fun i=>s.length-i) 0 (nP.zero [c] s) ?_ ?_
 ·simp
 intro i ah;by_cases ar:i<s.length;rotate_left
 ·have aS:((i:Int)<(s.length:Int))=False:=a8;rw[zjr (ah.done ar)]at aC;subst aC;simp[aS]
 have aS:((i:Int)<(s.length:Int))=True:=aY;have bC:=bc ((i:Int)+1);simp[ar,aS];refine aH.of (zjp s[i]) ?_;by_cases ap:s[i]=c
 ·have e:((s[i].toNat:Int)=(c.toNat:Int))=True:=bW (by rw[ap]);rw[II (ah.hit ar (by rw[Ml];simp[ap])) ar]at aC;subst aC;simp[e,ar,aS]
 have e:((s[i].toNat:Int)=(c.toNat:Int))=False:=bz (fun h=>ap (by rw[<-su];omega));have d9:([c]:aq).contains s[i]=false:=by rw[Ml];simp[ap]
 cases ao:j3 s[i]
 ·rw[II (ah.bad ar d9 (.inl ao)) ar]at aC;subst aC;simp
 by_cases sv:s[i]=37;rotate_left
 ·have f:((s[i].toNat:Int)=37)=False:=bz (fun h=>sv (Mk.1 h));have Mm:((s[i].toNat:Int)==37)=false:=by simpa using f
  simp[e,Mm,ar,aS];refine e7 false ?_;simp;refine e7 false ?_;simp;refine bt.of (i+1) (ah.step ar d9 ao (fun e=>absurd e sv)) (by omega) (by simp[bC])
 have f:((s[i].toNat:Int)=37)=True:=bW (Mk.2 sv);have Mm:((s[i].toNat:Int)==37)=true:=by simpa using f
 have dV:=bc ((i:Int)+2);by_cases ab:i+2<s.length;rotate_left
 ·have g2:((s.length:Int)<=(i:Int)+2)=True:=aY;rw[II (ah.bad ar d9 (.inr ⟨sv,by rw[zV,dif_neg ab]⟩)) ar]at aC;subst aC;simp[e,Mm,dV,g2,ar,aS];refine e7 false ?_;simp;refine e7 false ?_;simp
 have g2:((s.length:Int)<=(i:Int)+2)=False:=a8;have q1:i+1<s.length:=by omega
 have yh:((i:Int)+1<(s.length:Int))=True:=aY;have IH:((i:Int)+2<(s.length:Int))=True:=aY;have dr:(0<=(i:Int)+1)=True:=aY;have e4:(0<=(i:Int)+2)=True:=aY;have kI:((i:Int)+1).toNat=i+1:=by omega
 have jE:((i:Int)+2).toNat=i+2:=by omega
 simp[e,Mm,dV,bC,g2,ar,aS,q1,yh,dr,kI];refine b_.of (fun _=>YI s[i+1]) rfl ?_;cases cH:la s[i+1]
 ·rw[II (ah.bad ar d9 (.inr ⟨sv,by rw[zV,x9 ab,cH];rfl⟩)) ar]at aC;subst aC;simp[dV,IH,ab,e4,jE];refine e7 false ?_;simp
 ·simp[dV,IH,ab,e4,jE];refine b_.of (fun _=>YI s[i+2]) rfl ?_;cases dl:la s[i+2]
  ·rw[II (ah.bad ar d9 (.inr ⟨sv,by rw[zV,x9 ab,dl];simp⟩)) ar]at aC;subst aC;simp
  ·simp[bC];refine bt.of (i+1) (ah.step ar d9 ao (fun _=>by rw[zV,x9 ab,cH,dl];rfl)) (by omega) (by simp)
def YQ:∀s:aq,(fN [0] s).1=(fN [] s).1/\lb [0] s=lb [] s
 |[]=>⟨rfl,rfl⟩
 |d::r=>by
  have ba:=YQ r;by_cases a1:d=0
  ·subst a1;have aa:j3 0=false:=by decide
   have ax:fN [0] (0::r)=(0,true):=by rw[fN,av (by decide)]
   have aK:fN [] (0::r)=(0,false):=by rw[fN,an (by decide),av (.inl aa)]
   unfold lb;rw[ax,aK];exact⟨rfl,by simp⟩
  ·by_cases ad:j3 d=false\/(d=37/\Fa r=false)
   ·have ax:fN [0] (d::r)=(0,false):=by rw[fN,an (by rw[Ml];simp[a1]),av ad]
    have aK:fN [] (d::r)=(0,false):=by rw[fN,an (by simp),av ad]
    unfold lb;rw[ax,aK];exact⟨rfl,rfl⟩
   ·have ax:fN [0] (d::r)=((fN [0] r).1+1,(fN [0] r).2):=by rw[fN,an (by rw[Ml];simp[a1]),an ad]
    have aK:fN [] (d::r)=((fN [] r).1+1,(fN [] r).2):=by rw[fN,an (by simp),an ad]
    unfold lb at ba⊢;rw[ax,aK];refine⟨by simp only;rw[ba.1],?_⟩;have:=ba.2;simp only[hz,Nat.add_right_cancel_iff];exact this
def zjt{w s:aq}:decide (zW w s<0)=lb w s:=by
 unfold zW;cases lb w s
 ·simp
 ·simp
def zju(s:aq)(hs:s.length<=4000000000000000):az prog 77 [.one (.str s)] (.x (.one (.bool (lb [] s)))):=by refine az.bd f77 mixed fun aD=>?_;simp;refine aH.of (zjs s 0 hs) ?_;have:=zjt (w:=[0]) (s:=s);rw[(YQ s).2]at this;simp[this]
structure Addr.Fit(a:Addr):Prop where
 scheme:a.scheme.length<=300000000000000
 host:a.host.length<=300000000000000
 port:a.port.length<=300000000000000
 path:a.path.length<=300000000000000
 query:a.query.length<=300000000000000
 IB:a.IB.length<=300000000000000
def zjv{c:UInt8}(n:Nat)(aX:n<256)(h:c≠UInt8.ofNat n):((c.toNat:Int)=n)=False:=bz (fun e=>h ((Fb n aX).1 e))
end
section
variable [bn]
end
structure zGo(u t:aq)(i:Nat):Prop where
 le:i<=u.length
 zGp:i<=t.length
 eq:Ru u t=i+Ru (u.drop i) (t.drop i)
section
variable [bn]
structure zGq where
 path:aq
 query:aq
 Rs:Bool
 IB:aq
 Rt:Bool
 bad:Int
end
section
variable [bn]
def Rx(n aO ah:Int):az prog 27 [.one (.int .i64 n),.one (.int .i64 aO),.one (.int .i64 ah)] (.x (.one (.bool (dh aO ah n)))):=by refine az.bd f27 mixed fun aD=>?_;simp[dh]
end
section
variable [bn][cF prog]
def Ry(n aO ah:Int):az prog 99 [.one (.int .i64 n),.one (.int .i64 aO),.one (.int .i64 ah)] (.x (.one (.bool (dh aO ah n)))):=by refine az.bd f99 mixed fun aD=>?_;simp[dh]
def vk(s:aq):az prog 96 [.one (.str s)] (.x (.one (.bool (s.all da&&decide (s≠[]))))):=by
 obtain⟨B,ca⟩:∃B,B=(s.all da&&decide (s≠[])):=⟨_,rfl⟩
 rw[<-ca];have gI:∀i (h:i<s.length),da s[i]=false->B=false:=fun i h ap=>by rw[ca,wR h ap];rfl
 refine az.bd f96 mixed fun aD=>?_;simp;refine ck.of Nat (fun i=>[(0,.x (.one (.str s))),(3,.x (.one (.int .i64 i)))]) (ft da s) (fun i=>s.length-i) 0 ft.zero ?_ ?_
 ·simp
 intro i ah;by_cases ar:i<s.length
 ·have aS:((i:Int)<(s.length:Int))=True:=aY;have bC:i64.wrap ((i:Int)+1)=(i:Int)+1:=lR _ (by have:=aD;simp[aG.ok,ag.ok,maxLen]at this;omega);by_cases bw:s[i].toNat<48
  ·have c7:((s[i].toNat:Int)<48)=True:=aY;have bk:=gI i ar (by simp[da];omega);simp[ar,aS,c7,bk]
  ·have c7:((s[i].toNat:Int)<48)=False:=a8;by_cases bA:57<s[i].toNat
   ·have eU:(57<(s[i].toNat:Int))=True:=aY;have bk:=gI i ar (by simp[da];omega);simp[ar,aS,c7,eU,bk]
   ·have eU:(57<(s[i].toNat:Int))=False:=a8;simp[ar,aS,c7,eU,bC];refine bt.of (i+1) (ah.step ar (by simp[da];omega)) (by omega) (by simp)
 ·have aS:((i:Int)<(s.length:Int))=False:=a8;rw[ah.done ar]at ca;by_cases a1:s=[]
  ·have bk:B=false:=by rw[ca];simp[a1]
   simp[a1,bk]
  ·have bk:B=true:=by rw[ca];simp[a1]
   simp[aS,a1,bk]
def wU(s:aq)(h:s.all da=true)(a1:1<=s.length)(aa:s.length<=4):az prog 97 [.one (.str s),.one (.int .i64 9999)] (.x (.one (.int .i64 (bV s:Nat)))):=by
 refine az.bd f97 mixed fun aD=>?_;simp;refine ck.of Nat (fun i=>[(0,.x (.one (.str (s.drop i)))),(1,.x (.one (.int .i64 9999)))]) (fun i=>i+1<=s.length/\bV (s.drop i)=bV s) (fun i=>s.length-i) 0 ⟨by omega,by simp⟩ ?_ ?_
 ·simp
 rintro i ⟨ah,aF⟩;obtain⟨u,IJ⟩:∃u,u=s.drop i:=⟨_,rfl⟩
 have k3:u.length=s.length-i:=by rw[IJ,eP]
 have YR:u.all da=true:=by rw[IJ];rw[hJ]at h⊢;exact fun x ai=>h x (vZ ai)
 have Mn:s.drop (i+1)=u.drop 1:=by rw[IJ,Dx]
 have am:0<u.length:=by omega
 have fin:az prog 131 [.one (.str u)] (.b2 [.one (.int .i64 (bV u:Nat)),.one (.atom .nilIface)]):=wV u _ (by omega) (Mo YR (by intro e;rw[e]at am;simp at am));have ad:=qo u YR;have r2:bV u<10000:=s9 ad (Cs (n:=10) (by omega) (show u.length<=4 by omega));have wW:min ((bV s:Nat):Int) 9999=((bV s:Nat):Int):=by rw[<-aF,<-IJ];omega
 rw[<-IJ]at aF⊢;rw[aF]at fin;have g15:(15<(u.length:Int))=False:=a8;have zGr:(15<u.length)=False:=a8;by_cases ap:1<u.length/\u[0]=48
 ·obtain⟨bw,bA⟩:=ap;have c7:(1<(u.length:Int))=True:=aY;have aK:((u[0].toNat:Int)=48)=True:=bW ((Fb 48 (by omega)).2 bA);have f2:((u[0].toNat:Int)==48)=true:=by simpa using aK
  have cJ:(1<=(u.length:Int))=True:=aY;have fv:(1<=u.length)=True:=aY;have zjw:bV (u.drop 1)=bV u:=by
   obtain⟨a,r,hu⟩:∃a r,u=a::r:=by
    cases u with
    |nil=>simp at am
    |cons a r=>exact⟨a,r,rfl⟩
   subst hu;have bj:a=48:=bA;subst bj;simp[bV]
  simp[c7,am,f2,cJ];refine bt.of (i+1) ⟨by omega,by rw[Mn,zjw,aF]⟩ (by omega) ?_;simp[Mn]
 ·by_cases bw:1<u.length
  ·have c7:(1<(u.length:Int))=True:=aY;have bA:¬u[0]=48:=fun e=>ap ⟨bw,e⟩;have aK:((u[0].toNat:Int)=48)=False:=zjv 48 (by omega) bA;have f2:((u[0].toNat:Int)==48)=false:=by simpa using aK
   simp[c7,am,f2,g15];refine aH.of fin ?_;simp[wW]
  ·have c7:(1<(u.length:Int))=False:=a8;simp[c7,am,g15];refine aH.of fin ?_;simp[wW]
def vq:aq:=[33,35,36,37,38,39,42,43,45,46,94,95,124,126]
def vr(c:UInt8):Bool:=(decide (97<=c.toNat)&&decide (c.toNat<=122)) ||(decide (65<=c.toNat)&&decide (c.toNat<=90)) ||(decide (48<=c.toNat)&&decide (c.toNat<=57)) ||vq.contains c
def Ft{c:UInt8}(h:(97<=c.toNat/\c.toNat<=122)\/(65<=c.toNat/\c.toNat<=90)\/(48<=c.toNat/\c.toNat<=57)):vr c=true:=by unfold vr;rcases h with h|h|h<;>simp[h.1,h.2]
def Ac{c:UInt8}(h:vq.contains c=true):vr c=true:=by unfold vr;rw[h,Bool.or_true]
def Ad{c:UInt8}(h:¬((97<=c.toNat/\c.toNat<=122)\/(65<=c.toNat/\c.toNat<=90)\/(48<=c.toNat/\c.toNat<=57)))(ap:vq.contains c=false):vr c=false:=by
 unfold vr;rw[ap];cases aa:decide (97<=c.toNat)<;>cases ab:decide (c.toNat<=122)<;>cases au:decide (65<=c.toNat)<;>cases aN:decide (c.toNat<=90)<;>cases bE:decide (48<=c.toNat)<;>cases cS:decide (c.toNat<=57) <;>
  simp only[hk,rp]at aa ab au aN bE cS<;>first|rfl|(exfalso;omega)
def mq(s:aq):Bool:=dh 1 40 s.length&&s.all vr
def Zo(s:aq):az prog 73 [.one (.str s)] (.x (.one (.bool (mq s)))):=by
 obtain⟨B,ca⟩:∃B,B=mq s:=⟨_,rfl⟩
 rw[<-ca];have gI:∀i (h:i<s.length),vr s[i]=false->B=false:=fun i h ap=>by rw[ca];unfold mq;rw[wR h ap,kJ]
 refine az.bd f73 mixed fun aD=>?_;cases d9:dh 1 40 s.length
 ·have bk:B=false:=by rw[ca];unfold mq;rw[d9,h7]
  by_cases aa:s.length<1
  ·have dd:((s.length:Int)<1)=True:=aY;simp[dd,bk]
  ·have dd:((s.length:Int)<1)=False:=a8;have ab:(40<(s.length:Int))=True:=bW (by simp[dh]at d9;omega);simp[dd,ab,bk]
 have aa:((s.length:Int)<1)=False:=by simp[dh]at d9;exact bz (by omega)
 have ab:(40<(s.length:Int))=False:=by simp[dh]at d9;exact bz (by omega)
 simp[aa,ab];refine ck.of Nat (fun i=>[(0,.x (.one (.str s))),(14,.x (.one (.int .i64 s.length))),(15,.x (.one (.int .i64 i)))]) (ft vr s) (fun i=>s.length-i) 0 ft.zero ?_ ?_
 ·simp
 intro i ah;by_cases ar:i<s.length
 ·have aS:((i:Int)<(s.length:Int))=True:=aY;have bC:i64.wrap ((i:Int)+1)=(i:Int)+1:=lR _ (by simp[dh]at d9;omega);have gC:(s[i].toNat<=47)\/(48<=s[i].toNat/\s[i].toNat<=57)\/(58<=s[i].toNat/\s[i].toNat<=64)\/(65<=s[i].toNat/\s[i].toNat<=90)\/(91<=s[i].toNat/\s[i].toNat<=96)\/(97<=s[i].toNat/\s[i].toNat<=122)\/(123<=s[i].toNat):=by omega
  rcases gC with gC|gC|gC|gC|gC|gC|gC
  ·-- 0..47
   have eY:(97<=(s[i].toNat:Int))=False:=a8;have dr:((s[i].toNat:Int)<=122)=True:=aY;have e4:(65<=(s[i].toNat:Int))=False:=a8;have hE:((s[i].toNat:Int)<=90)=True:=aY;have hF:(48<=(s[i].toNat:Int))=False:=a8;have hG:((s[i].toNat:Int)<=57)=True:=aY;simp[ar,aS,eY,dr,e4,hE,hF,hG];refine b_.of (fun _=>strings_IndexByte [33,35,36,37,38,39,42,43,45,46,94,95,124,126] s[i]) rfl ?_;cases ap:vq.contains s[i]
   ·have g:fu [33,35,36,37,38,39,42,43,45,46,94,95,124,126] s[i]=-1:=qn ap;have bk:=gI i ar (Ad (by omega) ap);simp[g,bk]
   ·have g:(0<=fu [33,35,36,37,38,39,42,43,45,46,94,95,124,126] s[i])=True:=bW (m' ap);simp[g,bC];exact bt.of (i+1) (ah.step ar (Ac ap)) (by omega) (by simp)
  ·-- 48..57
   have eY:(97<=(s[i].toNat:Int))=False:=a8;have dr:((s[i].toNat:Int)<=122)=True:=aY;have e4:(65<=(s[i].toNat:Int))=False:=a8;have hE:((s[i].toNat:Int)<=90)=True:=aY;have hF:(48<=(s[i].toNat:Int))=True:=aY;have hG:((s[i].toNat:Int)<=57)=True:=aY;simp[ar,aS,eY,dr,e4,hE,hF,hG];refine gH 0 ?_;simp[bC];exact bt.of (i+1) (ah.step ar (Ft (by omega))) (by omega) (by simp)
  ·-- 58..64
   have eY:(97<=(s[i].toNat:Int))=False:=a8;have dr:((s[i].toNat:Int)<=122)=True:=aY;have e4:(65<=(s[i].toNat:Int))=False:=a8;have hE:((s[i].toNat:Int)<=90)=True:=aY;have hF:(48<=(s[i].toNat:Int))=True:=aY;have hG:((s[i].toNat:Int)<=57)=False:=a8;simp[ar,aS,eY,dr,e4,hE,hF,hG];refine b_.of (fun _=>strings_IndexByte [33,35,36,37,38,39,42,43,45,46,94,95,124,126] s[i]) rfl ?_;cases ap:vq.contains s[i]
   ·have g:fu [33,35,36,37,38,39,42,43,45,46,94,95,124,126] s[i]=-1:=qn ap;have bk:=gI i ar (Ad (by omega) ap);simp[g,bk]
   ·have g:(0<=fu [33,35,36,37,38,39,42,43,45,46,94,95,124,126] s[i])=True:=bW (m' ap);simp[g,bC];exact bt.of (i+1) (ah.step ar (Ac ap)) (by omega) (by simp)
  ·-- 65..90
   have eY:(97<=(s[i].toNat:Int))=False:=a8;have dr:((s[i].toNat:Int)<=122)=True:=aY;have e4:(65<=(s[i].toNat:Int))=True:=aY;have hE:((s[i].toNat:Int)<=90)=True:=aY;have hF:(48<=(s[i].toNat:Int))=True:=aY;have hG:((s[i].toNat:Int)<=57)=False:=a8;simp[ar,aS,eY,dr,e4,hE,hF,hG];refine gH 0 ?_;simp[bC];exact bt.of (i+1) (ah.step ar (Ft (by omega))) (by omega) (by simp)
  ·-- 91..96
   have eY:(97<=(s[i].toNat:Int))=False:=a8;have dr:((s[i].toNat:Int)<=122)=True:=aY;have e4:(65<=(s[i].toNat:Int))=True:=aY;have hE:((s[i].toNat:Int)<=90)=False:=a8;have hF:(48<=(s[i].toNat:Int))=True:=aY;have hG:((s[i].toNat:Int)<=57)=False:=a8;simp[ar,aS,eY,dr,e4,hE,hF,hG];refine b_.of (fun _=>strings_IndexByte [33,35,36,37,38,39,42,43,45,46,94,95,124,126] s[i]) rfl ?_;cases ap:vq.contains s[i]
   ·have g:fu [33,35,36,37,38,39,42,43,45,46,94,95,124,126] s[i]=-1:=qn ap;have bk:=gI i ar (Ad (by omega) ap);simp[g,bk]
   ·have g:(0<=fu [33,35,36,37,38,39,42,43,45,46,94,95,124,126] s[i])=True:=bW (m' ap);simp[g,bC];exact bt.of (i+1) (ah.step ar (Ac ap)) (by omega) (by simp)
  ·-- 97..122
   have eY:(97<=(s[i].toNat:Int))=True:=aY;have dr:((s[i].toNat:Int)<=122)=True:=aY;have e4:(65<=(s[i].toNat:Int))=True:=aY;have hE:((s[i].toNat:Int)<=90)=False:=a8;have hF:(48<=(s[i].toNat:Int))=True:=aY;have hG:((s[i].toNat:Int)<=57)=False:=a8;simp[ar,aS,eY,dr,e4,hE,hF,hG];refine gH 0 ?_;simp[bC];exact bt.of (i+1) (ah.step ar (Ft (by omega))) (by omega) (by simp)
  ·-- 123..255
   have eY:(97<=(s[i].toNat:Int))=True:=aY;have dr:((s[i].toNat:Int)<=122)=False:=a8;have e4:(65<=(s[i].toNat:Int))=True:=aY;have hE:((s[i].toNat:Int)<=90)=False:=a8;have hF:(48<=(s[i].toNat:Int))=True:=aY;have hG:((s[i].toNat:Int)<=57)=False:=a8;simp[ar,aS,eY,dr,e4,hE,hF,hG];refine b_.of (fun _=>strings_IndexByte [33,35,36,37,38,39,42,43,45,46,94,95,124,126] s[i]) rfl ?_;cases ap:vq.contains s[i]
   ·have g:fu [33,35,36,37,38,39,42,43,45,46,94,95,124,126] s[i]=-1:=qn ap;have bk:=gI i ar (Ad (by omega) ap);simp[g,bk]
   ·have g:(0<=fu [33,35,36,37,38,39,42,43,45,46,94,95,124,126] s[i])=True:=bW (m' ap);simp[g,bC];exact bt.of (i+1) (ah.step ar (Ac ap)) (by omega) (by simp)
 ·have aS:((i:Int)<(s.length:Int))=False:=a8;have bk:B=true:=by rw[ca];unfold mq;rw[d9,ah.done ar];rfl
  simp[aS,bk]
def zlm(s:aq):az prog 205 [.one (.str s)] (.x (.one (.bool (mq s)))):=by
 obtain⟨B,ca⟩:∃B,B=mq s:=⟨_,rfl⟩
 rw[<-ca];have gI:∀i (h:i<s.length),vr s[i]=false->B=false:=fun i h ap=>by rw[ca];unfold mq;rw[wR h ap,kJ]
 refine az.bd f205 mixed fun aD=>?_;simp;refine ck.of Nat (fun i=>[(0,.x (.one (.str s))),(3,.x (.one (.int .i64 i)))]) (ft vr s) (fun i=>s.length-i) 0 ft.zero ?_ ?_
 ·simp
 intro i ah;by_cases ar:i<s.length
 ·have aS:((i:Int)<(s.length:Int))=True:=aY;have bC:i64.wrap ((i:Int)+1)=(i:Int)+1:=lR _ (by have:=aD;simp[aG.ok,ag.ok,maxLen]at this;omega);have gC:(s[i].toNat<=47)\/(48<=s[i].toNat/\s[i].toNat<=57)\/(58<=s[i].toNat/\s[i].toNat<=64)\/(65<=s[i].toNat/\s[i].toNat<=90)\/(91<=s[i].toNat/\s[i].toNat<=96)\/(97<=s[i].toNat/\s[i].toNat<=122)\/(123<=s[i].toNat):=by omega
  rcases gC with gC|gC|gC|gC|gC|gC|gC
  ·-- 0..47
   have eY:(97<=(s[i].toNat:Int))=False:=a8;have dr:((s[i].toNat:Int)<=122)=True:=aY;have e4:(65<=(s[i].toNat:Int))=False:=a8;have hE:((s[i].toNat:Int)<=90)=True:=aY;have hF:(48<=(s[i].toNat:Int))=False:=a8;have hG:((s[i].toNat:Int)<=57)=True:=aY;simp[ar,aS,eY,dr,e4,hE,hF,hG];refine b_.of (fun _=>strings_IndexByte [33,35,36,37,38,39,42,43,45,46,94,95,124,126] s[i]) rfl ?_;cases ap:vq.contains s[i]
   ·have g:fu [33,35,36,37,38,39,42,43,45,46,94,95,124,126] s[i]=-1:=qn ap;have bk:=gI i ar (Ad (by omega) ap);simp[g,bk]
   ·have g:(0<=fu [33,35,36,37,38,39,42,43,45,46,94,95,124,126] s[i])=True:=bW (m' ap);have g2:(fu [33,35,36,37,38,39,42,43,45,46,94,95,124,126] s[i]<0)=False:=bz (by have a1:0<=fu [33,35,36,37,38,39,42,43,45,46,94,95,124,126] s[i]:=m' ap;omega);simp[g2,bC];exact bt.of (i+1) (ah.step ar (Ac ap)) (by omega) (by simp)
  ·-- 48..57
   have eY:(97<=(s[i].toNat:Int))=False:=a8;have dr:((s[i].toNat:Int)<=122)=True:=aY;have e4:(65<=(s[i].toNat:Int))=False:=a8;have hE:((s[i].toNat:Int)<=90)=True:=aY;have hF:(48<=(s[i].toNat:Int))=True:=aY;have hG:((s[i].toNat:Int)<=57)=True:=aY;simp[ar,aS,eY,dr,e4,hE,hF,hG];refine gH 0 ?_;simp[bC];exact bt.of (i+1) (ah.step ar (Ft (by omega))) (by omega) (by simp)
  ·-- 58..64
   have eY:(97<=(s[i].toNat:Int))=False:=a8;have dr:((s[i].toNat:Int)<=122)=True:=aY;have e4:(65<=(s[i].toNat:Int))=False:=a8;have hE:((s[i].toNat:Int)<=90)=True:=aY;have hF:(48<=(s[i].toNat:Int))=True:=aY;have hG:((s[i].toNat:Int)<=57)=False:=a8;simp[ar,aS,eY,dr,e4,hE,hF,hG];refine b_.of (fun _=>strings_IndexByte [33,35,36,37,38,39,42,43,45,46,94,95,124,126] s[i]) rfl ?_;cases ap:vq.contains s[i]
   ·have g:fu [33,35,36,37,38,39,42,43,45,46,94,95,124,126] s[i]=-1:=qn ap;have bk:=gI i ar (Ad (by omega) ap);simp[g,bk]
   ·have g:(0<=fu [33,35,36,37,38,39,42,43,45,46,94,95,124,126] s[i])=True:=bW (m' ap);have g2:(fu [33,35,36,37,38,39,42,43,45,46,94,95,124,126] s[i]<0)=False:=bz (by have a1:0<=fu [33,35,36,37,38,39,42,43,45,46,94,95,124,126] s[i]:=m' ap;omega);simp[g2,bC];exact bt.of (i+1) (ah.step ar (Ac ap)) (by omega) (by simp)
  ·-- 65..90
   have eY:(97<=(s[i].toNat:Int))=False:=a8;have dr:((s[i].toNat:Int)<=122)=True:=aY;have e4:(65<=(s[i].toNat:Int))=True:=aY;have hE:((s[i].toNat:Int)<=90)=True:=aY;have hF:(48<=(s[i].toNat:Int))=True:=aY;have hG:((s[i].toNat:Int)<=57)=False:=a8;simp[ar,aS,eY,dr,e4,hE,hF,hG];refine gH 0 ?_;simp[bC];exact bt.of (i+1) (ah.step ar (Ft (by omega))) (by omega) (by simp)
  ·-- 91..96
   have eY:(97<=(s[i].toNat:Int))=False:=a8;have dr:((s[i].toNat:Int)<=122)=True:=aY;have e4:(65<=(s[i].toNat:Int))=True:=aY;have hE:((s[i].toNat:Int)<=90)=False:=a8;have hF:(48<=(s[i].toNat:Int))=True:=aY;have hG:((s[i].toNat:Int)<=57)=False:=a8;simp[ar,aS,eY,dr,e4,hE,hF,hG];refine b_.of (fun _=>strings_IndexByte [33,35,36,37,38,39,42,43,45,46,94,95,124,126] s[i]) rfl ?_;cases ap:vq.contains s[i]
   ·have g:fu [33,35,36,37,38,39,42,43,45,46,94,95,124,126] s[i]=-1:=qn ap;have bk:=gI i ar (Ad (by omega) ap);simp[g,bk]
   ·have g:(0<=fu [33,35,36,37,38,39,42,43,45,46,94,95,124,126] s[i])=True:=bW (m' ap);have g2:(fu [33,35,36,37,38,39,42,43,45,46,94,95,124,126] s[i]<0)=False:=bz (by have a1:0<=fu [33,35,36,37,38,39,42,43,45,46,94,95,124,126] s[i]:=m' ap;omega);simp[g2,bC];exact bt.of (i+1) (ah.step ar (Ac ap)) (by omega) (by simp)
  ·-- 97..122
   have eY:(97<=(s[i].toNat:Int))=True:=aY;have dr:((s[i].toNat:Int)<=122)=True:=aY;have e4:(65<=(s[i].toNat:Int))=True:=aY;have hE:((s[i].toNat:Int)<=90)=False:=a8;have hF:(48<=(s[i].toNat:Int))=True:=aY;have hG:((s[i].toNat:Int)<=57)=False:=a8;simp[ar,aS,eY,dr,e4,hE,hF,hG];refine gH 0 ?_;simp[bC];exact bt.of (i+1) (ah.step ar (Ft (by omega))) (by omega) (by simp)
  ·-- 123..255
   have eY:(97<=(s[i].toNat:Int))=True:=aY;have dr:((s[i].toNat:Int)<=122)=False:=a8;have e4:(65<=(s[i].toNat:Int))=True:=aY;have hE:((s[i].toNat:Int)<=90)=False:=a8;have hF:(48<=(s[i].toNat:Int))=True:=aY;have hG:((s[i].toNat:Int)<=57)=False:=a8;simp[ar,aS,eY,dr,e4,hE,hF,hG];refine b_.of (fun _=>strings_IndexByte [33,35,36,37,38,39,42,43,45,46,94,95,124,126] s[i]) rfl ?_;cases ap:vq.contains s[i]
   ·have g:fu [33,35,36,37,38,39,42,43,45,46,94,95,124,126] s[i]=-1:=qn ap;have bk:=gI i ar (Ad (by omega) ap);simp[g,bk]
   ·have g:(0<=fu [33,35,36,37,38,39,42,43,45,46,94,95,124,126] s[i])=True:=bW (m' ap);have g2:(fu [33,35,36,37,38,39,42,43,45,46,94,95,124,126] s[i]<0)=False:=bz (by have a1:0<=fu [33,35,36,37,38,39,42,43,45,46,94,95,124,126] s[i]:=m' ap;omega);simp[g2,bC];exact bt.of (i+1) (ah.step ar (Ac ap)) (by omega) (by simp)
 ·have aS:((i:Int)<(s.length:Int))=False:=a8;have bk:B=dh 1 40 s.length:=by rw[ca];unfold mq;rw[ah.done ar,sE]
  simp[aS];refine aH.of (Ry s.length 1 40) ?_;simp[bk]
end
end Go.Proofs.YtmlnbemjmlogiaaGreatDoor
