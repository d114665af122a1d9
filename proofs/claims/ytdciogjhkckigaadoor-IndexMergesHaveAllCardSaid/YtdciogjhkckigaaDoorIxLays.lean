/- A part of the proof: lemmas and contracts of functions. -/
import Derived.Shelf.Lays
import Derived.Test.YtdciogjhkckigaaDoorChecked
import Derived.KernelRfl
namespace Go.Proofs.YtdciogjhkckigaaDoor
open Go
def renn106 : Go.Shelf.Ren := ⟨fun x => if x = 106 then 69 else if x = 213 then 88 else if x = 265 then 104 else x, fun x => if x = 3 then 3 else if x = 9 then 9 else x, fun x => x⟩
theorem layn106 : Go.Proofs.Lays.n106 Tryd.prog renn106 where
  mixed := by kernel_rfl
  f106 := Tryd.func69.trans (congrArg some (by kernel_rfl))
  f213 := Tryd.func88.trans (congrArg some (by kernel_rfl))
  f265 := Tryd.func104.trans (congrArg some (by kernel_rfl))
  t3 := Tryd.underlying3
  a3 := Tryd.isAgg3
  z3 := Tryd.sizeOf3
  v3 := Tryd.zeroValue3
  t9 := Tryd.underlying9
  a9 := Tryd.isAgg9
  z9 := Tryd.sizeOf9
  v9 := Tryd.zeroValue9
def renn160 : Go.Shelf.Ren := ⟨fun x => if x = 119 then 122 else if x = 120 then 115 else if x = 137 then 121 else if x = 151 then 107 else if x = 152 then 114 else if x = 160 then 71 else if x = 197 then 106 else if x = 217 then 130 else if x = 224 then 123 else if x = 225 then 124 else if x = 227 then 91 else if x = 228 then 105 else if x = 231 then 89 else if x = 232 then 90 else if x = 233 then 92 else if x = 234 then 93 else if x = 235 then 94 else if x = 236 then 95 else if x = 260 then 113 else if x = 266 then 133 else if x = 271 then 108 else x, fun x => if x = 0 then 0 else if x = 3 then 3 else if x = 4 then 4 else if x = 5 then 5 else if x = 9 then 9 else if x = 21 then 21 else if x = 46 then 117 else if x = 105 then 130 else if x = 116 then 120 else if x = 117 then 121 else if x = 119 then 144 else if x = 124 then 124 else if x = 138 then 146 else if x = 139 then 147 else x, fun x => if x = 3 then 1 else if x = 4 then 2 else x⟩
theorem layn160 : Go.Proofs.Lays.n160 Tryd.prog renn160 where
  mixed := by kernel_rfl
  f119 := Tryd.func122.trans (congrArg some (by kernel_rfl))
  f120 := Tryd.func115.trans (congrArg some (by kernel_rfl))
  f137 := Tryd.func121.trans (congrArg some (by kernel_rfl))
  f151 := Tryd.func107.trans (congrArg some (by kernel_rfl))
  f152 := Tryd.func114.trans (congrArg some (by kernel_rfl))
  f160 := Tryd.func71.trans (congrArg some (by kernel_rfl))
  f197 := Tryd.func106.trans (congrArg some (by kernel_rfl))
  f217 := Tryd.func130.trans (congrArg some (by kernel_rfl))
  f224 := Tryd.func123.trans (congrArg some (by kernel_rfl))
  f225 := Tryd.func124.trans (congrArg some (by kernel_rfl))
  f227 := Tryd.func91.trans (congrArg some (by kernel_rfl))
  f228 := Tryd.func105.trans (congrArg some (by kernel_rfl))
  f231 := Tryd.func89.trans (congrArg some (by kernel_rfl))
  f232 := Tryd.func90.trans (congrArg some (by kernel_rfl))
  f233 := Tryd.func92.trans (congrArg some (by kernel_rfl))
  f234 := Tryd.func93.trans (congrArg some (by kernel_rfl))
  f235 := Tryd.func94.trans (congrArg some (by kernel_rfl))
  f236 := Tryd.func95.trans (congrArg some (by kernel_rfl))
  f260 := Tryd.func113.trans (congrArg some (by kernel_rfl))
  f266 := Tryd.func133.trans (congrArg some (by kernel_rfl))
  f271 := Tryd.func108.trans (congrArg some (by kernel_rfl))
  t0 := Tryd.underlying0
  a0 := Tryd.isAgg0
  z0 := Tryd.sizeOf0
  v0 := Tryd.zeroValue0
  t3 := Tryd.underlying3
  a3 := Tryd.isAgg3
  z3 := Tryd.sizeOf3
  v3 := Tryd.zeroValue3
  t4 := Tryd.underlying4
  a4 := Tryd.isAgg4
  z4 := Tryd.sizeOf4
  v4 := Tryd.zeroValue4
  t5 := Tryd.underlying5
  a5 := Tryd.isAgg5
  z5 := Tryd.sizeOf5
  v5 := Tryd.zeroValue5
  t9 := Tryd.underlying9
  a9 := Tryd.isAgg9
  z9 := Tryd.sizeOf9
  v9 := Tryd.zeroValue9
  t21 := Tryd.underlying21
  a21 := Tryd.isAgg21
  z21 := Tryd.sizeOf21
  v21 := Tryd.zeroValue21
  t46 := Tryd.underlying117
  a46 := Tryd.isAgg117
  z46 := Tryd.sizeOf117
  v46 := Tryd.zeroValue117
  t105 := Tryd.underlying130
  a105 := Tryd.isAgg130
  z105 := Tryd.sizeOf130
  v105 := Tryd.zeroValue130
  t116 := Tryd.underlying120
  a116 := Tryd.isAgg120
  z116 := Tryd.sizeOf120
  t117 := Tryd.underlying121
  a117 := Tryd.isAgg121
  z117 := Tryd.sizeOf121
  v117 := Tryd.zeroValue121
  t119 := Tryd.underlying144
  a119 := Tryd.isAgg144
  z119 := Tryd.sizeOf144
  t124 := Tryd.underlying124
  a124 := Tryd.isAgg124
  z124 := Tryd.sizeOf124
  v124 := Tryd.zeroValue124
  t138 := Tryd.underlying146
  a138 := Tryd.isAgg146
  z138 := Tryd.sizeOf146
  v138 := Tryd.zeroValue146
  t139 := Tryd.underlying147
  a139 := Tryd.isAgg147
  z139 := Tryd.sizeOf147
  v139 := Tryd.zeroValue147
  g3 := by kernel_rfl
  g4 := by kernel_rfl
end Go.Proofs.YtdciogjhkckigaaDoor
