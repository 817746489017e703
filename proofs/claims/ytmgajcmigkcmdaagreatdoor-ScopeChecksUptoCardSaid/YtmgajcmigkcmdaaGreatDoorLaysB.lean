/- The library functions that are met by the shelf's contracts: where they stand in the program (by program). -/
import Derived.Test.YtmgajcmigkcmdaaGreatDoorGl
import Derived.Shelf.Sort.Plain
import Derived.Shelf.Slices.In.SortNone
import Derived.Shelf.Slices.In.CompactS
import Derived.Shelf.Strings.Search1
set_option linter.unusedVariables false
set_option linter.unusedSimpArgs false
set_option linter.unnecessarySimpa false
namespace Go.Apx
open Go.Proofs Go.Shelf
set_option maxRecDepth 100000
def laysIB_ren:Ren :=
 {f:=fun x=>match x with | 217=>150 | 266=>151 | n=>n,t:=fun x=>match x with | 9=>9 | 5=>5 | 3=>3 | n=>n,g:=fun x=>have n:=x; n }
theorem laysIB:Lays.n217 PP laysIB_ren:={
 mixed:=Eq.refl Bool.true,
 f217:=Tryz.func150.trans (congrArg some (by kernel_rfl)),
 f266:=Tryz.func151.trans (congrArg some (by kernel_rfl)),
 t3:=Tryz.underlying3,
 a3:=Tryz.isAgg3,
 z3:=Tryz.sizeOf3,
 v3:=Tryz.zeroValue3,
 t5:=Tryz.underlying5,
 a5:=Tryz.isAgg5,
 z5:=Tryz.sizeOf5,
 v5:=Tryz.zeroValue5,
 t9:=Tryz.underlying9,
 a9:=Tryz.isAgg9,
 z9:=Tryz.sizeOf9,
 v9:=Tryz.zeroValue9 }
end Go.Apx
