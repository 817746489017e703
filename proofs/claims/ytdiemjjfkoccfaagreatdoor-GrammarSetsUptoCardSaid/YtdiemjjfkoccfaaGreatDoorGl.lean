/- The program. -/
import Derived.Test.YtdiemjjfkoccfaaGreatDoorAmE
import Derived.Test.YtdiemjjfkoccfaaGreatDoorProg
import Derived.KernelRfl
set_option linter.unusedVariables false
set_option linter.unusedSimpArgs false
set_option linter.unnecessarySimpa false
namespace Go.Apx
open Go.Proofs
set_option maxRecDepth 100000
noncomputable abbrev PP:Program:=Tryz.prog
def Gl:Globs:=fun _=>none
theorem mixed:PP.follows .mixedOrders=true:=by kernel_rfl
end Go.Apx
