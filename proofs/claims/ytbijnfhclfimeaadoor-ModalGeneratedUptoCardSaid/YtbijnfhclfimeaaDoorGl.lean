/- The program, its known variables. -/
import Derived.Test.YtbijnfhclfimeaaDoorAmE
import Derived.Test.YtbijnfhclfimeaaDoorProg
import Derived.KernelRfl
namespace Go.Apx
open Go.Proofs
set_option maxRecDepth 100000
noncomputable abbrev PP : Program := Tryd.prog
def u8s (l : List Nat) : AV := .ip (.agg (l.map fun (n : Nat) => AV.sc (.int .u8 (n : Int))))
def tab64 : List Nat := [0, 1, 56, 2, 57, 49, 28, 3, 61, 58, 42, 50, 38, 29, 17, 4, 62, 47, 59, 36, 45, 43, 51, 22, 53, 39, 33, 30, 24, 18, 12, 5, 63, 55, 48, 27, 60, 41, 37, 16, 46, 35, 44, 21, 52, 32, 23, 11, 54, 26, 40, 15, 34, 20, 31, 10, 25, 14, 19, 9, 13, 8, 7, 6]
/-- The known variables. -/
def Gl : Globs := fun n => if n = 1 then some (u8s tab64) else none
theorem mixed : PP.follows .mixedOrders = true := by kernel_rfl
end Go.Apx
