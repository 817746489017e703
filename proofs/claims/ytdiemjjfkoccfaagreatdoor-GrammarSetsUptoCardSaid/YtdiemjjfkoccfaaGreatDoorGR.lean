/- The laid variables; a world in which they hold what is laid. -/
import Derived.Test.YtdiemjjfkoccfaaGreatDoorPF
import Derived.LaidHandle
import Derived.Lib.SmallJoins
import Derived.Test.YtdiemjjfkoccfaaGreatDoorCards
import Derived.Test.YtdiemjjfkoccfaaGreatDoorTie
set_option linter.unusedVariables false
set_option linter.unusedSimpArgs false
set_option linter.unnecessarySimpa false
namespace Go.Apx
open Go.Proofs
open Go.ChangeShapes Go.WideShapes Go.ChangeAt Go.RowKit
set_option maxRecDepth 100000
def laidL:List (String × DataW Unit):=[("math/bits.deBruijn32tab",YtdiemjjfkoccfaaGreatDoor.Rows.laid_math_bits_deBruijn32tab),("math/bits.deBruijn64tab",YtdiemjjfkoccfaaGreatDoor.Rows.laid_math_bits_deBruijn64tab),("internal/strconv.uint64pow10",YtdiemjjfkoccfaaGreatDoor.Rows.laid_internal_strconv_uint64pow10)]
def u8s (l:List Int):Array Value:=(l.map fun n=>Value.int .u8 n).toArray
def u64s (l:List Int):Array Value:=(l.map fun n=>Value.int .u64 n).toArray
noncomputable def laidWorld (os:Os):World :=
 {World.holding PP os ⟨#[],#[],[]⟩ with
  heap:=(((World.holding PP os ⟨#[],#[],[]⟩).heap.modify 1 fun
   | .cells _ t frozen=>.cells (u8s [0,1,28,2,29,14,24,3,30,22,20,15,25,17,4,8,31,27,13,23,21,19,16,7,26,12,18,6,11,5,10,9]) t frozen
   | o=>o).modify 2 fun
   | .cells _ t frozen=>.cells (u8s [0,1,56,2,57,49,28,3,61,58,42,50,38,29,17,4,62,47,59,36,45,43,51,22,53,39,33,30,24,18,12,5,63,55,48,27,60,41,37,16,46,35,44,21,52,32,23,11,54,26,40,15,34,20,31,10,25,14,19,9,13,8,7,6]) t frozen
   | o=>o).modify 0 (fun
   | .cells _ t frozen=>.cells (u64s [1,10,100,1000,10000,100000,1000000,10000000,100000000,1000000000,10000000000,100000000000,1000000000000,10000000000000,100000000000000,1000000000000000,10000000000000000,100000000000000000,1000000000000000000,10000000000000000000]) t frozen
   | o=>o) }
theorem laid_met (os:Os) (args:Array Value):laidMetH PP laidL ((laidWorld os).forCall (fun _ _=>0) ⟨#[],args,[]⟩).memory :=
 laidMetH_of_parts (laidMet_of_run' 8 (by kernel_rfl) (by kernel_rfl)) (by kernel_rfl)
end Go.Apx
