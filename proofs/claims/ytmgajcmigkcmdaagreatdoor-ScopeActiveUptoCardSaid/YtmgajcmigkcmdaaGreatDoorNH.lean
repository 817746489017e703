/- Walks: the reference's less, put, Pairs, Join. -/
import Derived.Test.YtmgajcmigkcmdaaGreatDoorNG
namespace Go.Apx
open Go.Proofs Go.Shelf
set_option linter.unusedVariables false
set_option linter.unusedSimpArgs false
set_option linter.unnecessarySimpa false
set_option maxRecDepth 4000
structure PuS where
 i : Nat
end Go.Apx
