/- Walk: the law ScopeWraps. -/
import Derived.Test.YtmgajcmigkcmdaaGreatDoorQB
import Derived.Test.YtmgajcmigkcmdaaGreatDoorND
import Derived.Test.YtmgajcmigkcmdaaGreatDoorAmD
set_option linter.unusedVariables false
set_option linter.unusedSimpArgs false
set_option linter.unnecessarySimpa false
section
namespace Go.Apx
open Go.Proofs Go.Shelf
set_option maxRecDepth 4000
def CapOk (s:St):Prop:=(s.tc ≠ .any -> s.tc=.nil) /\ (s.pc ≠ .any -> s.pc=.nil)
end Go.Apx
end
section
namespace Go.Apx
open Go.Proofs
theorem sts_cap {l:List St} (h:∀ s ∈ l,StOk s):∀ s ∈ l,CapOk s:=fun s hs =>
 ⟨fun e=>(h s hs).2.1.elim (fun a=>(e a).elim) And.left,fun e=>(h s hs).2.2.elim (fun a=>(e a).elim) And.left⟩
end Go.Apx
end
