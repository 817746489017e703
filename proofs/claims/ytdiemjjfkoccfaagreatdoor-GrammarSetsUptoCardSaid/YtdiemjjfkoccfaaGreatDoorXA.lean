/- Walk: the law GrammarAgrees. -/
import Derived.Test.YtdiemjjfkoccfaaGreatDoorJB
set_option linter.unusedVariables false
set_option linter.unusedSimpArgs false
set_option linter.unnecessarySimpa false
section
namespace Go.Apx
open Go.Proofs
set_option maxRecDepth 4000
section
variable {g:Gr} (G:GrOk g) {s:ByteArray} (hs:bU g.sorts s=true) {h:AHeap} (hc:AEx PP Gl 23 [aM g] h (.ret (i64 (aO g))) h)
include G
theorem GrOk.pl:∀ R ∈ g.rules,R.parts.length <= 2 ^ 31:=fun R hR=>by have:=G.parts R hR; omega
include hs hc
omit hs in
omit hs in
end
end Go.Apx
end
section
namespace Go.Apx
open Go.Proofs
set_option maxRecDepth 4000
theorem grown_sl (l:List AV):∃ k c,aW 1 l=.sl k l c /\ (l ≠ [] -> k=1):=by
 cases l with
 | nil=>exact ⟨0,.nil,rfl,fun h=>(h rfl).elim⟩
 | cons a r=>exact ⟨1,.any,rfl,fun _=>rfl⟩
end Go.Apx
end
