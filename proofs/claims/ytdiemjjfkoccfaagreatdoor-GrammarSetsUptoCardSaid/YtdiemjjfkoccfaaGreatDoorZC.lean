/- Walks: the reference's joined. -/
import Derived.Test.YtdiemjjfkoccfaaGreatDoorZB
set_option linter.unusedVariables false
set_option linter.unusedSimpArgs false
set_option linter.unnecessarySimpa false
section
namespace Go.Apx
open Go.Proofs
set_option maxRecDepth 4000
structure J1 where
 i:Nat
 H:AHeap
end Go.Apx
end
section
namespace Go.Apx
open Go.Proofs
set_option maxRecDepth 4000
theorem rInv_conv {g:Gr} {s:ByteArray} {X:List Bool} (h:RInv (bK g) s X):RInv g s X:=by
 refine ⟨h.len,h.me,fun y hy hm C c1 c2=>h.snd y hy hm C c1 fun R hR hs p hp hne=>?_⟩
 obtain ⟨Q,hQ,rfl⟩:=List.mem_map.1 hR
 exact c2 Q hQ hs p hp hne
theorem fixR_conv {g:Gr} {X:List Bool} (h:FixR (bK g) X):FixR g X:=fun R hR hm p hp hne=>h (convR R) (List.mem_map.2 ⟨R,hR,rfl⟩) hm p hp hne
end Go.Apx
end
