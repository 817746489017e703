/- Walks: the reference's firsts. -/
import Derived.Test.YtdiemjjfkoccfaaGreatDoorYA
import Derived.Test.YtdiemjjfkoccfaaGreatDoorGC
set_option linter.unusedVariables false
set_option linter.unusedSimpArgs false
set_option linter.unnecessarySimpa false
namespace Go.Apx
open Go.Proofs
set_option maxRecDepth 4000
theorem mkF_get {g:Gr} {X:List Bool} {s:ByteArray} {q:Nat} (hX:X.length=g.sorts.length) (hq:aw g.sorts s=(q:Int)) (hql:q < g.sorts.length):X[q]?=some (mkF g X s):=by
 unfold mkF
 rw [hq,List.getD_eq_getElem?_getD]
 have:X[q]?=some X[q]:=by simp [hX,hql]
 simp only [Int.toNat_natCast,this]; rfl
end Go.Apx
