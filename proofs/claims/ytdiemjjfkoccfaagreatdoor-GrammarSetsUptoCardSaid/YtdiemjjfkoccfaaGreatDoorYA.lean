/- Walks: the reference's insert. -/
import Derived.Test.YtdiemjjfkoccfaaGreatDoorXA
import Derived.Test.YtdiemjjfkoccfaaGreatDoorGC
set_option linter.unusedVariables false
set_option linter.unusedSimpArgs false
set_option linter.unnecessarySimpa false
section
namespace Go.Apx
open Go.Proofs
set_option maxRecDepth 4000
def sLt (a b:ByteArray):Prop:=bytesL a < bytesL b
instance (a b:ByteArray):Decidable (sLt a b):=inferInstanceAs (Decidable (bytesL a < bytesL b))
end Go.Apx
end
section
namespace Go.Apx
open Go.Proofs
structure Mks (g:Gr) (N X:List Bool):Prop where
 nul:∀ s,bU g.sorts s=true -> (mkF g N s=true ↔ Gn g s [])
 ful:∀ s,bU g.sorts s=true -> (mkF g X s=true ↔ ∃ w,Gn g s w)
section
variable {g:Gr} {N X:List Bool} {O:List (List ByteArray)}
end
end Go.Apx
end
section
namespace Go.Apx
open Go.Proofs
theorem mks_of {g:Gr} {N X:List Bool} (hin:bA g) (hN:MInv g false ⟨N,false⟩) (hX:MInv g true ⟨X,false⟩):Mks g N X:=by
 have gw:∀ {symb:Bool} {Z:List Bool},MInv g symb ⟨Z,false⟩ -> GrowS g (fun _=>symb) (bY g Z):=fun hZ=>⟨closed_marked hin (hZ.fix rfl),hZ.snd⟩
 refine ⟨fun s hs=>?_,fun s hs=>?_⟩
 .rw [<- mem_marked (has_mem hs),grow_iff (gw hN)]
  simp
 .rw [<- mem_marked (has_mem hs),grow_iff (gw hX)]
  simp
section
variable {g:Gr} {N X:List Bool} {O:List (List ByteArray)}
end
end Go.Apx
end
