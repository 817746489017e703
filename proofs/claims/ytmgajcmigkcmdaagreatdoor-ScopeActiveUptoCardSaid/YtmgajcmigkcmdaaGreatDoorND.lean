/- Walks: slices.Equal at strings and at pairs. -/
import Derived.Test.YtmgajcmigkcmdaaGreatDoorCode
import Derived.Test.YtmgajcmigkcmdaaGreatDoorAmC
import Derived.Test.YtmgajcmigkcmdaaGreatDoorNA
import Derived.Test.YtmgajcmigkcmdaaGreatDoorAw
section
namespace Go.Apx
open Go.Proofs
set_option linter.unusedVariables false
set_option linter.unusedSimpArgs false
set_option linter.unnecessarySimpa false
set_option maxRecDepth 4000
abbrev Pr:=ByteArray × ByteArray
def encP (p : Pr) : AV:=.agg [sv p.1,sv p.2]
@[simp] theorem isPend_encP (p : Pr) : (encP p).isPend = false:=rfl
@[simp] theorem cells_encP (p : Pr) : (encP p).cells = [sv p.1,sv p.2]:=rfl
theorem pur_encP (p : Pr) : (encP p).pur = true:=rfl
end Go.Apx
end
section
namespace Go.Apx
open Go.Proofs
set_option linter.unusedVariables false
set_option linter.unusedSimpArgs false
set_option linter.unnecessarySimpa false
set_option maxRecDepth 4000
structure St where
 kind : Int
 label : ByteArray
 text : List ByteArray
 proof : List ByteArray
 tc : Cap
 pc : Cap
def encSt (s : St) : AV:=.agg [i64 s.kind,.sc (.string s.label),.sl 1 (s.text.map sv) s.tc,.sl 1 (s.proof.map sv) s.pc]
@[simp] theorem isPend_encSt (s : St) : (encSt s).isPend = false:=rfl
@[simp] theorem one_encSt (s : St) : (encSt s).one = false:=rfl
end Go.Apx
end
section
namespace Go.Apx
open Go.Proofs
set_option linter.unusedVariables false
set_option linter.unusedSimpArgs false
set_option linter.unnecessarySimpa false
set_option maxRecDepth 4000
theorem awake_c {h : AHeap} : AEx PP Gl 9 [] h (.ret (.sc (.bool true))) h:=KOk.at aw_root rfl rfl
end Go.Apx
end
