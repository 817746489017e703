/- Plain law: lists of expressions in strict order, with one more. -/
import Derived.Test.YtdiemjjfkoccfaaGreatDoorZA
set_option linter.unusedVariables false
set_option linter.unusedSimpArgs false
set_option linter.unnecessarySimpa false
section
namespace Go.Apx
open Go.Proofs
set_option maxRecDepth 4000
def encVc (c:Cap) (w:W):AV:=.sl 1 (w.map sv) c
abbrev encV (w:W):AV:=encVc .any w
def encL (l:List W):AV:=aW 1 (l.map encV)
@[simp] theorem one_encVc (c:Cap) (w:W):(encVc c w).one=true:=rfl
@[simp] theorem isPend_encVc (c:Cap) (w:W):(encVc c w).isPend=false:=rfl
@[simp] theorem cells_encVc (c:Cap) (w:W):(encVc c w).cells=[encVc c w]:=rfl
@[simp] theorem one_encL (l:List W):(encL l).one=true:=one_grown _ _
@[simp] theorem isPend_encL (l:List W):(encL l).isPend=false:=isPend_grown _ _
@[simp] theorem cells_encL (l:List W):(encL l).cells=[encL l]:=cells_grown _ _
end Go.Apx
end
