/- Library functions met by the shelf's contracts: where they stand in the program (by program). -/
import Derived.Test.YtdiemjjfkoccfaaGreatDoorGl
import Derived.Shelf.Strings.Builder1
set_option linter.unusedVariables false
set_option linter.unusedSimpArgs false
set_option linter.unnecessarySimpa false
namespace Go.Apx
open Go.Proofs Go.Shelf
set_option maxRecDepth 100000
def laysWS_ren:Ren :=
 {f:=fun x=>match x with | 166=>128 | 240=>149 | 276=>156 | n=>n,t:=fun x=>match x with | 37=>156 | 70=>155 | 72=>158 | 75=>160 | 80=>164 | 127=>179 | 164=>186 | 20=>20 | n=>n,g:=fun n=>n }
theorem laysWS:Lays.n166 PP laysWS_ren:={
 mixed:=mixed,
 f166:=Tryz.func128.trans (congrArg some (by kernel_rfl)),
 f240:=Tryz.func149.trans (congrArg some (by kernel_rfl)),
 f276:=Tryz.func156.trans (congrArg some (by kernel_rfl)),
 t0:=Tryz.underlying0,
 a0:=Tryz.isAgg0,
 z0:=Tryz.sizeOf0,
 v0:=Tryz.zeroValue0,
 t3:=Tryz.underlying3,
 a3:=Tryz.isAgg3,
 z3:=Tryz.sizeOf3,
 v3:=Tryz.zeroValue3,
 t4:=Tryz.underlying4,
 a4:=Tryz.isAgg4,
 z4:=Tryz.sizeOf4,
 v4:=Tryz.zeroValue4,
 t9:=Tryz.underlying9,
 a9:=Tryz.isAgg9,
 z9:=Tryz.sizeOf9,
 v9:=Tryz.zeroValue9,
 t20:=Tryz.underlying20,
 a20:=Tryz.isAgg20,
 z20:=Tryz.sizeOf20,
 v20:=Tryz.zeroValue20,
 t37:=Tryz.underlying156,
 a37:=Tryz.isAgg156,
 z37:=Tryz.sizeOf156,
 v37:=Tryz.zeroValue156,
 t70:=Tryz.underlying155,
 a70:=Tryz.isAgg155,
 z70:=Tryz.sizeOf155,
 v70:=Tryz.zeroValue155,
 t72:=Tryz.underlying158,
 a72:=Tryz.isAgg158,
 z72:=Tryz.sizeOf158,
 v72:=Tryz.zeroValue158,
 t75:=Tryz.underlying160,
 a75:=Tryz.isAgg160,
 z75:=Tryz.sizeOf160,
 v75:=Tryz.zeroValue160,
 t164:=Tryz.underlying186,
 a164:=Tryz.isAgg186,
 z164:=Tryz.sizeOf186,
 v164:=Tryz.zeroValue186 }
def laysBS_ren:Ren :=
 {f:=fun x=>match x with | 169=>130 | n=>n,t:=fun x=>match x with | 37=>156 | 70=>155 | 72=>158 | 75=>160 | 80=>164 | 127=>179 | 164=>186 | 20=>20 | n=>n,g:=fun n=>n }
theorem laysBS:Lays.n169 PP laysBS_ren:={
 mixed:=mixed,
 f169:=Tryz.func130.trans (congrArg some (by kernel_rfl)),
 t0:=Tryz.underlying0,
 a0:=Tryz.isAgg0,
 z0:=Tryz.sizeOf0,
 v0:=Tryz.zeroValue0,
 t3:=Tryz.underlying3,
 a3:=Tryz.isAgg3,
 z3:=Tryz.sizeOf3,
 v3:=Tryz.zeroValue3,
 t9:=Tryz.underlying9,
 a9:=Tryz.isAgg9,
 z9:=Tryz.sizeOf9,
 v9:=Tryz.zeroValue9,
 t37:=Tryz.underlying156,
 a37:=Tryz.isAgg156,
 z37:=Tryz.sizeOf156,
 v37:=Tryz.zeroValue156,
 t70:=Tryz.underlying155,
 a70:=Tryz.isAgg155,
 z70:=Tryz.sizeOf155,
 v70:=Tryz.zeroValue155,
 t72:=Tryz.underlying158,
 a72:=Tryz.isAgg158,
 z72:=Tryz.sizeOf158,
 v72:=Tryz.zeroValue158,
 t127:=Tryz.underlying179,
 a127:=Tryz.isAgg179,
 z127:=Tryz.sizeOf179,
 v127:=Tryz.zeroValue179 }
theorem laysWS_X:Builder.Extra PP laysWS_ren where
 sizeBuilder:=by kernel_rfl
 liesBuilder:=by kernel_rfl
 t5:=Tryz.underlying5
 a5:=Tryz.isAgg5
 z5:=Tryz.sizeOf5
 v5:=Tryz.zeroValue5
 infoByte:=by kernel_rfl
 cellsByte:=by kernel_rfl
 sizeByte:=by kernel_rfl
 neB5:=by decide
theorem laysBS_X:Builder.Extra PP laysBS_ren where
 sizeBuilder:=by kernel_rfl
 liesBuilder:=by kernel_rfl
 t5:=Tryz.underlying5
 a5:=Tryz.isAgg5
 z5:=Tryz.sizeOf5
 v5:=Tryz.zeroValue5
 infoByte:=by kernel_rfl
 cellsByte:=by kernel_rfl
 sizeByte:=by kernel_rfl
 neB5:=by decide
end Go.Apx
