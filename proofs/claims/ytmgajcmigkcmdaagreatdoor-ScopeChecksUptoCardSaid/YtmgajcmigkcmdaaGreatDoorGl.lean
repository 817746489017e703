/- The program, its known variables. -/
import Derived.Test.YtmgajcmigkcmdaaGreatDoorAmE
import Derived.Test.YtmgajcmigkcmdaaGreatDoorProg
import Derived.KernelRfl
set_option linter.unusedVariables false
set_option linter.unusedSimpArgs false
set_option linter.unnecessarySimpa false
namespace Go.Apx
open Go.Proofs
set_option maxRecDepth 100000
noncomputable abbrev PP:Program:=Tryz.prog
def formT:List (ByteArray × Bool × Nat × Nat):=[
 (⟨#[]⟩,false,0,0),
 (⟨#[36,99]⟩,false,1,200),
 (⟨#[36,118]⟩,false,1,200),
 (⟨#[36,102]⟩,true,2,2),
 (⟨#[36,101]⟩,true,1,200),
 (⟨#[36,100]⟩,false,1,200),
 (⟨#[36,97]⟩,true,1,200),
 (⟨#[36,112]⟩,true,1,200),
 (⟨#[36,123]⟩,false,0,0),
 (⟨#[36,125]⟩,false,0,0)]
def formA:AV:=.ip (.agg (formT.flatMap fun x=>[AV.sc (.string x.1),.sc (.bool x.2.1),.sc (.int .i64 (x.2.2.1:Int)),.sc (.int .i64 (x.2.2.2:Int))]))
def errT:AV:=.ip (.ifc 142 (.agg [.sc (.pointer (some ⟨3,62,none⟩))]))
def Gl:Globs:=fun n=>if n=1 then some formA else if n=0 then some errT else none
theorem mixed:PP.follows .mixedOrders=true:=by kernel_rfl
end Go.Apx
