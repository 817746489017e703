/- errors.as at an error scope.broken and a target *scope.broken (after the kit's worked text ToyasAs; types 76, 78, 48, 132 and functions by number: seat of rows 13 and 22). -/
import Derived.Test.YtmgajcmigkcmdaaGreatDoorProg
import Derived.WalkKit
import Derived.LaidEql
import Derived.Stop.Asserts
import Derived.RowKitTokens
import Derived.KernelRfl
set_option linter.unusedVariables false
set_option linter.unusedSimpArgs false
set_option linter.unnecessarySimpa false
namespace Go.Apx.ErrAs
open Go Go.Apx Go.Proofs Go.RowKit Go.Extern.Stop Go.Stop Go.Extern
theorem valueOfP (t:Addr) (w:World):(ReflectliteValue.unpack (.iface 93 (.pointer (some t)))).run Tryz.prog w
 =.ok (.agg #[.pointer (some ⟨3,93,none⟩),.pointer (some ⟨w.heap.size,0,none⟩),.int .u64 150]) (w.alloc (.cells #[.pointer (some t)] 93)):=by kernel_rfl
theorem typeP (a:Addr) (w:World):(ReflectliteValue.methodAny (ReflectliteValue.valueError "reflectlite.Value.Type" 0) (fun t _ _ _=>ReflectliteType.toType t) #[.agg #[.pointer (some ⟨3,93,none⟩),.pointer (some a),.int .u64 150]]).run Tryz.prog w
 =.ok (.iface 142 (.agg #[.pointer (some ⟨3,93,none⟩)])) w:=by kernel_rfl
theorem methodElem (h:Value) (w:World):(Go.method 327 142 (.agg #[h]) "Elem").run Tryz.prog w=.ok (177,.agg #[h]) w:=by kernel_rfl
theorem methodImplements (h:Value) (w:World):(Go.method 327 142 (.agg #[h]) "Implements").run Tryz.prog w=.ok (178,.agg #[h]) w:=by kernel_rfl
theorem methodAssignableTo (h:Value) (w:World):(Go.method 327 142 (.agg #[h]) "AssignableTo").run Tryz.prog w=.ok (175,.agg #[h]) w:=by kernel_rfl
theorem methodKind (h:Value) (w:World):(Go.method 327 142 (.agg #[h]) "Kind").run Tryz.prog w=.ok (166,h) w:=by kernel_rfl
theorem kindP (w:World):((ReflectliteType.abiMethod fun t=>(fun a:Nat=>Value.int IntKind.u8 (a:Int)) <$> Rtype.kind t) #[.pointer (some ⟨3,93,none⟩)]).run Tryz.prog w=.ok (.int .u8 22) w:=by kernel_rfl
theorem kindS (w:World):((ReflectliteType.abiMethod fun t=>(fun a:Nat=>Value.int IntKind.u8 (a:Int)) <$> Rtype.kind t) #[.pointer (some ⟨3,91,none⟩)]).run Tryz.prog w=.ok (.int .u8 25) w:=by kernel_rfl
theorem elemP (w:World):(ReflectliteType.method ReflectliteType.elem #[.agg #[.pointer (some ⟨3,93,none⟩)]]).run Tryz.prog w=.ok (.iface 142 (.agg #[.pointer (some ⟨3,91,none⟩)])) w:=by kernel_rfl
theorem implementsS (w:World):(ReflectliteType.relation "Implements" ReflectliteType.implements_ #[.agg #[.pointer (some ⟨3,91,none⟩)],.iface 142 (.agg #[.pointer (some ⟨3,62,none⟩)])]).run Tryz.prog w=.ok (.bool true) w:=by kernel_rfl
theorem typeOfS (v:Value) (w:World):(ReflectliteType.typeOf #[.iface 91 v]).run Tryz.prog w=.ok (.iface 142 (.agg #[.pointer (some ⟨3,91,none⟩)])) w:=by kernel_rfl
theorem assignableS (w:World):(ReflectliteType.relation "AssignableTo" ReflectliteType.assignableTo #[.agg #[.pointer (some ⟨3,91,none⟩)],.iface 142 (.agg #[.pointer (some ⟨3,91,none⟩)])]).run Tryz.prog w=.ok (.bool true) w:=by kernel_rfl
theorem valueOfS (x y:Value) (w:World):(ReflectliteValue.unpack (.iface 91 (.agg #[x,y]))).run Tryz.prog w
 =.ok (.agg #[.pointer (some ⟨3,91,none⟩),.pointer (some ⟨w.heap.size,0,none⟩),.int .u64 153]) (w.alloc (.cells #[x,y] 91)):=by kernel_rfl
theorem elemOfP (w:World):(Rtype.elem? 93).run Tryz.prog w=.ok (some 91) w:=by kernel_rfl
theorem mkS (p:Addr) (w:World):(ReflectliteValue.mk 91 p ReflectliteValue.flagAddr).run Tryz.prog w=.ok (.agg #[.pointer (some ⟨3,91,none⟩),.pointer (some p),.int .u64 409]) w:=by kernel_rfl
theorem directS (w:World):(Rtype.directlyAssignable 91 91).run Tryz.prog w=.ok true w:=by kernel_rfl
theorem rlm (z:Sem Value) (f:TypeId -> Addr -> Nat -> Nat -> Sem Value) (v:Value) :
  ReflectliteValue.method z f #[v]=(do match <- ReflectliteValue.parts v with | none=>z | some (t,a,fl)=>f t a fl (fl % 32)):=rfl
theorem partsP (a:Addr) (w:World):(ReflectliteValue.parts (.agg #[.pointer (some ⟨3,93,none⟩),.pointer (some a),.int .u64 150])).run Tryz.prog w=.ok (some (93,a,150)) w:=by kernel_rfl
theorem isNilP (a p:Addr) (W:World) (ha:W.cell? a=some (.pointer (some p))) :
  (ReflectliteValue.method (ReflectliteValue.valueError "reflectlite.Value.IsNil" 0) ReflectliteValue.isNil #[.agg #[.pointer (some ⟨3,93,none⟩),.pointer (some a),.int .u64 150]]).run Tryz.prog W=.ok (.bool false) W:=by
 rw [rlm]
 simp only [Sem.run_bind,partsP,Result.andThen]
 simp [ReflectliteValue.isNil,loadVar,isAgg,underlying,Tryz.underlying93,ha,Result.andThen]
theorem elemVP (a p:Addr) (W:World) (ha:W.cell? a=some (.pointer (some p))) :
  (ReflectliteValue.method (ReflectliteValue.valueError "reflectlite.Value.Elem" 0) ReflectliteValue.elem #[.agg #[.pointer (some ⟨3,93,none⟩),.pointer (some a),.int .u64 150]]).run Tryz.prog W
  =.ok (.agg #[.pointer (some ⟨3,91,none⟩),.pointer (some p),.int .u64 409]) W:=by
 rw [rlm]
 simp only [Sem.run_bind,partsP,Result.andThen]
 simp [ReflectliteValue.elem,loadVar,isAgg,underlying,Tryz.underlying93,ha,Result.andThen,elemOfP,mkS]
theorem rls (v x:Value):ReflectliteValue.set #[v,x]=(do
  let (some (dst,a,fl),some (src,b,_)):=(<- ReflectliteValue.parts v,<- ReflectliteValue.parts x)
   | unsupported (.noEntry "extern/(internal/reflectlite.Value).Set.zeroValue")
  if fl / ReflectliteValue.flagAddr % 2 == 0 then unsupported (.noEntry "extern/(internal/reflectlite.Value).Set.unaddressable")
  let val <- loadVar src b
  if <- Rtype.directlyAssignable dst src then storeVar dst a val
  else if <- Rtype.implements dst src then
   if (<- Rtype.kind src) == 20 then
    match val with
    | .nilIface=>unsupported (.noEntry "extern/reflectlite: a nil value of one interface type handed on as a value of another")
    | _=>storeVar dst a val
   else storeVar dst a (.iface src val)
  else panicString ("reflectlite.Set: value of type "++(<- Rtype.spelt src)++" is not assignable to type "++(<- Rtype.spelt dst))
  pure (.tuple #[])):=rfl
theorem partsSa (a:Addr) (w:World):(ReflectliteValue.parts (.agg #[.pointer (some ⟨3,91,none⟩),.pointer (some a),.int .u64 409])).run Tryz.prog w=.ok (some (91,a,409)) w:=by kernel_rfl
theorem partsS (a:Addr) (w:World):(ReflectliteValue.parts (.agg #[.pointer (some ⟨3,91,none⟩),.pointer (some a),.int .u64 153])).run Tryz.prog w=.ok (some (91,a,153)) w:=by kernel_rfl
theorem setS (tb to bb:Nat) (x y o0 o1:Value) (W:World) (hx1:x.oneCell'=true) (hy1:y.oneCell'=true) (hb0:W.cell? ⟨bb,0,none⟩=some x) (hb1:W.cell? ⟨bb,1,none⟩=some y) (ht0:W.cell? ⟨tb,to,none⟩=some o0) (ht1:W.cell? ⟨tb,to+1,none⟩=some o1) (hf0:W.frozen? ⟨tb,to,none⟩=false) (hf1:W.frozen? ⟨tb,to+1,none⟩=false) :
  (ReflectliteValue.set #[.agg #[.pointer (some ⟨3,91,none⟩),.pointer (some ⟨tb,to,none⟩),.int .u64 409],.agg #[.pointer (some ⟨3,91,none⟩),.pointer (some ⟨bb,0,none⟩),.int .u64 153]]).run Tryz.prog W
  =.ok (.tuple #[]) ((W.setCell ⟨tb,to,none⟩ x).setCell ⟨tb,to+1,none⟩ y):=by
 have hl:(loadCells ⟨bb,0,none⟩ 2).run Tryz.prog W=.ok #[x,y] W:=by
  have:=run_loadCellsFrom (P:=Tryz.prog) (w:=W) ⟨bb,0,none⟩ (fun j=>if j=0 then x else y) 2 0 #[] (fun j hj=>by
   match j,hj with
   | 0,_=>simpa [Addr.add] using hb0
   | 1,_=>simpa [Addr.add] using hb1)
  simpa [loadCells,List.range_succ] using this
 have hc1:(W.setCell ⟨tb,to,none⟩ x).cell? ⟨tb,to+1,none⟩=some o1:=by
  have hne:(⟨tb,to,none⟩:Addr) ≠ ⟨tb,to+1,none⟩:=by simp
  have h0:=World.cell?_setCell_other (w:=W) (v:=x) (h:=hne)
  rw [h0]; exact ht1
 have hfr1:(W.setCell ⟨tb,to,none⟩ x).frozen? ⟨tb,to+1,none⟩=false:=by
  rw [World.frozen?_setCell]; exact hf1
 rw [rls]
 simp only [Sem.run_bind,partsSa,partsS,Result.andThen]
 simp [ReflectliteValue.flagAddr,loadVar,isAgg,underlying,Tryz.underlying91,Result.andThen,directS,storeVar,Value.cells,storeCells,Addr.add,hl]
 rw [run_store Tryz.prog W _ _ _ hx1]
 simp [ht0,hf0]
 rw [run_store Tryz.prog _ _ _ _ hy1]
 simp [hc1,hfr1]
end Go.Apx.ErrAs
