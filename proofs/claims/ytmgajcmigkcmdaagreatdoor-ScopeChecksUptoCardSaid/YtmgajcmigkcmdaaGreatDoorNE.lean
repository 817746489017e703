/- errors.As at an error scope.broken and a target *scope.broken: true; the variable gets the error; four new blocks. -/
import Derived.Test.YtmgajcmigkcmdaaGreatDoorNB
set_option linter.unusedVariables false
set_option linter.unusedSimpArgs false
set_option linter.unnecessarySimpa false
namespace Go.Apx.ErrAs
open Go Go.Apx Go.Proofs Go.RowKit Go.Extern.Stop Go.Stop Go.Extern
set_option maxRecDepth 100000 in
set_option maxHeartbeats 4000000 in
theorem As_c (x y o0 o1:Value) (tb to:Nat) (w:World) (hx1:x.oneCell'=true) (hy1:y.oneCell'=true) (hg:w.cell? ⟨0,0,none⟩=some (.iface 142 (.agg #[.pointer (some ⟨3,62,none⟩)]))) (ht0:w.cell? ⟨tb,to,none⟩=some o0) (ht1:w.cell? ⟨tb,to+1,none⟩=some o1) (hf0:w.frozen? ⟨tb,to,none⟩=false) (hf1:w.frozen? ⟨tb,to+1,none⟩=false) :
  Calls Tryz.prog 46 #[.iface 91 (.agg #[x,y]),.iface 93 (.pointer (some ⟨tb,to,none⟩))] w fun ev w'=>ev=.returned (.bool true) /\ w'=((((((w.alloc (.cells #[.pointer (some ⟨tb,to,none⟩)] 93)).alloc (.cells #[.pointer (some ⟨3,93,none⟩),.pointer (some ⟨w.heap.size,0,none⟩),.int .u64 150] 110)).alloc (.cells #[.pointer (some ⟨3,93,none⟩),.pointer (some ⟨w.heap.size,0,none⟩),.int .u64 150] 110)).alloc (.cells #[x,y] 91)).setCell ⟨tb,to,none⟩ x).setCell ⟨tb,to+1,none⟩ y):=by
 have h60:=@run_callFunc_extern Tryz.prog 65 _ (fun args=>ReflectliteValue.unpack (args.getD 0 (.tuple #[]))) Tryz.func65 (by kernel_rfl) (by kernel_rfl) (by kernel_rfl) (by kernel_rfl)
 have h61:=@run_callFunc_extern Tryz.prog 66 _ (ReflectliteValue.methodAny (ReflectliteValue.valueError "reflectlite.Value.Type" 0) (fun t _ _ _=>ReflectliteType.toType t)) Tryz.func66 (by kernel_rfl) (by kernel_rfl) (by kernel_rfl) (by kernel_rfl)
 have h62:=@run_callFunc_extern Tryz.prog 67 _ (ReflectliteValue.method (ReflectliteValue.valueError "reflectlite.Value.IsNil" 0) ReflectliteValue.isNil) Tryz.func67 (by kernel_rfl) (by kernel_rfl) (by kernel_rfl) (by kernel_rfl)
 have h133:=@run_callFunc_extern Tryz.prog 166 _ (ReflectliteType.abiMethod fun t=>do pure (.int .u8 (<- Rtype.kind t))) Tryz.func166 (by kernel_rfl) (by kernel_rfl) (by kernel_rfl) (by kernel_rfl)
 have h144:=@run_callFunc_extern Tryz.prog 177 _ (ReflectliteType.method ReflectliteType.elem) Tryz.func177 (by kernel_rfl) (by kernel_rfl) (by kernel_rfl) (by kernel_rfl)
 have h145:=@run_callFunc_extern Tryz.prog 178 _ (ReflectliteType.relation "Implements" ReflectliteType.implements_) Tryz.func178 (by kernel_rfl) (by kernel_rfl) (by kernel_rfl) (by kernel_rfl)
 have lt:∀ (a:Addr) (v:Value),w.cell? a=some v -> a.block < w.heap.size:=fun a v h=>by
  rcases Nat.lt_or_ge a.block w.heap.size with h1 | h1
  .exact h1
  .simp [World.cell?,Array.getElem?_eq_none h1] at h
 obtain ⟨w1,hw1⟩:∃ w1,w1=w.alloc (.cells #[.pointer (some ⟨tb,to,none⟩)] 93):=⟨_,rfl⟩
 have hs1:w1.heap.size=w.heap.size+1:=by rw [hw1]; simp
 obtain ⟨w2,hw2⟩:∃ w2,w2=w1.alloc (.cells #[.pointer (some ⟨3,93,none⟩),.pointer (some ⟨w.heap.size,0,none⟩),.int .u64 150] 110):=⟨_,rfl⟩
 have old:∀ (a:Addr) (v:Value),w.cell? a=some v -> w2.cell? a=some v:=fun a v h=>by
  have h1:=lt a v h
  rw [hw2,World.cell?_alloc_lt _ _ a (by omega),hw1,World.cell?_alloc_lt _ _ a h1]; exact h
 have oldf:∀ (a:Addr) (v:Value),w.cell? a=some v -> w2.frozen? a=w.frozen? a:=fun a v h=>by
  have h1:=lt a v h
  rw [hw2,World.frozen?_alloc_old _ _ a (by omega),hw1,World.frozen?_alloc_old _ _ a (Nat.ne_of_lt h1)]
 have hc2:w2.cell? ⟨w.heap.size,0,none⟩=some (.pointer (some ⟨tb,to,none⟩)):=by
  rw [hw2,World.cell?_alloc_lt _ _ _ (by simp only; omega),hw1,World.cell?_alloc_at _ _ _ _ rfl]; rfl
 have n8:=isNilP ⟨w.heap.size,0,none⟩ ⟨tb,to,none⟩ w2 hc2
 have hg2:=old _ _ hg
 have hs2:w2.heap.size=w.heap.size+1+1:=by rw [hw2]; simp [hs1]
 obtain ⟨w3,hw3⟩:∃ w3,w3=w2.alloc (.cells #[.pointer (some ⟨3,93,none⟩),.pointer (some ⟨w.heap.size,0,none⟩),.int .u64 150] 110):=⟨_,rfl⟩
 have hs3:w3.heap.size=w.heap.size+1+1+1:=by rw [hw3]; simp [hs2]
 have old3:∀ (a:Addr) (v:Value),a.block < w2.heap.size -> w2.cell? a=some v -> w3.cell? a=some v:=fun a v h1 h=>by rw [hw3,World.cell?_alloc_lt _ _ a h1]; exact h
 have el:=elemVP ⟨w.heap.size,0,none⟩ ⟨tb,to,none⟩ w3 (old3 _ _ (by simp only; omega) hc2)
 have st:=setS tb to (w.heap.size+1+1+1) x y o0 o1 (w3.alloc (.cells #[x,y] 91)) hx1 hy1 (by rw [World.cell?_alloc_at _ _ _ _ (by simp only [hs3])]; rfl) (by rw [World.cell?_alloc_at _ _ _ _ (by simp only [hs3])]; rfl)
  (by have:=lt _ _ ht0; rw [World.cell?_alloc_lt _ _ _ (by simp only at this ⊢; omega)]; exact old3 _ _ (by simp only at this ⊢; omega) (old _ _ ht0)) (by have:=lt _ _ ht1; rw [World.cell?_alloc_lt _ _ _ (by simp only at this ⊢; omega)]; exact old3 _ _ (by simp only at this ⊢; omega) (old _ _ ht1))
  (by have:=lt _ _ ht0; rw [World.frozen?_alloc_old _ _ _ (by simp only at this ⊢; omega),hw3,World.frozen?_alloc_old _ _ _ (by simp only at this ⊢; omega),oldf _ _ ht0]; exact hf0) (by have:=lt _ _ ht1; rw [World.frozen?_alloc_old _ _ _ (by simp only at this ⊢; omega),hw3,World.frozen?_alloc_old _ _ _ (by simp only at this ⊢; omega),oldf _ _ ht1]; exact hf1)
 have vS:=valueOfS x y w3
 rw [hs3] at vS
 rw [hw3,hw2,hw1] at el st vS
 rw [hw2,hw1] at n8 hg2
 have h86:=@run_callFunc_extern Tryz.prog 93 _ ReflectliteType.typeOf Tryz.func93 (by kernel_rfl) (by kernel_rfl) (by kernel_rfl) (by kernel_rfl)
 have h142:=@run_callFunc_extern Tryz.prog 175 _ (ReflectliteType.relation "AssignableTo" ReflectliteType.assignableTo) Tryz.func175 (by kernel_rfl) (by kernel_rfl) (by kernel_rfl) (by kernel_rfl)
 have h87:=@run_callFunc_extern Tryz.prog 94 _ (ReflectliteValue.method (ReflectliteValue.valueError "reflectlite.Value.Elem" 0) ReflectliteValue.elem) Tryz.func94 (by kernel_rfl) (by kernel_rfl) (by kernel_rfl) (by kernel_rfl)
 have h88:=@run_callFunc_extern Tryz.prog 95 _ ReflectliteValue.set Tryz.func95 (by kernel_rfl) (by kernel_rfl) (by kernel_rfl) (by kernel_rfl)
 have tO:=typeOfS
 have mA:=methodAssignableTo
 have aS:=assignableS
 have f6:=valueOfP
 have f7:=typeP
 have mK:=methodKind
 have mE:=methodElem
 have mI:=methodImplements
 have kP:=kindP
 have kS:=kindS
 have eP:=elemP
 have iS:=implementsS
 go_enter Tryz.func46,Tryz.ntmps46
 go_wp2
 refine wp_loop_rounds 1 ?_
 rw [rounds_succ]
 go_wp2
 go_ret
 exact ⟨rfl,rfl⟩
end Go.Apx.ErrAs
