/- Walks: the ways in which parts lie, by the reference. -/
import Derived.Test.YtldhfkfncgnbmaaPA
import Derived.Test.YtldhfkfncgnbmaaEB
set_option linter.unusedVariables false
set_option linter.unusedSimpArgs false
set_option linter.unnecessarySimpa false
section
namespace Go.Apx
open Go.Proofs
set_option maxRecDepth 4000
theorem appFull0 {C:Cx} {k b:Nat} {x y:Opd} {d:Option Nat} {env:Env} {H:AHeap} {K:Env -> AHeap -> Prop} (es:List AV) (hx:evalOpd C.G env x=some (.sl k es .full)) (hy:(evalOpd C.G env y).bind (elems H k)=some [])
  (hK:K (putD env d (.sl k es .full)) H):appW C k b x y d env H K:=by
 unfold appW
 have he:evalOp C.G env H (.append k b x y)=some (.sl k es .full,H):=by
  simp only [evalOp,hx,hy]; simp
 rw [he]; exact hK
theorem appFull {C:Cx} {k b:Nat} {x y:Opd} {d:Option Nat} {env:Env} {H:AHeap} {K:Env -> AHeap -> Prop} (es xs:List AV) (hx:evalOpd C.G env x=some (.sl k es .full)) (hy:(evalOpd C.G env y).bind (elems H k)=some xs) (hne:xs ≠ []) (hm:es.length+xs.length <= maxLenA)
  (hK:K (putD env d (.sl k (es++xs) (.tok H.length))) (H++[.tok (es.length+xs.length)])):appW C k b x y d env H K:=by
 unfold appW
 have he:evalOp C.G env H (.append k b x y)=some (.sl k (es++xs) (.tok H.length),H++[.tok (es.length+xs.length)]):=by
  simp only [evalOp,hx,hy]; simp [hne,hm]
 rw [he]; exact hK
end Go.Apx
end
section
namespace Go.Apx
open Go.Proofs
set_option maxRecDepth 4000
def askedF (g:Gr) (s:ByteArray) (tx:List ByteArray):Int:=if checkF g ≠ 0 then checkF g else if hasF g.sorts s=false then 5 else if tx.length > 200 then 4 else 0
theorem asked_c (g:Gr) (s:ByteArray) (tx:List ByteArray) (tc:Cap) {h:AHeap} (hs:g.sorts.length <= 2 ^ 31) (hc:AEx PP Gl 47 [encG g] h (.ret (i64 (checkF g))) h) :
  AEx PP Gl 28 [encG g,.sc (.string s),.sl 1 (tx.map sv) tc] h (.ret (i64 (askedF g s tx))) h:=by
 refine enter_earley_asked (by simp) ?_
 simp -implicitDefEqProofs [code_earley_asked,res_earley_asked,ann_earley_asked,encG]
 refine callk hc (by simp [encG]) rfl ?_
 by_cases h1:checkF g=0
 .rw [h1]
  simp -implicitDefEqProofs
  refine callk (contains_c g.sorts g.sc s hs) rfl rfl ?_
  cases h2:hasF g.sorts s with
  | false =>
   simp -implicitDefEqProofs
   exact retE (by simp [deferred,dslot]) rfl (by simp [askedF,h1,h2]) rfl
  | true =>
   simp -implicitDefEqProofs
   refine ⟨fun h3=>?_,fun h3=>?_⟩
   .have h3':tx.length > 200:=by omega
    exact retE (by simp [deferred,dslot]) rfl (by simp [askedF,h1,h2,h3']) rfl
   .have h3':¬ tx.length > 200:=by omega
    exact retE (by simp [deferred,dslot]) rfl (by simp [askedF,h1,h2]; omega) rfl
 .simp -implicitDefEqProofs [h1]
  exact retE (by simp [deferred,dslot]) rfl (by simp [askedF,h1]) rfl
end Go.Apx
end
section
namespace Go.Apx
open Go.Proofs
set_option maxRecDepth 4000
structure Sp where
 s:ByteArray
 i:Nat
 j:Nat
deriving DecidableEq
structure Wy where
 r:Nat
 o:Nat
 kids:List Nat
def i64s (l:List Nat):List AV:=l.map fun (n:Nat)=>i64 (n:Int)
def numSp (L:List Sp) (x:Sp):List Sp × Nat:=match L.findIdx? (fun y=>decide (y=x)) with
 | some k=>(L,k)
 | none=>(L++[x],L.length)
theorem numSp_le (L:List Sp) (x:Sp):(numSp L x).1.length <= L.length+1:=by
 unfold numSp; split <;> simp
def apG (H:AHeap) (n T:Nat):AHeap:=if n=0 then H++[.tok 1] else H.set T (.tok (n+1))
def apT (H:AHeap) (n T:Nat):Nat:=if n=0 then H.length else T
theorem appG {C:Cx} {k b:Nat} {x y:Opd} {d:Option Nat} {env:Env} {H:AHeap} {K:Env -> AHeap -> Prop} (es:List AV) (v:AV) (T:Nat) (hx:evalOpd C.G env x=some (apd k es T)) (hy:(evalOpd C.G env y).bind (elems H k)=some [v])
  (hT:es ≠ [] -> H[T]?=some (.tok es.length)) (hm:es.length+1 <= maxLenA) (hK:K (putD env d (apd k (es++[v]) (apT H es.length T))) (apG H es.length T)):appW C k b x y d env H K:=by
 cases es with
 | nil =>
  refine appNil v hx hy ?_
  simpa [apG,apT] using hK
 | cons a es =>
  refine appTok (a :: es) v T hx hy (hT (by simp)) hm ?_
  simpa [apG,apT] using hK
theorem apG_tok {H:AHeap} {n T:Nat} (hT:n ≠ 0 -> ∃ m,H[T]?=some (.tok m)):(apG H n T)[apT H n T]?=some (.tok (n+1)):=by
 unfold apG apT
 by_cases hn:n=0
 .simp [hn]
 .obtain ⟨m,hm⟩:=hT hn
  rw [if_neg hn,if_neg hn,List.getElem?_set_self (List.getElem?_eq_some_iff.1 hm).1]
theorem apG_keep {H:AHeap} {n T:Nat} (hT:n ≠ 0 -> ∃ m,H[T]?=some (.tok m)) {z:Nat} {x:AObj} (hz:H[z]?=some x) (hx:∀ m,x ≠ .tok m):(apG H n T)[z]?=some x:=by
 unfold apG
 by_cases hn:n=0
 .rw [if_pos hn,List.getElem?_append_left (List.getElem?_eq_some_iff.1 hz).1]; exact hz
 .rw [if_neg hn]
  obtain ⟨m,hm⟩:=hT hn
  rw [List.getElem?_set_ne]
  .exact hz
  .rintro rfl; rw [hm] at hz; exact hx m (Option.some.inj hz).symm
theorem apG_keep' {H:AHeap} {n T:Nat} {z:Nat} {x:AObj} (hz:H[z]?=some x) (hzT:n ≠ 0 -> z ≠ T):(apG H n T)[z]?=some x:=by
 unfold apG
 by_cases hn:n=0
 .rw [if_pos hn,List.getElem?_append_left (List.getElem?_eq_some_iff.1 hz).1]; exact hz
 .rw [if_neg hn,List.getElem?_set_ne (fun e=>hzT hn e.symm)]; exact hz
theorem apG_len (H:AHeap) (n T:Nat):H.length <= (apG H n T).length:=by unfold apG; split <;> simp
end Go.Apx
end
section
namespace Go.Apx
open Go.Proofs
set_option maxRecDepth 4000
def startP (i0:Nat) (sp:List Nat) (p:Nat):Nat:=if p=0 then i0 else sp.getD (p - 1) 0
def runW {C W:Type} (way:List Sp -> C -> List Sp × W) (st:List Sp × List W) (l:List C):List Sp × List W:=l.foldl (fun st c=>((way st.1 c).1,st.2++[(way st.1 c).2])) st
theorem runW_append {C W:Type} (way:List Sp -> C -> List Sp × W) (st:List Sp × List W) (l l':List C):runW way st (l++l')=runW way (runW way st l) l':=by simp [runW,List.foldl_append]
theorem runW_one {C W:Type} (way:List Sp -> C -> List Sp × W) (st:List Sp × List W) (c:C):runW way st [c]=((way st.1 c).1,st.2++[(way st.1 c).2]):=rfl
def packStep {C W:Type} (cand:Sp -> List C) (way:Sp -> List Sp -> C -> List Sp × W) (st:List Sp × List (List W)):Option (List Sp × List (List W)) :=
 match st.1[st.2.length]? with
 | none=>some st
 | some s=>let w:=runW (way s) (st.1,[]) (cand s)
  if w.1.length > 4000 \/ (st.2.map List.length).sum+w.2.length > 40000 then none else some (w.1,st.2++[w.2])
def packSt {C W:Type} (cand:Sp -> List C) (way:Sp -> List Sp -> C -> List Sp × W) (L0:List Sp):Nat -> Option (List Sp × List (List W))
 | 0=>some (L0,[])
 | n+1=>(packSt cand way L0 n).bind (packStep cand way)
def totF {α:Type} (F:List (List α)):Nat:=(F.map List.length).sum
def wl (l:List Wy):List (Nat × List Nat):=l.map fun w=>(w.r,w.kids)
end Go.Apx
end
section
namespace Go.Apx
open Go.Proofs
set_option maxRecDepth 4000
theorem set_self' {α:Type} {l:List α} {i:Nat} {a:α} (h:l[i]?=some a):l.set i a=l:=by
 obtain ⟨h1,h2⟩:=List.getElem?_eq_some_iff.1 h
 rw [<- h2,List.set_getElem_self]
end Go.Apx
end
