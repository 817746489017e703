/- Walks: the ways in which parts lie, by the reference. -/
import Derived.Test.YtldhfkfncgnbmaaGreatPA
import Derived.Test.YtldhfkfncgnbmaaGreatEB
section
namespace Go.Apx
open Go.Proofs
set_option linter.unusedVariables false
set_option linter.unusedSimpArgs false
set_option linter.unnecessarySimpa false
set_option maxRecDepth 4000
def splitsF (g : Gr) (tx : List ByteArray) (X : List Bool) : List Pt → Nat → Nat → List (List Nat)
 | [],i,j=>if i = j then [[]] else []
 | p :: ps,i,j=>(List.range' i (j + 1 - i)).flatMap fun e =>
   if lieF g tx X p i e = true ∧ (endsF g tx X (startF tx.length e) ps).getD j false = true then (splitsF g tx X ps e j).map (e :: ·) else []
def encS (l : List Nat) : AV:=.sl 1 (l.map fun (n : Nat)=>i64 (n : Int)) (if l.length ≤ 1 then .full else .any)
def outV (ps : List Pt) (out : List (List Nat)) : AV:=.sl (if out = [] then 0 else 1) (out.map encS) (if out = [] then .nil else if ps = [] then .full else .any)
@[simp] theorem isPend_encS (l : List Nat) : (encS l).isPend = false:=rfl
@[simp] theorem one_encS (l : List Nat) : (encS l).one = true:=rfl
@[simp] theorem cells_encS (l : List Nat) : (encS l).cells = [encS l]:=rfl
@[simp] theorem isPend_outV (ps : List Pt) (l : List (List Nat)) : (outV ps l).isPend = false:=rfl
theorem appFull0 {C : Cx} {k b : Nat} {x y : Opd} {d : Option Nat} {env : Env} {H : AHeap} {K : Env → AHeap → Prop} (es : List AV) (hx : evalOpd C.G env x = some (.sl k es .full)) (hy : (evalOpd C.G env y).bind (elems H k) = some [])
  (hK : K (putD env d (.sl k es .full)) H) : appW C k b x y d env H K:=by
 unfold appW
 have he : evalOp C.G env H (.append k b x y) = some (.sl k es .full,H):=by
  simp only [evalOp,hx,hy]; simp
 rw [he]; exact hK
theorem appFull {C : Cx} {k b : Nat} {x y : Opd} {d : Option Nat} {env : Env} {H : AHeap} {K : Env → AHeap → Prop} (es xs : List AV) (hx : evalOpd C.G env x = some (.sl k es .full)) (hy : (evalOpd C.G env y).bind (elems H k) = some xs) (hne : xs ≠ []) (hm : es.length + xs.length ≤ maxLenA)
  (hK : K (putD env d (.sl k (es ++ xs) (.tok H.length))) (H ++ [.tok (es.length + xs.length)])) : appW C k b x y d env H K:=by
 unfold appW
 have he : evalOp C.G env H (.append k b x y) = some (.sl k (es ++ xs) (.tok H.length),H ++ [.tok (es.length + xs.length)]):=by
  simp only [evalOp,hx,hy]; simp [hne,hm]
 rw [he]; exact hK
structure SS where
 c : Nat
 es : List AV
 T : Nat
 J : AHeap
def SOk (h : AHeap) (out : List (List Nat)) (s : SS) : Prop:=s.es.map AV.strip = out.map encS ∧ (s.es ≠ [] → h.length ≤ s.T ∧ (h ++ s.J)[s.T]? = some (.tok s.es.length))
theorem SOk.grow {h : AHeap} {out : List (List Nat)} {c c' T : Nat} {es : List AV} {J : AHeap} (hs : SOk h out ⟨c,es,T,J⟩) (K : AHeap) : SOk h out ⟨c',es,T,J ++ K⟩:=by
 refine ⟨hs.1,fun hne=>⟨(hs.2 hne).1,?_⟩⟩
 have hT:=(hs.2 hne).2
 show (h ++ (J ++ K))[T]? = _
 rw [← List.append_assoc,List.getElem?_append_left (List.getElem?_eq_some_iff.1 hT).1]
 exact hT
theorem SOk.len {h : AHeap} {out : List (List Nat)} {s : SS} (hs : SOk h out s) : s.es.length = out.length:=by
 have:=congrArg List.length hs.1
 simpa using this
end Go.Apx
end
section
namespace Go.Apx
open Go.Proofs
set_option linter.unusedVariables false
set_option linter.unusedSimpArgs false
set_option linter.unnecessarySimpa false
set_option maxRecDepth 4000
def askedF (g : Gr) (s : ByteArray) (tx : List ByteArray) : Int:=if checkF g ≠ 0 then checkF g else if hasF g.sorts s = false then 5 else if tx.length > 200 then 4 else 0
theorem asked_c (g : Gr) (s : ByteArray) (tx : List ByteArray) (tc : Cap) {h : AHeap} (hs : g.sorts.length ≤ 2 ^ 31) (hc : AEx PP Gl 34 [encG g] h (.ret (i64 (checkF g))) h) :
  AEx PP Gl 14 [encG g,.sc (.string s),.sl 1 (tx.map sv) tc] h (.ret (i64 (askedF g s tx))) h:=by
 refine enter_earley_asked (by simp) ?_
 simp -implicitDefEqProofs [code_earley_asked,res_earley_asked,ann_earley_asked,encG]
 refine callk hc (by simp [encG]) rfl ?_
 by_cases h1 : checkF g = 0
 ·rw [h1]
  simp -implicitDefEqProofs
  refine callk (contains_c g.sorts g.sc s hs) rfl rfl ?_
  cases h2 : hasF g.sorts s with
  | false =>
   simp -implicitDefEqProofs
   exact retE (by simp [deferred,dslot]) rfl (by simp [askedF,h1,h2]) rfl
  | true =>
   simp -implicitDefEqProofs
   refine ⟨fun h3=>?_,fun h3=>?_⟩
   ·have h3' : tx.length > 200:=by omega
    exact retE (by simp [deferred,dslot]) rfl (by simp [askedF,h1,h2,h3']) rfl
   ·have h3' : ¬ tx.length > 200:=by omega
    exact retE (by simp [deferred,dslot]) rfl (by simp [askedF,h1,h2]; omega) rfl
 ·simp -implicitDefEqProofs [h1]
  exact retE (by simp [deferred,dslot]) rfl (by simp [askedF,h1]) rfl
end Go.Apx
end
section
namespace Go.Apx
open Go.Proofs
set_option linter.unusedVariables false
set_option linter.unusedSimpArgs false
set_option linter.unnecessarySimpa false
set_option maxRecDepth 4000
structure Nd where
 sort : ByteArray
 i : Nat
 j : Nat
 ways : AV
def cellsN (x : Nd) : List AV:=[.sc (.string x.sort),i64 (x.i : Int),i64 (x.j : Int),x.ways]
end Go.Apx
end
section
namespace Go.Apx
open Go.Proofs
set_option linter.unusedVariables false
set_option linter.unusedSimpArgs false
set_option linter.unnecessarySimpa false
set_option maxRecDepth 4000
structure Sp where
 s : ByteArray
 i : Nat
 j : Nat
deriving DecidableEq
structure Wy where
 r : Nat
 o : Nat
 kids : List Nat
structure TN where
 sp : Sp
 ws : List Wy
 T : Nat
def i64s (l : List Nat) : List AV:=l.map fun (n : Nat)=>i64 (n : Int)
def encW (w : Wy) : AV:=.agg [i64 (w.r : Int),.rf w.o 0 0 w.kids.length .full]
@[simp] theorem isPend_encW (w : Wy) : (encW w).isPend = false:=rfl
@[simp] theorem one_encW (w : Wy) : (encW w).one = false:=rfl
def encN (x : TN) : Nd:=⟨x.sp.s,x.sp.i,x.sp.j,apd 2 (x.ws.map encW) x.T⟩
@[simp] theorem encN_sort (x : TN) : (encN x).sort = x.sp.s:=rfl
@[simp] theorem encN_i (x : TN) : (encN x).i = x.sp.i:=rfl
@[simp] theorem encN_j (x : TN) : (encN x).j = x.sp.j:=rfl
@[simp] theorem encN_ways (x : TN) : (encN x).ways = apd 2 (x.ws.map encW) x.T:=rfl
def numSp (L : List Sp) (x : Sp) : List Sp × Nat:=match L.findIdx? (fun y=>decide (y = x)) with
 | some k=>(L,k)
 | none=>(L ++ [x],L.length)
def numTN (N : List TN) (x : Sp) : List TN × Nat:=match N.findIdx? (fun y=>decide (y.sp = x)) with
 | some k=>(N,k)
 | none=>(N ++ [⟨x,[],0⟩],N.length)
theorem numTN_mem {N : List TN} {x : Sp} {y : TN} (h : y ∈ (numTN N x).1) : y ∈ N ∨ y.ws = []:=by
 unfold numTN at h
 split at h
 ·exact .inl h
 ·rcases List.mem_append.1 h with h | h
  ·exact .inl h
  ·simp at h; subst h; exact .inr rfl
theorem numTN_le (N : List TN) (x : Sp) : (numTN N x).1.length ≤ N.length + 1 ∧ N.length ≤ (numTN N x).1.length:=by
 unfold numTN; split <;> simp
def KeepE (e : Nat → Prop) (H H' : AHeap) : Prop:=∀ z x,¬ e z → H[z]? = some x → H'[z]? = some x
theorem KeepE.refl (e : Nat → Prop) (H : AHeap) : KeepE e H H:=fun _ _ _ h=>h
theorem KeepE.app {e : Nat → Prop} (H K : AHeap) : KeepE e H (H ++ K):=fun z x _ h=>by rw [List.getElem?_append_left (List.getElem?_eq_some_iff.1 h).1]; exact h
theorem KeepE.set {e : Nat → Prop} {H : AHeap} {o : Nat} {x : AObj} (ho : e o) : KeepE e H (H.set o x):=fun z y hz h=>by
 rw [List.getElem?_set_ne (by rintro rfl; exact hz ho)]; exact h
theorem KeepE.trans {e : Nat → Prop} {H H' H'' : AHeap} (h : KeepE e H H') (h' : KeepE e H' H'') : KeepE e H H'':=fun z x hz hx=>h' z x hz (h z x hz hx)
theorem KeepE.weaken {e e' : Nat → Prop} {H H' : AHeap} (h : KeepE e H H') (he : ∀ z,e z → e' z) : KeepE e' H H':=fun z x hz hx=>h z x (fun h=>hz (he z h)) hx
theorem KeepE.len {e : Nat → Prop} {H H' : AHeap} (h : KeepE e H H') (he : ∀ z,e z → z < H'.length) : H.length ≤ H'.length:=by
 rcases Nat.lt_or_ge H'.length H.length with hl | hl
 ·exfalso
  by_cases hz : e H'.length
  ·exact Nat.lt_irrefl _ (he _ hz)
  ·have:=h H'.length H[H'.length] hz (by simp [hl])
   have:=(List.getElem?_eq_some_iff.1 this).1
   omega
 ·exact hl
def apG (H : AHeap) (n T : Nat) : AHeap:=if n = 0 then H ++ [.tok 1] else H.set T (.tok (n + 1))
def apT (H : AHeap) (n T : Nat) : Nat:=if n = 0 then H.length else T
theorem appG {C : Cx} {k b : Nat} {x y : Opd} {d : Option Nat} {env : Env} {H : AHeap} {K : Env → AHeap → Prop} (es : List AV) (v : AV) (T : Nat) (hx : evalOpd C.G env x = some (apd k es T)) (hy : (evalOpd C.G env y).bind (elems H k) = some [v])
  (hT : es ≠ [] → H[T]? = some (.tok es.length)) (hm : es.length + 1 ≤ maxLenA) (hK : K (putD env d (apd k (es ++ [v]) (apT H es.length T))) (apG H es.length T)) : appW C k b x y d env H K:=by
 cases es with
 | nil =>
  refine appNil v hx hy ?_
  simpa [apG,apT] using hK
 | cons a es =>
  refine appTok (a :: es) v T hx hy (hT (by simp)) hm ?_
  simpa [apG,apT] using hK
theorem apG_tok {H : AHeap} {n T : Nat} (hT : n ≠ 0 → ∃ m,H[T]? = some (.tok m)) : (apG H n T)[apT H n T]? = some (.tok (n + 1)):=by
 unfold apG apT
 by_cases hn : n = 0
 ·simp [hn]
 ·obtain ⟨m,hm⟩:=hT hn
  rw [if_neg hn,if_neg hn,List.getElem?_set_self (List.getElem?_eq_some_iff.1 hm).1]
theorem apG_keep {H : AHeap} {n T : Nat} (hT : n ≠ 0 → ∃ m,H[T]? = some (.tok m)) {z : Nat} {x : AObj} (hz : H[z]? = some x) (hx : ∀ m,x ≠ .tok m) : (apG H n T)[z]? = some x:=by
 unfold apG
 by_cases hn : n = 0
 ·rw [if_pos hn,List.getElem?_append_left (List.getElem?_eq_some_iff.1 hz).1]; exact hz
 ·rw [if_neg hn]
  obtain ⟨m,hm⟩:=hT hn
  rw [List.getElem?_set_ne]
  ·exact hz
  ·rintro rfl; rw [hm] at hz; exact hx m (Option.some.inj hz).symm
theorem apG_keep' {H : AHeap} {n T : Nat} {z : Nat} {x : AObj} (hz : H[z]? = some x) (hzT : n ≠ 0 → z ≠ T) : (apG H n T)[z]? = some x:=by
 unfold apG
 by_cases hn : n = 0
 ·rw [if_pos hn,List.getElem?_append_left (List.getElem?_eq_some_iff.1 hz).1]; exact hz
 ·rw [if_neg hn,List.getElem?_set_ne (fun e=>hzT hn e.symm)]; exact hz
theorem apG_len (H : AHeap) (n T : Nat) : H.length ≤ (apG H n T).length:=by unfold apG; split <;> simp
end Go.Apx
end
section
namespace Go.Apx
open Go.Proofs
set_option linter.unusedVariables false
set_option linter.unusedSimpArgs false
set_option linter.unnecessarySimpa false
set_option maxRecDepth 4000
def startP (i0 : Nat) (sp : List Nat) (p : Nat) : Nat:=if p = 0 then i0 else sp.getD (p - 1) 0
def stepP (ps : List Pt) (i0 : Nat) (sp : List Nat) (a : Nat) (st : List Sp × List Nat) (p : Nat) : List Sp × List Nat :=
 match ps[p]? with
 | none=>st
 | some q=>if q.sort = emp ∨ q.arg ≠ (a : Int) then st else ((numSp st.1 ⟨q.sort,startP i0 sp p,sp.getD p 0⟩).1,st.2.set a (numSp st.1 ⟨q.sort,startP i0 sp p,sp.getD p 0⟩).2)
def kid4 (ps : List Pt) (i0 : Nat) (sp : List Nat) (a : Nat) (st : List Sp × List Nat) (n : Nat) : List Sp × List Nat:=(List.range n).foldl (stepP ps i0 sp a) st
def kid3 (ps : List Pt) (i0 : Nat) (sp : List Nat) (st : List Sp × List Nat) (n : Nat) : List Sp × List Nat:=(List.range n).foldl (fun st a=>kid4 ps i0 sp a st sp.length) st
def wayR (g : Gr) (i0 : Nat) (L : List Sp) (c : Nat × List Nat) : List Sp × (Nat × List Nat) :=
 match g.rules[c.1]? with
 | none=>(L,(c.1,[]))
 | some R=>let w:=kid3 R.parts i0 c.2 (L,List.replicate (argsF R.parts) 0) (argsF R.parts); (w.1,(c.1,w.2))
def candR (g : Gr) (tx : List ByteArray) (X : List Bool) (s : Sp) (r : Nat) : List (Nat × List Nat) :=
 match g.rules[r]? with
 | none=>[]
 | some R=>if R.sort = s.s then (splitsF g tx X R.parts s.i s.j).map (r,·) else []
def runW {C W : Type} (way : List Sp → C → List Sp × W) (st : List Sp × List W) (l : List C) : List Sp × List W:=l.foldl (fun st c=>((way st.1 c).1,st.2 ++ [(way st.1 c).2])) st
def packStep {C W : Type} (cand : Sp → List C) (way : Sp → List Sp → C → List Sp × W) (st : List Sp × List (List W)) : Option (List Sp × List (List W)) :=
 match st.1[st.2.length]? with
 | none=>some st
 | some s=>let w:=runW (way s) (st.1,[]) (cand s)
  if w.1.length > 4000 ∨ (st.2.map List.length).sum + w.2.length > 40000 then none else some (w.1,st.2 ++ [w.2])
def packSt {C W : Type} (cand : Sp → List C) (way : Sp → List Sp → C → List Sp × W) (L0 : List Sp) : Nat → Option (List Sp × List (List W))
 | 0=>some (L0,[])
 | n + 1=>(packSt cand way L0 n).bind (packStep cand way)
abbrev candsR (g : Gr) (tx : List ByteArray) (X : List Bool) (s : Sp) : List (Nat × List Nat):=(List.range g.rules.length).flatMap (candR g tx X s)
abbrev packR (g : Gr) (tx : List ByteArray) (X : List Bool) (s : ByteArray) (n : Nat) : Option (List Sp × List (List (Nat × List Nat))) :=
 packSt (candsR g tx X) (fun s=>wayR g s.i) [⟨s,0,tx.length⟩] n
def Alive (H : AHeap) (a b k : Nat) (w : Wy) : Prop:=H[w.o]? = some (.cells 0 (i64s w.kids)) ∧ w.o ≠ a ∧ w.o ≠ b ∧ w.o < k
structure PSt where
 c : Nat
 N : List TN
 oN : Nat
 gN : Nat
 rc : RCap
 l : List Wy
 T : Nat
 kids : List Nat
 kb : Nat
 H : AHeap
structure PI (h : AHeap) (X : List Bool) (om o : Nat) (s : PSt) : Prop where
 pre : ∀ (z : Nat) (x : AObj),h[z]? = some x → s.H[z]? = some x
 res : s.H[h.length]? = some (.cells 0 [.sl 0 [] .nil])
 mks : s.H[om]? = some (.cells 0 (X.map bl))
 ob : s.H[o]? = some (.cells 0 [.rf s.oN s.gN 0 s.N.length s.rc])
 nd : s.H[s.oN]? = some (.cells s.gN ((s.N.map encN).flatMap cellsN))
 al : ∀ x ∈ s.N,∀ w ∈ x.ws,Alive s.H o s.oN s.kb w
 ll : ∀ w ∈ s.l,Alive s.H o s.oN s.kb w
 tk : s.l ≠ [] → s.H[s.T]? = some (.tok s.l.length) ∧ h.length ≤ s.T
 n1 : h.length < s.oN
 n2 : s.oN ≠ om
 n3 : s.oN ≠ o
 ne : s.N ≠ []
def spsT (N : List TN) : List Sp:=N.map (·.sp)
def waysT (N : List TN) : List (List (Nat × List Nat)):=N.map fun x=>x.ws.map fun w=>(w.r,w.kids)
def totF {α : Type} (F : List (List α)) : Nat:=(F.map List.length).sum
def wl (l : List Wy) : List (Nat × List Nat):=l.map fun w=>(w.r,w.kids)
theorem PI.num {h : AHeap} {X : List Bool} {om o : Nat} {c : Nat} {N : List TN} {oN gN : Nat} {rc : RCap} {l : List Wy} {T : Nat} {kids : List Nat} {kb : Nat} {H : AHeap} (hI : PI h X om o ⟨c,N,oN,gN,rc,l,T,kids,kb,H⟩) (ho : h.length < o) (hm : om ≠ o) {K : AHeap} {o' g' : Nat} {rc' : RCap} {x : Sp}
  (hK : (H ++ K)[o']? = some (.cells g' (((numTN N x).1.map encN).flatMap cellsN))) (ho' : o' = oN ∨ H.length ≤ o') (c' : Nat) (kids' : List Nat) :
  PI h X om o ⟨c',(numTN N x).1,o',g',rc',l,T,kids',kb,(H ++ K).set o (.cells 0 [.rf o' g' 0 (numTN N x).1.length rc'])⟩:=by
 obtain ⟨i1,i2,i3,i4,i5,i6,i7,i8,i9,i10,i11,i12⟩:=hI
 simp only at i1 i2 i3 i4 i5 i6 i7 i8 i9 i10 i11 i12
 have k1 : ∀ (z : Nat) (y : AObj),H[z]? = some y → z ≠ o → ((H ++ K).set o (.cells 0 [.rf o' g' 0 (numTN N x).1.length rc']))[z]? = some y:=fun z y hz hzo=>by
  rw [List.getElem?_set_ne (fun e=>hzo e.symm),List.getElem?_append_left (List.getElem?_eq_some_iff.1 hz).1]; exact hz
 have lt : ∀ {z : Nat} {y : AObj},H[z]? = some y → z < H.length:=fun hz=>(List.getElem?_eq_some_iff.1 hz).1
 have hlo:=lt i4
 have n1 : o' ≠ o:=by rcases ho' with rfl | h'; exact i11; omega
 have al : ∀ w,Alive H o oN kb w → Alive ((H ++ K).set o (.cells 0 [.rf o' g' 0 (numTN N x).1.length rc'])) o o' kb w:=fun w ⟨a,b,d,e⟩=>by
  refine ⟨k1 _ _ a b,b,?_,e⟩
  have:=lt a
  rcases ho' with rfl | h'
  ·exact d
  ·omega
 refine ⟨fun z y hz=>k1 _ _ (i1 z y hz) ?_,k1 _ _ i2 (by omega),k1 _ _ i3 hm,?_,?_,fun y hy w hw=>?_,fun w hw=>al w (i7 w hw),fun hl=>⟨k1 _ _ (i8 hl).1 ?_,(i8 hl).2⟩,?_,?_,n1,?_⟩
 ·have:=(List.getElem?_eq_some_iff.1 hz).1; omega
 ·simp only; rw [List.getElem?_set_self (by simp; omega)]
 ·simp only; rw [List.getElem?_set_ne (fun e=>n1 e.symm)]; exact hK
 ·rcases numTN_mem hy with h1 | h1
  ·exact al w (i6 y h1 w hw)
  ·rw [h1] at hw; cases hw
 ·intro e; simp only at e; subst e
  have:=(i8 hl).1
  rw [i4] at this; cases this
 ·rcases ho' with rfl | h'
  ·exact i9
  ·have:=lt i2; simp only; omega
 ·rcases ho' with rfl | h'
  ·exact i10
  ·have:=lt i3; simp only; omega
 ·intro e
  have h1:=(numTN_le N x).2
  simp only at e
  rw [e] at h1
  exact i12 (List.eq_nil_of_length_eq_zero (by simpa using h1))
theorem PI.kid {h : AHeap} {X : List Bool} {om o : Nat} {c : Nat} {N : List TN} {oN gN : Nat} {rc : RCap} {l : List Wy} {T : Nat} {kids : List Nat} {kb : Nat} {H : AHeap} (hI : PI h X om o ⟨c,N,oN,gN,rc,l,T,kids,kb,H⟩) {ok : Nat} {cs : List AV} (hk : H[ok]? = some (.cells 0 cs))
  (h1 : h.length < ok) (h2 : ok ≠ om) (h3 : ok ≠ o) (h4 : ok ≠ oN) (h5 : kb ≤ ok) (c' : Nat) (kids' : List Nat) (x : AObj) :
  PI h X om o ⟨c',N,oN,gN,rc,l,T,kids',kb,H.set ok x⟩:=by
 obtain ⟨i1,i2,i3,i4,i5,i6,i7,i8,i9,i10,i11,i12⟩:=hI
 simp only at i1 i2 i3 i4 i5 i6 i7 i8 i9 i10 i11 i12
 have k1 : ∀ (z : Nat) (y : AObj),H[z]? = some y → z ≠ ok → (H.set ok x)[z]? = some y:=fun z y hz hzo=>by
  rw [List.getElem?_set_ne (fun e=>hzo e.symm)]; exact hz
 have al : ∀ w,Alive H o oN kb w → Alive (H.set ok x) o oN kb w:=fun w ⟨a,b,d,e⟩=>⟨k1 _ _ a (by omega),b,d,e⟩
 refine ⟨fun z y hz=>k1 _ _ (i1 z y hz) ?_,k1 _ _ i2 (by omega),k1 _ _ i3 h2.symm,k1 _ _ i4 h3.symm,k1 _ _ i5 h4.symm,fun y hy w hw=>al w (i6 y hy w hw),fun w hw=>al w (i7 w hw),fun hl=>⟨k1 _ _ (i8 hl).1 ?_,(i8 hl).2⟩,i9,i10,i11,i12⟩
 ·have:=(List.getElem?_eq_some_iff.1 hz).1; omega
 ·intro e; simp only at e; subst e
  have:=(i8 hl).1
  rw [hk] at this; cases this
theorem PI.app {h : AHeap} {X : List Bool} {om o : Nat} {c : Nat} {N : List TN} {oN gN : Nat} {rc : RCap} {l : List Wy} {T : Nat} {kids : List Nat} {kb : Nat} {H : AHeap} (hI : PI h X om o ⟨c,N,oN,gN,rc,l,T,kids,kb,H⟩) (K : AHeap) (c' : Nat) (kids' : List Nat) :
  PI h X om o ⟨c',N,oN,gN,rc,l,T,kids',H.length,H ++ K⟩:=by
 obtain ⟨i1,i2,i3,i4,i5,i6,i7,i8,i9,i10,i11,i12⟩:=hI
 simp only at i1 i2 i3 i4 i5 i6 i7 i8 i9 i10 i11 i12
 have k1 : ∀ (z : Nat) (y : AObj),H[z]? = some y → (H ++ K)[z]? = some y:=fun z y hz=>by
  rw [List.getElem?_append_left (List.getElem?_eq_some_iff.1 hz).1]; exact hz
 have al : ∀ w,Alive H o oN kb w → Alive (H ++ K) o oN H.length w:=fun w ⟨a,b,d,e⟩=>⟨k1 _ _ a,b,d,(List.getElem?_eq_some_iff.1 a).1⟩
 exact ⟨fun z y hz=>k1 _ _ (i1 z y hz),k1 _ _ i2,k1 _ _ i3,k1 _ _ i4,k1 _ _ i5,fun y hy w hw=>al w (i6 y hy w hw),fun w hw=>al w (i7 w hw),fun hl=>⟨k1 _ _ (i8 hl).1,(i8 hl).2⟩,i9,i10,i11,i12⟩
theorem PI.way {h : AHeap} {X : List Bool} {om o : Nat} {c : Nat} {N : List TN} {oN gN : Nat} {rc : RCap} {l : List Wy} {T : Nat} {kids : List Nat} {kb : Nat} {H : AHeap} (hI : PI h X om o ⟨c,N,oN,gN,rc,l,T,kids,kb,H⟩) {w : Wy} (hw : H[w.o]? = some (.cells 0 (i64s w.kids))) (h1 : w.o ≠ o) (h2 : w.o ≠ oN) (hkb : kb ≤ w.o) (c' : Nat) (kids' : List Nat) :
  PI h X om o ⟨c',N,oN,gN,rc,l ++ [w],apT H l.length T,kids',w.o + 1,apG H l.length T⟩:=by
 obtain ⟨i1,i2,i3,i4,i5,i6,i7,i8,i9,i10,i11,i12⟩:=hI
 simp only at i1 i2 i3 i4 i5 i6 i7 i8 i9 i10 i11 i12
 have hT : l.length ≠ 0 → ∃ m,H[T]? = some (.tok m):=fun hl=>⟨_,(i8 (by rintro rfl; exact hl rfl)).1⟩
 have k1 : ∀ (z g : Nat) (y : List AV),H[z]? = some (.cells g y) → (apG H l.length T)[z]? = some (.cells g y):=fun z g y hz=>apG_keep hT hz (by simp)
 have al : ∀ w',Alive H o oN kb w' → Alive (apG H l.length T) o oN (w.o + 1) w':=fun w' ⟨a,b,d,e⟩=>⟨k1 _ _ _ a,b,d,by omega⟩
 refine ⟨fun z y hz=>apG_keep' (i1 z y hz) (fun hl e=>?_),k1 _ _ _ i2,k1 _ _ _ i3,k1 _ _ _ i4,k1 _ _ _ i5,fun y hy w hw=>al w (i6 y hy w hw),fun w' hw'=>?_,fun _=>?_,i9,i10,i11,i12⟩
 ·have:=(List.getElem?_eq_some_iff.1 hz).1; have:=(i8 (by rintro rfl; exact hl rfl)).2; omega
 ·rcases List.mem_append.1 hw' with h' | h'
  ·exact al w' (i7 w' h')
  ·simp at h'; subst h'; exact ⟨k1 _ _ _ hw,h1,h2,Nat.lt_succ_self _⟩
 ·refine ⟨by simp only; rw [apG_tok hT]; simp,?_⟩
  simp only; unfold apT
  split
  ·have:=(List.getElem?_eq_some_iff.1 i2).1; omega
  ·rename_i hl; exact (i8 (by rintro rfl; exact hl rfl)).2
theorem PI.node {h : AHeap} {X : List Bool} {om o : Nat} {c : Nat} {N : List TN} {oN gN : Nat} {rc : RCap} {l : List Wy} {T : Nat} {kids : List Nat} {kb : Nat} {H : AHeap} (hI : PI h X om o ⟨c,N,oN,gN,rc,l,T,kids,kb,H⟩) (k : Nat) (x : TN) (c' : Nat) (kids' : List Nat) :
  PI h X om o ⟨c',N.set k ⟨x.sp,l,T⟩,oN,gN,rc,[],0,kids',kb,H.set oN (.cells gN (((N.set k ⟨x.sp,l,T⟩).map encN).flatMap cellsN))⟩:=by
 obtain ⟨i1,i2,i3,i4,i5,i6,i7,i8,i9,i10,i11,i12⟩:=hI
 simp only at i1 i2 i3 i4 i5 i6 i7 i8 i9 i10 i11 i12
 have k1 : ∀ (y' : AObj) (z : Nat) (y : AObj),H[z]? = some y → z ≠ oN → (H.set oN y')[z]? = some y:=fun y' z y hz hzo=>by
  rw [List.getElem?_set_ne (fun e=>hzo e.symm)]; exact hz
 have al : ∀ y' w,Alive H o oN kb w → Alive (H.set oN y') o oN kb w:=fun y' w ⟨a,b,d,e⟩=>⟨k1 _ _ _ a d,b,d,e⟩
 refine ⟨fun z y hz=>k1 _ _ _ (i1 z y hz) ?_,k1 _ _ _ i2 (by omega),k1 _ _ _ i3 i10.symm,?_,?_,fun y hy w hw=>al _ w ?_,by simp,by simp,i9,i10,i11,by simpa using i12⟩
 ·have:=(List.getElem?_eq_some_iff.1 hz).1; omega
 ·simp only [List.length_set]; exact k1 _ _ _ i4 i11.symm
 ·simp only; rw [List.getElem?_set_self (List.getElem?_eq_some_iff.1 i5).1]
 ·rcases List.mem_or_eq_of_mem_set hy with h1 | h1
  ·exact i6 y h1 w hw
  ·subst h1; exact i7 w hw
def Bd (m : Nat) (N : List TN) : Prop:=∀ x ∈ N,x.sp.i ≤ m ∧ x.sp.j ≤ m
theorem Bd.num {m : Nat} {N : List TN} (h : Bd m N) {x : Sp} (hx : x.i ≤ m ∧ x.j ≤ m) : Bd m (numTN N x).1:=by
 unfold numTN
 split
 ·exact h
 ·intro y hy
  rcases List.mem_append.1 hy with h1 | h1
  ·exact h y h1
  ·simp at h1; subst h1; exact hx
structure J0 (g : Gr) (tx : List ByteArray) (X : List Bool) (s : ByteArray) (h : AHeap) (om o : Nat) (st : PSt) : Prop where
 pi : PI h X om o st
 l : st.l = []
 c : st.c ≤ st.N.length
 b1 : st.N.length ≤ 4000
 b2 : totF (waysT (st.N.take st.c)) ≤ 40000
 e : ∀ x ∈ st.N.drop st.c,x.ws = []
 run : packR g tx X s st.c = some (spsT st.N,waysT (st.N.take st.c))
 bd : Bd tx.length st.N
def Ext (N0 N : List TN) : Prop:=∃ M,N = N0 ++ M ∧ ∀ y ∈ M,y.ws = []
theorem Ext.refl (N : List TN) : Ext N N:=⟨[],by simp,by simp⟩
theorem Ext.num {N0 N : List TN} (h : Ext N0 N) (x : Sp) : Ext N0 (numTN N x).1:=by
 obtain ⟨M,rfl,hM⟩:=h
 unfold numTN
 split
 ·exact ⟨M,rfl,hM⟩
 ·exact ⟨M ++ [⟨x,[],0⟩],by simp,fun y hy=>by rcases List.mem_append.1 hy with h | h; exact hM y h; simp at h; subst h; rfl⟩
structure J1 (g : Gr) (tx : List ByteArray) (X : List Bool) (h : AHeap) (om o : Nat) (N0 : List TN) (sp : Sp) (st : PSt) : Prop where
 pi : PI h X om o st
 c : st.c ≤ g.rules.length
 ext : Ext N0 st.N
 run : runW (wayR g sp.i) (spsT N0,[]) ((List.range st.c).flatMap (candR g tx X sp)) = (spsT st.N,wl st.l)
 b1 : st.l.length ≤ 20000 * st.c
 b2 : st.N.length ≤ 4000 + 100 * st.l.length
 bd : Bd tx.length st.N
structure J2 (g : Gr) (tx : List ByteArray) (X : List Bool) (h : AHeap) (om o : Nat) (N0 : List TN) (sp : Sp) (r : Nat) (ps : List (List Nat)) (st : PSt) : Prop where
 pi : PI h X om o st
 c : st.c ≤ ps.length
 ext : Ext N0 st.N
 run : runW (wayR g sp.i) (spsT N0,[]) ((List.range r).flatMap (candR g tx X sp) ++ (ps.take st.c).map (r,·)) = (spsT st.N,wl st.l)
 b1 : st.l.length ≤ 20000 * r + st.c
 b2 : st.N.length ≤ 4000 + 100 * st.l.length
 bd : Bd tx.length st.N
structure JK (m : Nat) (X : List Bool) (h : AHeap) (om o : Nat) (N0 : List TN) (l2 : List Wy) (T2 n ok : Nat) (st : PSt) : Prop where
 pi : PI h X om o st
 ext : Ext N0 st.N
 l : st.l = l2
 T : st.T = T2
 ob : st.H[ok]? = some (.cells 0 (i64s st.kids))
 kl : st.kids.length = n
 kb : st.kb ≤ ok
 d : ok ≠ st.oN
 bd : Bd m st.N
structure J3 (m : Nat) (X : List Bool) (h : AHeap) (om o : Nat) (N0 : List TN) (l2 : List Wy) (T2 n ok : Nat) (ps : List Pt) (i0 : Nat) (sp : List Nat) (L2 : List Sp) (st : PSt) : Prop where
 k : JK m X h om o N0 l2 T2 n ok st
 run : kid3 ps i0 sp (L2,List.replicate n 0) st.c = (spsT st.N,st.kids)
 c : st.c ≤ n
 b : st.N.length ≤ 4000 + 100 * l2.length + 10 * st.c
theorem JK.num {m : Nat} {X : List Bool} {h : AHeap} {om o : Nat} {N0 : List TN} {l2 : List Wy} {T2 n ok : Nat} {c : Nat} {N : List TN} {oN gN : Nat} {rc : RCap} {l : List Wy} {T : Nat} {kids : List Nat} {kb : Nat} {H : AHeap} (hI : JK m X h om o N0 l2 T2 n ok ⟨c,N,oN,gN,rc,l,T,kids,kb,H⟩) (ho : h.length < o) (hm : om ≠ o) (hok : h.length < ok) (hokm : ok ≠ om) (hoko : ok ≠ o)
  {K : AHeap} {o' g' : Nat} {rc' : RCap} {x : Sp} (hK : (H ++ K)[o']? = some (.cells g' (((numTN N x).1.map encN).flatMap cellsN))) (ho' : o' = oN ∨ H.length ≤ o') (hxm : x.i ≤ m ∧ x.j ≤ m) (c' a : Nat) :
  JK m X h om o N0 l2 T2 n ok ⟨c',(numTN N x).1,o',g',rc',l,T,kids.set a (numTN N x).2,kb,((H ++ K).set o (.cells 0 [.rf o' g' 0 (numTN N x).1.length rc'])).set ok (.cells 0 (i64s (kids.set a (numTN N x).2)))⟩:=by
 obtain ⟨p,e,hl,hT,ob,kl,hkb,d,bd⟩:=hI
 simp only at e hl hT ob kl hkb d bd
 have hlt:=(List.getElem?_eq_some_iff.1 ob).1
 have d' : ok ≠ o':=by rcases ho' with rfl | h'; exact d; omega
 have ob' : ((H ++ K).set o (.cells 0 [.rf o' g' 0 (numTN N x).1.length rc']))[ok]? = some (.cells 0 (i64s kids)):=by
  rw [List.getElem?_set_ne (fun e=>hoko e.symm),List.getElem?_append_left hlt]; exact ob
 refine ⟨PI.kid (PI.num p ho hm hK ho' c' kids) ob' hok hokm hoko d' hkb c' _ _,e.num x,hl,hT,?_,by simpa using kl,hkb,d',bd.num hxm⟩
 simp only
 rw [List.getElem?_set_self (List.getElem?_eq_some_iff.1 ob').1]
end Go.Apx
end
