/- Walks: the ways in which parts lie, by the reference. -/
import Derived.Test.YtldhfkfncgnbmaaPA
import Derived.Test.YtldhfkfncgnbmaaEB
section
namespace Go.Apx
open Go.Proofs
set_option maxRecDepth 4000
def encS (l:List Nat):AV:=.sl 1 (l.map fun (n:Nat)=>i64 (n:Int)) (if l.length <= 1 then .full else .any)
theorem appFull {C:Cx} {k b:Nat} {x y:Opd} {d:Option Nat} {env:Env} {H:AHeap} {K:Env -> AHeap -> Prop} (es xs:List AV) (hx:evalOpd C.G env x=some (.sl k es .full)) (hy:(evalOpd C.G env y).bind (elems H k)=some xs) (hne:xs ≠ []) (hm:es.length+xs.length <= maxLenA)
  (hK:K (putD env d (.sl k (es++xs) (.tok H.length))) (H++[.tok (es.length+xs.length)])):appW C k b x y d env H K:=by
 unfold appW
 have he:evalOp C.G env H (.append k b x y)=some (.sl k (es++xs) (.tok H.length),H++[.tok (es.length+xs.length)]):=by
  simp only [evalOp,hx,hy]; simp [hne,hm]
 rw [he]; exact hK
structure SS where
 c:Nat
 es:List AV
 T:Nat
 J:AHeap
def SOk (h:AHeap) (out:List (List Nat)) (s:SS):Prop:=s.es.map AV.strip=out.map encS /\ (s.es ≠ [] -> h.length <= s.T /\ (h++s.J)[s.T]?=some (.tok s.es.length))
theorem SOk.grow {h:AHeap} {out:List (List Nat)} {c c' T:Nat} {es:List AV} {J:AHeap} (hs:SOk h out ⟨c,es,T,J⟩) (K:AHeap):SOk h out ⟨c',es,T,J++K⟩:=by
 refine ⟨hs.1,fun hne=>⟨(hs.2 hne).1,?_⟩⟩
 have hT:=(hs.2 hne).2
 show (h++(J++K))[T]?=_
 rw [<- List.append_assoc,List.getElem?_append_left (List.getElem?_eq_some_iff.1 hT).1]
 exact hT
theorem SOk.len {h:AHeap} {out:List (List Nat)} {s:SS} (hs:SOk h out s):s.es.length=out.length:=by
 have:=congrArg List.length hs.1
 simpa using this
end Go.Apx
end
section
namespace Go.Apx
open Go.Proofs
set_option maxRecDepth 4000
structure Nd where
 sort:ByteArray
 i:Nat
 j:Nat
 ways:AV
def cellsN (x:Nd):List AV:=[.sc (.string x.sort),i64 (x.i:Int),i64 (x.j:Int),x.ways]
end Go.Apx
end
section
namespace Go.Apx
open Go.Proofs
set_option maxRecDepth 4000
structure Sp where
 s:ByteArray
 i:Nat
 j:Nat
deriving DecidableEq
structure Wy where
 r:Nat
 o:Nat
 kids:List Nat
structure TN where
 sp:Sp
 ws:List Wy
 T:Nat
def i64s (l:List Nat):List AV:=l.map fun (n:Nat)=>i64 (n:Int)
def encW (w:Wy):AV:=.agg [i64 (w.r:Int),.rf w.o 0 0 w.kids.length .full]
def encN (x:TN):Nd:=⟨x.sp.s,x.sp.i,x.sp.j,apd 2 (x.ws.map encW) x.T⟩
def numSp (L:List Sp) (x:Sp):List Sp × Nat:=match L.findIdx? (fun y=>decide (y=x)) with
 | some k=>(L,k)
 | none=>(L++[x],L.length)
def numTN (N:List TN) (x:Sp):List TN × Nat:=match N.findIdx? (fun y=>decide (y.sp=x)) with
 | some k=>(N,k)
 | none=>(N++[⟨x,[],0⟩],N.length)
theorem numTN_mem {N:List TN} {x:Sp} {y:TN} (h:y ∈ (numTN N x).1):y ∈ N \/ y.ws=[]:=by
 unfold numTN at h
 split at h
 .exact .inl h
 .rcases List.mem_append.1 h with h | h
  .exact .inl h
  .simp at h; subst h; exact .inr rfl
theorem numTN_le (N:List TN) (x:Sp):(numTN N x).1.length <= N.length+1 /\ N.length <= (numTN N x).1.length:=by
 unfold numTN; split <;> simp
def KeepE (e:Nat -> Prop) (H H':AHeap):Prop:=∀ z x,¬ e z -> H[z]?=some x -> H'[z]?=some x
theorem KeepE.refl (e:Nat -> Prop) (H:AHeap):KeepE e H H:=fun _ _ _ h=>h
theorem KeepE.app {e:Nat -> Prop} (H K:AHeap):KeepE e H (H++K):=fun z x _ h=>by rw [List.getElem?_append_left (List.getElem?_eq_some_iff.1 h).1]; exact h
theorem KeepE.set {e:Nat -> Prop} {H:AHeap} {o:Nat} {x:AObj} (ho:e o):KeepE e H (H.set o x):=fun z y hz h=>by
 rw [List.getElem?_set_ne (by rintro rfl; exact hz ho)]; exact h
theorem KeepE.trans {e:Nat -> Prop} {H H' H'':AHeap} (h:KeepE e H H') (h':KeepE e H' H''):KeepE e H H'':=fun z x hz hx=>h' z x hz (h z x hz hx)
theorem KeepE.weaken {e e':Nat -> Prop} {H H':AHeap} (h:KeepE e H H') (he:∀ z,e z -> e' z):KeepE e' H H':=fun z x hz hx=>h z x (fun h=>hz (he z h)) hx
theorem KeepE.len {e:Nat -> Prop} {H H':AHeap} (h:KeepE e H H') (he:∀ z,e z -> z < H'.length):H.length <= H'.length:=by
 rcases Nat.lt_or_ge H'.length H.length with hl | hl
 .exfalso
  by_cases hz:e H'.length
  .exact Nat.lt_irrefl _ (he _ hz)
  .have:=h H'.length H[H'.length] hz (by simp [hl])
   have:=(List.getElem?_eq_some_iff.1 this).1
   omega
 .exact hl
def apG (H:AHeap) (n T:Nat):AHeap:=if n=0 then H++[.tok 1] else H.set T (.tok (n+1))
def apT (H:AHeap) (n T:Nat):Nat:=if n=0 then H.length else T
theorem appG {C:Cx} {k b:Nat} {x y:Opd} {d:Option Nat} {env:Env} {H:AHeap} {K:Env -> AHeap -> Prop} (es:List AV) (v:AV) (T:Nat) (hx:evalOpd C.G env x=some (apd k es T)) (hy:(evalOpd C.G env y).bind (elems H k)=some [v])
  (hT:es ≠ [] -> H[T]?=some (.tok es.length)) (hm:es.length+1 <= maxLenA) (hK:K (putD env d (apd k (es++[v]) (apT H es.length T))) (apG H es.length T)):appW C k b x y d env H K:=by
 cases es with
 | nil =>
  refine appNil v hx hy ?_
  simpa [apG,apT] using hK
 | cons a es =>
  refine appTok (a :: es) v T hx hy (hT (by simp)) hm ?_
  simpa [apG,apT] using hK
theorem apG_tok {H:AHeap} {n T:Nat} (hT:n ≠ 0 -> ∃ m,H[T]?=some (.tok m)):(apG H n T)[apT H n T]?=some (.tok (n+1)):=by
 unfold apG apT
 by_cases hn:n=0
 .simp [hn]
 .obtain ⟨m,hm⟩:=hT hn
  rw [if_neg hn,if_neg hn,List.getElem?_set_self (List.getElem?_eq_some_iff.1 hm).1]
theorem apG_keep {H:AHeap} {n T:Nat} (hT:n ≠ 0 -> ∃ m,H[T]?=some (.tok m)) {z:Nat} {x:AObj} (hz:H[z]?=some x) (hx:∀ m,x ≠ .tok m):(apG H n T)[z]?=some x:=by
 unfold apG
 by_cases hn:n=0
 .rw [if_pos hn,List.getElem?_append_left (List.getElem?_eq_some_iff.1 hz).1]; exact hz
 .rw [if_neg hn]
  obtain ⟨m,hm⟩:=hT hn
  rw [List.getElem?_set_ne]
  .exact hz
  .rintro rfl; rw [hm] at hz; exact hx m (Option.some.inj hz).symm
theorem apG_keep' {H:AHeap} {n T:Nat} {z:Nat} {x:AObj} (hz:H[z]?=some x) (hzT:n ≠ 0 -> z ≠ T):(apG H n T)[z]?=some x:=by
 unfold apG
 by_cases hn:n=0
 .rw [if_pos hn,List.getElem?_append_left (List.getElem?_eq_some_iff.1 hz).1]; exact hz
 .rw [if_neg hn,List.getElem?_set_ne (fun e=>hzT hn e.symm)]; exact hz
theorem apG_len (H:AHeap) (n T:Nat):H.length <= (apG H n T).length:=by unfold apG; split <;> simp
end Go.Apx
end
section
namespace Go.Apx
open Go.Proofs
set_option maxRecDepth 4000
def startP (i0:Nat) (sp:List Nat) (p:Nat):Nat:=if p=0 then i0 else sp.getD (p - 1) 0
def runW {C W:Type} (way:List Sp -> C -> List Sp × W) (st:List Sp × List W) (l:List C):List Sp × List W:=l.foldl (fun st c=>((way st.1 c).1,st.2++[(way st.1 c).2])) st
def Alive (H:AHeap) (a b k:Nat) (w:Wy):Prop:=H[w.o]?=some (.cells 0 (i64s w.kids)) /\ w.o ≠ a /\ w.o ≠ b /\ w.o < k
structure PSt where
 c:Nat
 N:List TN
 oN:Nat
 gN:Nat
 rc:RCap
 l:List Wy
 T:Nat
 kids:List Nat
 kb:Nat
 H:AHeap
structure PI (h:AHeap) (X:List Bool) (om o:Nat) (s:PSt):Prop where
 pre:∀ (z:Nat) (x:AObj),h[z]?=some x -> s.H[z]?=some x
 res:s.H[h.length]?=some (.cells 0 [.sl 0 [] .nil])
 mks:s.H[om]?=some (.cells 0 (X.map bl))
 ob:s.H[o]?=some (.cells 0 [.rf s.oN s.gN 0 s.N.length s.rc])
 nd:s.H[s.oN]?=some (.cells s.gN ((s.N.map encN).flatMap cellsN))
 al:∀ x ∈ s.N,∀ w ∈ x.ws,Alive s.H o s.oN s.kb w
 ll:∀ w ∈ s.l,Alive s.H o s.oN s.kb w
 tk:s.l ≠ [] -> s.H[s.T]?=some (.tok s.l.length) /\ h.length <= s.T
 n1:h.length < s.oN
 n2:s.oN ≠ om
 n3:s.oN ≠ o
 ne:s.N ≠ []
def wl (l:List Wy):List (Nat × List Nat):=l.map fun w=>(w.r,w.kids)
theorem PI.num {h:AHeap} {X:List Bool} {om o:Nat} {c:Nat} {N:List TN} {oN gN:Nat} {rc:RCap} {l:List Wy} {T:Nat} {kids:List Nat} {kb:Nat} {H:AHeap} (hI:PI h X om o ⟨c,N,oN,gN,rc,l,T,kids,kb,H⟩) (ho:h.length < o) (hm:om ≠ o) {K:AHeap} {o' g':Nat} {rc':RCap} {x:Sp}
  (hK:(H++K)[o']?=some (.cells g' (((numTN N x).1.map encN).flatMap cellsN))) (ho':o'=oN \/ H.length <= o') (c':Nat) (kids':List Nat) :
  PI h X om o ⟨c',(numTN N x).1,o',g',rc',l,T,kids',kb,(H++K).set o (.cells 0 [.rf o' g' 0 (numTN N x).1.length rc'])⟩:=by
 obtain ⟨i1,i2,i3,i4,i5,i6,i7,i8,i9,i10,i11,i12⟩:=hI
 simp only at i1 i2 i3 i4 i5 i6 i7 i8 i9 i10 i11 i12
 have k1:∀ (z:Nat) (y:AObj),H[z]?=some y -> z ≠ o -> ((H++K).set o (.cells 0 [.rf o' g' 0 (numTN N x).1.length rc']))[z]?=some y:=fun z y hz hzo=>by
  rw [List.getElem?_set_ne (fun e=>hzo e.symm),List.getElem?_append_left (List.getElem?_eq_some_iff.1 hz).1]; exact hz
 have lt:∀ {z:Nat} {y:AObj},H[z]?=some y -> z < H.length:=fun hz=>(List.getElem?_eq_some_iff.1 hz).1
 have hlo:=lt i4
 have n1:o' ≠ o:=by rcases ho' with rfl | h'; exact i11; omega
 have al:∀ w,Alive H o oN kb w -> Alive ((H++K).set o (.cells 0 [.rf o' g' 0 (numTN N x).1.length rc'])) o o' kb w:=fun w ⟨a,b,d,e⟩=>by
  refine ⟨k1 _ _ a b,b,?_,e⟩
  have:=lt a
  rcases ho' with rfl | h'
  .exact d
  .omega
 refine ⟨fun z y hz=>k1 _ _ (i1 z y hz) ?_,k1 _ _ i2 (by omega),k1 _ _ i3 hm,?_,?_,fun y hy w hw=>?_,fun w hw=>al w (i7 w hw),fun hl=>⟨k1 _ _ (i8 hl).1 ?_,(i8 hl).2⟩,?_,?_,n1,?_⟩
 .have:=(List.getElem?_eq_some_iff.1 hz).1; omega
 .simp only; rw [List.getElem?_set_self (by simp; omega)]
 .simp only; rw [List.getElem?_set_ne (fun e=>n1 e.symm)]; exact hK
 .rcases numTN_mem hy with h1 | h1
  .exact al w (i6 y h1 w hw)
  .rw [h1] at hw; cases hw
 .intro e; simp only at e; subst e
  have:=(i8 hl).1
  rw [i4] at this; cases this
 .rcases ho' with rfl | h'
  .exact i9
  .have:=lt i2; simp only; omega
 .rcases ho' with rfl | h'
  .exact i10
  .have:=lt i3; simp only; omega
 .intro e
  have h1:=(numTN_le N x).2
  simp only at e
  rw [e] at h1
  exact i12 (List.eq_nil_of_length_eq_zero (by simpa using h1))
theorem PI.kid {h:AHeap} {X:List Bool} {om o:Nat} {c:Nat} {N:List TN} {oN gN:Nat} {rc:RCap} {l:List Wy} {T:Nat} {kids:List Nat} {kb:Nat} {H:AHeap} (hI:PI h X om o ⟨c,N,oN,gN,rc,l,T,kids,kb,H⟩) {ok:Nat} {cs:List AV} (hk:H[ok]?=some (.cells 0 cs))
  (h1:h.length < ok) (h2:ok ≠ om) (h3:ok ≠ o) (h4:ok ≠ oN) (h5:kb <= ok) (c':Nat) (kids':List Nat) (x:AObj) :
  PI h X om o ⟨c',N,oN,gN,rc,l,T,kids',kb,H.set ok x⟩:=by
 obtain ⟨i1,i2,i3,i4,i5,i6,i7,i8,i9,i10,i11,i12⟩:=hI
 simp only at i1 i2 i3 i4 i5 i6 i7 i8 i9 i10 i11 i12
 have k1:∀ (z:Nat) (y:AObj),H[z]?=some y -> z ≠ ok -> (H.set ok x)[z]?=some y:=fun z y hz hzo=>by
  rw [List.getElem?_set_ne (fun e=>hzo e.symm)]; exact hz
 have al:∀ w,Alive H o oN kb w -> Alive (H.set ok x) o oN kb w:=fun w ⟨a,b,d,e⟩=>⟨k1 _ _ a (by omega),b,d,e⟩
 refine ⟨fun z y hz=>k1 _ _ (i1 z y hz) ?_,k1 _ _ i2 (by omega),k1 _ _ i3 h2.symm,k1 _ _ i4 h3.symm,k1 _ _ i5 h4.symm,fun y hy w hw=>al w (i6 y hy w hw),fun w hw=>al w (i7 w hw),fun hl=>⟨k1 _ _ (i8 hl).1 ?_,(i8 hl).2⟩,i9,i10,i11,i12⟩
 .have:=(List.getElem?_eq_some_iff.1 hz).1; omega
 .intro e; simp only at e; subst e
  have:=(i8 hl).1
  rw [hk] at this; cases this
theorem PI.app {h:AHeap} {X:List Bool} {om o:Nat} {c:Nat} {N:List TN} {oN gN:Nat} {rc:RCap} {l:List Wy} {T:Nat} {kids:List Nat} {kb:Nat} {H:AHeap} (hI:PI h X om o ⟨c,N,oN,gN,rc,l,T,kids,kb,H⟩) (K:AHeap) (c':Nat) (kids':List Nat) :
  PI h X om o ⟨c',N,oN,gN,rc,l,T,kids',H.length,H++K⟩:=by
 obtain ⟨i1,i2,i3,i4,i5,i6,i7,i8,i9,i10,i11,i12⟩:=hI
 simp only at i1 i2 i3 i4 i5 i6 i7 i8 i9 i10 i11 i12
 have k1:∀ (z:Nat) (y:AObj),H[z]?=some y -> (H++K)[z]?=some y:=fun z y hz=>by
  rw [List.getElem?_append_left (List.getElem?_eq_some_iff.1 hz).1]; exact hz
 have al:∀ w,Alive H o oN kb w -> Alive (H++K) o oN H.length w:=fun w ⟨a,b,d,e⟩=>⟨k1 _ _ a,b,d,(List.getElem?_eq_some_iff.1 a).1⟩
 exact ⟨fun z y hz=>k1 _ _ (i1 z y hz),k1 _ _ i2,k1 _ _ i3,k1 _ _ i4,k1 _ _ i5,fun y hy w hw=>al w (i6 y hy w hw),fun w hw=>al w (i7 w hw),fun hl=>⟨k1 _ _ (i8 hl).1,(i8 hl).2⟩,i9,i10,i11,i12⟩
theorem PI.way {h:AHeap} {X:List Bool} {om o:Nat} {c:Nat} {N:List TN} {oN gN:Nat} {rc:RCap} {l:List Wy} {T:Nat} {kids:List Nat} {kb:Nat} {H:AHeap} (hI:PI h X om o ⟨c,N,oN,gN,rc,l,T,kids,kb,H⟩) {w:Wy} (hw:H[w.o]?=some (.cells 0 (i64s w.kids))) (h1:w.o ≠ o) (h2:w.o ≠ oN) (hkb:kb <= w.o) (c':Nat) (kids':List Nat) :
  PI h X om o ⟨c',N,oN,gN,rc,l++[w],apT H l.length T,kids',w.o+1,apG H l.length T⟩:=by
 obtain ⟨i1,i2,i3,i4,i5,i6,i7,i8,i9,i10,i11,i12⟩:=hI
 simp only at i1 i2 i3 i4 i5 i6 i7 i8 i9 i10 i11 i12
 have hT:l.length ≠ 0 -> ∃ m,H[T]?=some (.tok m):=fun hl=>⟨_,(i8 (by rintro rfl; exact hl rfl)).1⟩
 have k1:∀ (z g:Nat) (y:List AV),H[z]?=some (.cells g y) -> (apG H l.length T)[z]?=some (.cells g y):=fun z g y hz=>apG_keep hT hz (by simp)
 have al:∀ w',Alive H o oN kb w' -> Alive (apG H l.length T) o oN (w.o+1) w':=fun w' ⟨a,b,d,e⟩=>⟨k1 _ _ _ a,b,d,by omega⟩
 refine ⟨fun z y hz=>apG_keep' (i1 z y hz) (fun hl e=>?_),k1 _ _ _ i2,k1 _ _ _ i3,k1 _ _ _ i4,k1 _ _ _ i5,fun y hy w hw=>al w (i6 y hy w hw),fun w' hw'=>?_,fun _=>?_,i9,i10,i11,i12⟩
 .have:=(List.getElem?_eq_some_iff.1 hz).1; have:=(i8 (by rintro rfl; exact hl rfl)).2; omega
 .rcases List.mem_append.1 hw' with h' | h'
  .exact al w' (i7 w' h')
  .simp at h'; subst h'; exact ⟨k1 _ _ _ hw,h1,h2,Nat.lt_succ_self _⟩
 .refine ⟨by simp only; rw [apG_tok hT]; simp,?_⟩
  simp only; unfold apT
  split
  .have:=(List.getElem?_eq_some_iff.1 i2).1; omega
  .rename_i hl; exact (i8 (by rintro rfl; exact hl rfl)).2
theorem PI.node {h:AHeap} {X:List Bool} {om o:Nat} {c:Nat} {N:List TN} {oN gN:Nat} {rc:RCap} {l:List Wy} {T:Nat} {kids:List Nat} {kb:Nat} {H:AHeap} (hI:PI h X om o ⟨c,N,oN,gN,rc,l,T,kids,kb,H⟩) (k:Nat) (x:TN) (c':Nat) (kids':List Nat) :
  PI h X om o ⟨c',N.set k ⟨x.sp,l,T⟩,oN,gN,rc,[],0,kids',kb,H.set oN (.cells gN (((N.set k ⟨x.sp,l,T⟩).map encN).flatMap cellsN))⟩:=by
 obtain ⟨i1,i2,i3,i4,i5,i6,i7,i8,i9,i10,i11,i12⟩:=hI
 simp only at i1 i2 i3 i4 i5 i6 i7 i8 i9 i10 i11 i12
 have k1:∀ (y':AObj) (z:Nat) (y:AObj),H[z]?=some y -> z ≠ oN -> (H.set oN y')[z]?=some y:=fun y' z y hz hzo=>by
  rw [List.getElem?_set_ne (fun e=>hzo e.symm)]; exact hz
 have al:∀ y' w,Alive H o oN kb w -> Alive (H.set oN y') o oN kb w:=fun y' w ⟨a,b,d,e⟩=>⟨k1 _ _ _ a d,b,d,e⟩
 refine ⟨fun z y hz=>k1 _ _ _ (i1 z y hz) ?_,k1 _ _ _ i2 (by omega),k1 _ _ _ i3 i10.symm,?_,?_,fun y hy w hw=>al _ w ?_,by simp,by simp,i9,i10,i11,by simpa using i12⟩
 .have:=(List.getElem?_eq_some_iff.1 hz).1; omega
 .simp only [List.length_set]; exact k1 _ _ _ i4 i11.symm
 .simp only; rw [List.getElem?_set_self (List.getElem?_eq_some_iff.1 i5).1]
 .rcases List.mem_or_eq_of_mem_set hy with h1 | h1
  .exact i6 y h1 w hw
  .subst h1; exact i7 w hw
def Bd (m:Nat) (N:List TN):Prop:=∀ x ∈ N,x.sp.i <= m /\ x.sp.j <= m
theorem Bd.num {m:Nat} {N:List TN} (h:Bd m N) {x:Sp} (hx:x.i <= m /\ x.j <= m):Bd m (numTN N x).1:=by
 unfold numTN
 split
 .exact h
 .intro y hy
  rcases List.mem_append.1 hy with h1 | h1
  .exact h y h1
  .simp at h1; subst h1; exact hx
def Ext (N0 N:List TN):Prop:=∃ M,N=N0++M /\ ∀ y ∈ M,y.ws=[]
theorem Ext.refl (N:List TN):Ext N N:=⟨[],by simp,by simp⟩
theorem Ext.num {N0 N:List TN} (h:Ext N0 N) (x:Sp):Ext N0 (numTN N x).1:=by
 obtain ⟨M,rfl,hM⟩:=h
 unfold numTN
 split
 .exact ⟨M,rfl,hM⟩
 .exact ⟨M++[⟨x,[],0⟩],by simp,fun y hy=>by rcases List.mem_append.1 hy with h | h; exact hM y h; simp at h; subst h; rfl⟩
structure JK (m:Nat) (X:List Bool) (h:AHeap) (om o:Nat) (N0:List TN) (l2:List Wy) (T2 n ok:Nat) (st:PSt):Prop where
 pi:PI h X om o st
 ext:Ext N0 st.N
 l:st.l=l2
 T:st.T=T2
 ob:st.H[ok]?=some (.cells 0 (i64s st.kids))
 kl:st.kids.length=n
 kb:st.kb <= ok
 d:ok ≠ st.oN
 bd:Bd m st.N
theorem JK.num {m:Nat} {X:List Bool} {h:AHeap} {om o:Nat} {N0:List TN} {l2:List Wy} {T2 n ok:Nat} {c:Nat} {N:List TN} {oN gN:Nat} {rc:RCap} {l:List Wy} {T:Nat} {kids:List Nat} {kb:Nat} {H:AHeap} (hI:JK m X h om o N0 l2 T2 n ok ⟨c,N,oN,gN,rc,l,T,kids,kb,H⟩) (ho:h.length < o) (hm:om ≠ o) (hok:h.length < ok) (hokm:ok ≠ om) (hoko:ok ≠ o)
  {K:AHeap} {o' g':Nat} {rc':RCap} {x:Sp} (hK:(H++K)[o']?=some (.cells g' (((numTN N x).1.map encN).flatMap cellsN))) (ho':o'=oN \/ H.length <= o') (hxm:x.i <= m /\ x.j <= m) (c' a:Nat) :
  JK m X h om o N0 l2 T2 n ok ⟨c',(numTN N x).1,o',g',rc',l,T,kids.set a (numTN N x).2,kb,((H++K).set o (.cells 0 [.rf o' g' 0 (numTN N x).1.length rc'])).set ok (.cells 0 (i64s (kids.set a (numTN N x).2)))⟩:=by
 obtain ⟨p,e,hl,hT,ob,kl,hkb,d,bd⟩:=hI
 simp only at e hl hT ob kl hkb d bd
 have hlt:=(List.getElem?_eq_some_iff.1 ob).1
 have d':ok ≠ o':=by rcases ho' with rfl | h'; exact d; omega
 have ob':((H++K).set o (.cells 0 [.rf o' g' 0 (numTN N x).1.length rc']))[ok]?=some (.cells 0 (i64s kids)):=by
  rw [List.getElem?_set_ne (fun e=>hoko e.symm),List.getElem?_append_left hlt]; exact ob
 refine ⟨PI.kid (PI.num p ho hm hK ho' c' kids) ob' hok hokm hoko d' hkb c' _ _,e.num x,hl,hT,?_,by simpa using kl,hkb,d',bd.num hxm⟩
 simp only
 rw [List.getElem?_set_self (List.getElem?_eq_some_iff.1 ob').1]
end Go.Apx
end
