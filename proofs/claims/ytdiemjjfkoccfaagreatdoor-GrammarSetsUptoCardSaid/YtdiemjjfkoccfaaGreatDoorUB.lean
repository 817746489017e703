/- Walks: Cyclic. -/
import Derived.Test.YtdiemjjfkoccfaaGreatDoorUA
import Derived.Test.YtdiemjjfkoccfaaGreatDoorJA
import Derived.Test.YtdiemjjfkoccfaaGreatDoorZA
import Derived.Test.YtdiemjjfkoccfaaGreatDoorYB
set_option linter.unusedVariables false
set_option linter.unusedSimpArgs false
set_option linter.unnecessarySimpa false
section
namespace Go.Apx
open Go.Proofs
set_option maxRecDepth 4000
structure CY1 where
 i:Nat
 J:AHeap
structure VBI (g:Gr) (c:ByteArray -> Bool) (h:AHeap) (st:VP):Prop where
 i:st.i <= g.sorts.length
 l:st.l=(g.sorts.take st.i).filter c
 tk:st.l ≠ [] -> st.H[st.T]?=some (.tok st.l.length) /\ h.length <= st.T
 low:Low h.length h st.H
 le:h.length <= st.H.length
set_option maxHeartbeats 4000000 in
theorem pickedB_c (g:Gr) (L:List (ByteArray × Bool)) (c:ByteArray -> Bool) (o:Nat) {h:AHeap} (ho:h[o]?=some (.amap (aS bv L))) (hc:∀ s ∈ g.sorts,bF L s=some (c s)) (hs:g.sorts.length <= 2 ^ 31) :
  AEx PP Gl 58 [.mp o,aM g] h (.ret (aW 1 ((g.sorts.filter c).map sv))) h:=by
 refine enter_58 (by simp) ?_
 simp -implicitDefEqProofs [code_58,res_58,ann_58,aM]
 refine AWp.till (S:=VP) ⟨0,[],0,h⟩ (fun st=>g.sorts.length - st.i) [0,9,10] (fun st=>[(5,apd 1 (st.l.map sv) st.T),(11,i64 (st.i:Int))]) (fun st=>st.H) (VBI g c h) mixed
  ⟨by simp,by simp,by simp,Low.refl _ _,Nat.le_refl _⟩ (aI (by simp [dslot])) rfl ?_
 rintro ⟨i,l,T,H⟩ ⟨z1,z0,z2,z3,z4⟩
 simp only at z1 z0 z2 z3 z4
 have hol:=ar ho
 have hoH:H[o]?=some (.amap (aS bv L)):=z3 _ _ hol ho
 by_cases hi:i < g.sorts.length
 case neg =>
  have hno:¬ (i:Int) < g.sorts.length:=by omega
  simp -implicitDefEqProofs [lp0_58,hno]
  have hfin:l=g.sorts.filter c:=by rw [z0,List.take_of_length_le (by omega)]
  have hst:(apd 1 (l.map sv) T).strip=aW 1 (l.map sv):=strip_apd 1 _ _ _ (strip_strs l)
  refine retCut (v:=apd 1 (l.map sv) T) h.length (by simp [deferred,dslot]) (by simp [aN,aK]) (Nat.le_refl _) z4 (by rw [hst]; exact inb_strs _ _) z3.cl ?_
  rw [z3.take,hst,hfin]
  exact ⟨rfl,rfl⟩
 obtain ⟨s,hs2⟩:∃ s,g.sorts[i]?=some s:=⟨g.sorts[i],by simp [hi]⟩
 have hlt:(i:Int) < g.sorts.length:=by omega
 have hne:g.sorts ≠ []:=by intro e; rw [e] at hi; simp at hi
 have wi:IntKind.i64.wrap ((i:Int)+1)=(i:Int)+1:=IntWalk.i64_in _ (by omega)
 have hcs:=hc s (List.mem_of_getElem? hs2)
 have htk:(g.sorts.take (i+1)).filter c=l++(if c s=true then [s] else []):=by
  rw [List.take_add_one,hs2,List.filter_append,<- z0]
  by_cases e:c s=true <;> simp [e]
 cases hS:c s with
 | true =>
  rw [hS] at hcs
  simp -implicitDefEqProofs [lp0_58,hlt,hne,hs2,hoH,hcs,sv,bv]
  have hll:l.length <= g.sorts.length:=by rw [z0]; exact Nat.le_trans (List.length_filter_le _ _) (by simp; omega)
  refine appG (l.map sv) [sv s] T (by simp) (by simp [sv]) (fun hne=>by simpa using (z2 (by simpa using hne)).1) (by simp; unfold maxLenA; omega) ?_
  simp -implicitDefEqProofs [wi]
  rw [show l.map sv++[.sc (.string s)]=(l++[s]).map sv by simp [sv]]
  have hT:l.length ≠ 0 -> H[T]?=some (.tok l.length):=fun hn0=>(z2 (by rintro rfl; exact hn0 rfl)).1
  have hlow:Low h.length H (apG H l.length 1 T):=Low.apG (fun hn0=>(z2 (by rintro rfl; exact hn0 rfl)).2) z4
  refine ⟨⟨i+1,l++[s],apT H l.length 1 T,apG H l.length 1 T⟩,by simp; omega,⟨by simp; omega,by simp only; rw [htk,if_pos hS],fun _=>⟨by simp only; rw [apG_tok hT (by omega)]; simp,?_⟩,z3.trans hlow,Nat.le_trans z4 (apG_len H l.length 1 T)⟩,aI (by simp [dslot]),by simp⟩
  simp only; unfold apT
  split
  .omega
  .split
   .exact z4
   .rename_i hn0; exact (z2 (by rintro rfl; exact hn0 rfl)).2
 | false =>
  rw [hS] at hcs
  simp -implicitDefEqProofs [lp0_58,hlt,hne,hs2,hoH,hcs,sv,bv,wi]
  exact ⟨⟨i+1,l,T,H⟩,by simp; omega,⟨by simp; omega,by simp only; rw [htk,if_neg (by simp [hS])]; simp,z2,z3,z4⟩,aI (by simp [dslot]),rfl⟩
def TCl (nx:ByteArray -> Evs) (x y:ByteArray):Prop:=∀ C:ByteArray -> Prop,(∀ z,(true,z) ∈ nx x -> C z) -> (∀ z,C z -> ∀ u,(true,u) ∈ nx z -> C u) -> C y
theorem clo_tcl {nx:ByteArray -> Evs} {x:ByteArray} {b:CSt} (h:CloS nx x false [] b) (y:ByteArray):y ∈ b.S ↔ TCl nx x y:=by
 constructor
 .intro hy C c1 c2
  exact h.snd C (fun e=>by cases e) c1 c2 y hy
 .intro hy
  exact hy (fun z=>z ∈ b.S) (fun z hz=>h.cl x (.inr rfl) z hz) (fun z hz u hu=>h.cl z (.inl hz) u hu)
open Classical in
noncomputable def cyB (g:Gr) (N F:List ByteArray) (x:ByteArray):Bool:=decide (TCl (ldE g N F) x x)
theorem cyB_iff {g:Gr} {N F:List ByteArray} {x:ByteArray}:cyB g N F x=true ↔ TCl (ldE g N F) x x:=by
 unfold cyB
 exact @decide_eq_true_iff _ (Classical.propDecidable _)
noncomputable def cyM (g:Gr) (N F:List ByteArray) (i:Nat):List (ByteArray × Bool):=(g.sorts.take i).map fun y=>(y,cyB g N F y)
theorem sset_new {α:Type}:∀ {l:List (ByteArray × α)} {s:ByteArray} {v:α},(∀ p ∈ l,p.1 ≠ s) -> bE l s v=l++[(s,v)]
 | [],s,v,_=>rfl
 | (k,u) :: r,s,v,h=>by
  have hk:=h (k,u) (by simp)
  simp only at hk
  have ih:=sset_new (l:=r) (s:=s) (v:=v) fun p hp=>h p (List.mem_cons_of_mem _ hp)
  simp only [bE,if_neg (fun e=>hk (Eq.symm e)),ih,List.cons_append]
theorem sfind_tab {α:Type} (f:ByteArray -> α):∀ {l:List ByteArray} {s:ByteArray},s ∈ l -> bF (l.map fun y=>(y,f y)) s=some (f s)
 | [],s,h=>by simp at h
 | k :: r,s,h=>by
  simp only [List.map_cons,bF]
  by_cases e:s=k
  .subst e; simp
  .rw [if_neg e]
   rcases List.mem_cons.1 h with h | h
   .exact (e h).elim
   .exact sfind_tab f h
theorem cyM_step {g:Gr} {N F:List ByteArray} {i:Nat} {x:ByteArray} (hnd:g.sorts.Nodup) (h:g.sorts[i]?=some x):bE (cyM g N F i) x (cyB g N F x)=cyM g N F (i+1):=by
 unfold cyM
 rw [List.take_add_one,h,List.map_append]
 refine sset_new fun p hp=>?_
 obtain ⟨y,hy,rfl⟩:=List.mem_map.1 hp
 rintro rfl
 simp only at h
 obtain ⟨j,hj,e⟩:=List.mem_iff_getElem.1 hy
 rw [List.getElem_take] at e
 obtain ⟨hi,e2⟩:=List.getElem?_eq_some_iff.1 h
 simp at hj
 have:=(List.getElem_inj hnd).1 (e.trans e2.symm)
 omega
abbrev cyH (h:AHeap) (N F:List ByteArray) (L:List (ByteArray × Bool)):AHeap:=h++[.amap (aS bv (aT N)),.amap (aS bv (aT F)),.amap (aS bv L)]
def CyclicR (g:Gr) (h:AHeap) (r:AEnd) (h':AHeap):Prop:=h'=h /\ ((aO g ≠ 0 /\ r=.ret (.tup [.sl 0 [] .nil,i64 (aO g)])) \/
 (aO g=0 /\ ∃ N F,GrowS g noP N /\ GrowS g (fun _=>true) F /\ r=.ret (.tup [aW 1 ((g.sorts.filter (cyB g N F)).map sv),i64 0])))
set_option maxHeartbeats 4000000 in
theorem Cyclic_c (g:Gr) {h:AHeap} (hin:aO g=0 -> bA g) (hnd:aO g=0 -> g.sorts.Nodup) (hs:g.sorts.length <= 2 ^ 31) (hr:g.rules.length <= 2 ^ 31) (hp:∀ R ∈ g.rules,R.parts.length <= 2 ^ 31) (hcap:∀ R ∈ g.rules,R.parts ≠ [] -> R.cap ≠ .nil) (hc:AEx PP Gl 23 [aM g] h (.ret (i64 (aO g))) h) :
  ACalls PP Gl 31 [aM g] h (CyclicR g h):=by
 refine enter_31 (by simp) ?_
 simp -implicitDefEqProofs [code_31,res_31,ann_31,aM]
 refine aP hc (by simp [aM]) rfl ?_
 by_cases h1:aO g=0
 case neg =>
  simp -implicitDefEqProofs [h1]
  exact bx (v:=.tup [.sl 0 [] .nil,i64 (aO g)]) (by simp [deferred,dslot]) (by simp [aN,aK]) ⟨rfl,.inl ⟨h1,rfl⟩⟩
 simp -implicitDefEqProofs [h1]
 refine be (nullable_c g hr hp) (by simp [aM]) rfl ?_
 rintro r h' ⟨N,hN,rfl,rfl⟩
 simp -implicitDefEqProofs
 refine be (productive_c g hr hp) (by simp [aM]) rfl ?_
 rintro r h' ⟨F,hF,rfl,rfl⟩
 simp -implicitDefEqProofs
 have hget:∀ L (J:AHeap),(cyH h N F L++J)[h.length+2]?=some (.amap (aS bv L)):=fun L J=>by
  rw [List.getElem?_append_left (by simp)]; simp
 have hgN:∀ L (J:AHeap),(cyH h N F L++J)[h.length]?=some (.amap (aS bv (aT N))):=fun L J=>by
  rw [List.getElem?_append_left (by simp)]; simp
 have hgF:∀ L (J:AHeap),(cyH h N F L++J)[h.length+1]?=some (.amap (aS bv (aT F))):=fun L J=>by
  rw [List.getElem?_append_left (by simp)]; simp
 have hset:∀ L L' (J:AHeap),(cyH h N F L++J).set (h.length+2) (.amap (aS bv L'))=cyH h N F L'++J:=fun L L' J=>by
  rw [List.set_append_left _ _ (by simp)]; simp
 refine AWp.till (S:=CY1) ⟨0,[]⟩ (fun s=>g.sorts.length - s.i) [1,7,8,23,24] (fun s=>[(25,i64 (s.i:Int))]) (fun s=>cyH h N F (cyM g N F s.i)++s.J) (fun s=>s.i <= g.sorts.length) mixed (by simp) (aI (by simp [dslot])) (by simp [cyM]) ?_
 rintro ⟨i,J⟩ z1
 simp only at z1
 by_cases hi:i < g.sorts.length
 case neg =>
  have hie:i=g.sorts.length:=by omega
  subst hie
  have hno:¬ (g.sorts.length:Int) < g.sorts.length:=by omega
  simp -implicitDefEqProofs [lp0_31]
  refine aP (pickedB_c g (cyM g N F g.sorts.length) (cyB g N F) (h.length+2) (h:=cyH h N F (cyM g N F g.sorts.length)++J) (hget _ J) (fun s hs=>by unfold cyM; rw [List.take_length]; exact sfind_tab _ hs) hs) (by simp [aM]) (by simp) ?_
  simp -implicitDefEqProofs
  have hst:=strip_grown_sv (g.sorts.filter (cyB g N F))
  refine retCut (v:=.tup [aW 1 ((g.sorts.filter (cyB g N F)).map sv),i64 0]) h.length (by simp [deferred,dslot]) (by simp [aN,aK]) (Nat.le_refl _) (by simp) ?_ ?_ ?_
  .simp only [AV.strip,aj,hst,AV.inb,inbL,inb_grown_sv]; rfl
  .try simp only [List.append_assoc]
   exact Cl.app h _
  .simp only [AV.strip,aj,hst]
   refine ⟨by simp,.inr ⟨h1,N,F,hN,hF,rfl⟩⟩
 obtain ⟨x,hx⟩:∃ x,g.sorts[i]?=some x:=⟨g.sorts[i],by simp [hi]⟩
 have hlt:(i:Int) < g.sorts.length:=by omega
 have hne:g.sorts ≠ []:=by intro e; rw [e] at hi; simp at hi
 have wi:IntKind.i64.wrap ((i:Int)+1)=(i:Int)+1:=IntWalk.i64_in _ (by omega)
 have hst:=cyM_step (N:=N) (F:=F) (hnd h1) hx
 obtain ⟨K,hK⟩:∃ K,K=cyH h N F (cyM g N F i)++J:=⟨_,rfl⟩
 have kN:=hgN (cyM g N F i) J
 have kF:=hgF (cyM g N F i) J
 rw [<- hK] at kN kF
 have hcloc:=closure_c (LdH h.length (h.length+1) N F) (ldE g N F) g.sorts 68 [] [.ip (aM g),.ip (.mp (h.length+1)),.ip (.mp h.length)] (fun _=>K) K.length (fun _=>rfl) (fun _ _=>Cq.refl _)
  (fun st=>⟨by unfold cloB; rw [List.getElem?_append_left (ar kN)]; exact kN,by unfold cloB; rw [List.getElem?_append_left (ar kF)]; exact kF⟩) (fun B J hB=>LdH.app B J hB)
  (fun z y hy=>by
   obtain ⟨R,hR,_,k,p,hk,rfl,hal⟩:=ldE_mem.1 hy
   have hpe:p.sort ≠ emp:=fun e=>by simp [aloneF,e] at hal
   exact has_mem ((hin h1 R hR).2 p (List.mem_of_getElem? hk) hpe))
  (fun x=>⟨_,_,_,fun H=>by simpa [sv] using leads_c g x (h.length+1) h.length,leads1_c g N F h.length (h.length+1) x hr hp hcap⟩) x false []
 rw [<- hK]
 simp -implicitDefEqProofs [lp0_31,hlt,hne,hx]
 refine be hcloc (by simp [aM,sv]) rfl ?_
 rintro r h' ⟨rfl,b,hb,rfl⟩
 have hbm:(x ∈ b.S ↔ cyB g N F x=true):=(clo_tcl hb x).trans cyB_iff.symm
 have q1:(K++[AObj.amap (aS bv (aT b.S))])[h.length+2]?=some (.amap (aS bv (cyM g N F i))):=by rw [hK,List.append_assoc]; exact hget _ _
 have q2:∀ L',(K++[AObj.amap (aS bv (aT b.S))]).set (h.length+2) (.amap (aS bv L'))=cyH h N F L'++(J++[AObj.amap (aS bv (aT b.S))]):=fun L'=>by rw [hK,List.append_assoc]; exact hset _ _ _
 have q3:(K++[AObj.amap (aS bv (aT b.S))])[K.length]?=some (.amap (aS bv (aT b.S))):=by simp
 obtain ⟨K2,hK2⟩:∃ K2,K2=K++[AObj.amap (aS bv (aT b.S))]:=⟨_,rfl⟩
 rw [<- hK2] at q1 q2 q3 ⊢
 cases hcb:cyB g N F x with
 | true =>
  rw [hcb] at hst
  have hxS:x ∈ b.S:=hbm.2 hcb
  simp -implicitDefEqProofs [q1,q2,q3,hxS,hst,sv,wi]
  exact ⟨⟨i+1,J++[AObj.amap (aS bv (aT b.S))]⟩,by simp only; omega,by simp only; omega,aI (by simp [dslot]),rfl,rfl⟩
 | false =>
  rw [hcb] at hst
  have hxS:x ∉ b.S:=fun h=>by have:=hbm.1 h; rw [hcb] at this; cases this
  simp -implicitDefEqProofs [q1,q2,q3,hxS,hst,sv,wi]
  exact ⟨⟨i+1,J++[AObj.amap (aS bv (aT b.S))]⟩,by simp only; omega,by simp only; omega,aI (by simp [dslot]),rfl,rfl⟩
end Go.Apx
end
section
namespace Go.Apx
open Go.Proofs
abbrev Mx:=List (List Bool)
def bj (M:Mx) (i j:Nat):Bool:=(M.getD i []).getD j false
def setM (M:Mx) (i j:Nat) (v:Bool):Mx:=M.set i ((M.getD i []).set j v)
def Sq (n:Nat) (M:Mx):Prop:=M.length=n /\ ∀ r ∈ M,r.length=n
theorem Sq.row {n:Nat} {M:Mx} (h:Sq n M) {i:Nat} (hi:i < n):M[i]?=some (M.getD i []) /\ (M.getD i []).length=n:=by
 have h1:i < M.length:=by rw [h.1]; exact hi
 have h2:M[i]?=some M[i]:=by simp [h1]
 rw [List.getD_eq_getElem?_getD,h2]
 exact ⟨rfl,h.2 _ (List.getElem_mem h1)⟩
theorem Sq.set {n:Nat} {M:Mx} (h:Sq n M) (i j:Nat) (v:Bool):Sq n (setM M i j v):=by
 unfold setM
 by_cases hi:i < n
 .refine ⟨by simp [h.1],fun r hr=>?_⟩
  rcases List.mem_or_eq_of_mem_set hr with hr | rfl
  .exact h.2 r hr
  .rw [List.length_set]; exact (h.row hi).2
 .rw [List.set_eq_of_length_le (by rw [h.1]; omega)]; exact h
theorem Sq.get {n:Nat} {M:Mx} (h:Sq n M) {i j:Nat} (hi:i < n) (hj:j < n):(M.getD i [])[j]?=some (bj M i j):=by
 have h2:=(h.row hi).2
 unfold bj
 have h3:(M.getD i [])[j]?=some ((M.getD i [])[j]'(by omega)):=by simp [h2,hj]
 rw [List.getD_eq_getElem?_getD (l:=M.getD i []),h3]; rfl
theorem getM_set {n:Nat} {M:Mx} (h:Sq n M) {i j a b:Nat} (hi:i < n) (hj:j < n) (v:Bool):bj (setM M i j v) a b=if a=i /\ b=j then v else bj M a b:=by
 have h1:=h.1
 have h2:=(h.row hi).2
 unfold setM
 unfold bj
 rw [List.getD_eq_getElem?_getD (l:=M.set i _),List.getElem?_set]
 by_cases e:i=a
 .subst e
  rw [if_pos rfl,if_pos (by omega)]
  simp only [Option.getD_some,List.getD_eq_getElem?_getD (l:=List.set _ j v),List.getElem?_set]
  by_cases e2:j=b
  .subst e2
   rw [if_pos rfl,if_pos (by omega),if_pos (by simp)]; rfl
  .rw [if_neg e2,if_neg (fun x=>e2 x.2.symm),List.getD_eq_getElem?_getD (l:=M.getD i [])]
 .rw [if_neg e,if_neg (fun x=>e x.1.symm),<- List.getD_eq_getElem?_getD]
def MLe (M M':Mx):Prop:=∀ i j,bj M i j=true -> bj M' i j=true
theorem MLe.refl (M:Mx):MLe M M:=fun _ _ h=>h
theorem MLe.trans {a b c:Mx} (h:MLe a b) (h':MLe b c):MLe a c:=fun i j x=>h' i j (h i j x)
def wJ (k i:Nat) (M:Mx) (j:Nat):Mx:=setM M i j (bj M i j || (bj M i k && bj M k j))
def wI (n k:Nat) (M:Mx) (i:Nat):Mx:=(List.range n).foldl (wJ k i) M
def wK (n:Nat) (M:Mx) (k:Nat):Mx:=(List.range n).foldl (wI n k) M
structure MxOk (n:Nat) (T:Nat -> Nat -> Prop) (M M':Mx):Prop where
 sq:Sq n M'
 le:MLe M M'
 snd:(∀ i j,i < n -> j < n -> bj M i j=true -> T i j) -> ∀ i j,i < n -> j < n -> bj M' i j=true -> T i j
theorem MxOk.refl {n:Nat} {T:Nat -> Nat -> Prop} {M:Mx} (h:Sq n M):MxOk n T M M:=⟨h,.refl M,fun x=>x⟩
theorem MxOk.trans {n:Nat} {T:Nat -> Nat -> Prop} {a b c:Mx} (h:MxOk n T a b) (h':MxOk n T b c):MxOk n T a c:=⟨h'.sq,h.le.trans h'.le,fun x=>h'.snd (h.snd x)⟩
section
variable {n:Nat} {T:Nat -> Nat -> Prop} (hT:∀ i k j,i < n -> k < n -> j < n -> T i k -> T k j -> T i j)
include hT
theorem wJ_ok {k i j:Nat} (hk:k < n) (hi:i < n) (hj:j < n) {M:Mx} (h:Sq n M):MxOk n T M (wJ k i M j) /\ ((bj M i k && bj M k j)=true -> bj (wJ k i M j) i j=true):=by
 unfold wJ
 refine ⟨⟨h.set _ _ _,fun a b hab=>?_,fun hs a b ha hb hab=>?_⟩,fun hab=>?_⟩
 .rw [getM_set h hi hj]
  split
  .rename_i e; obtain ⟨rfl,rfl⟩:=e; simp [hab]
  .exact hab
 .rw [getM_set h hi hj] at hab
  split at hab
  .rename_i e; obtain ⟨rfl,rfl⟩:=e
   rcases Bool.or_eq_true_iff.1 hab with h1 | h1
   .exact hs _ _ ha hb h1
   .obtain ⟨h1,h2⟩:=Bool.and_eq_true_iff.1 h1
    exact hT _ _ _ ha hk hb (hs _ _ ha hk h1) (hs _ _ hk hb h2)
  .exact hs _ _ ha hb hab
 .rw [getM_set h hi hj,if_pos ⟨rfl,rfl⟩,hab,Bool.or_true]
theorem wJs_ok {k i:Nat} (hk:k < n) (hi:i < n):∀ (l:List Nat) {M:Mx},(∀ j ∈ l,j < n) -> Sq n M -> MxOk n T M (l.foldl (wJ k i) M) /\ ∀ j ∈ l,(bj M i k && bj M k j)=true -> bj (l.foldl (wJ k i) M) i j=true
 | [],M,_,h=>⟨.refl h,fun j hj=>by simp at hj⟩
 | a :: l,M,hl,h=>by
  obtain ⟨a1,a2⟩:=wJ_ok hT hk hi (hl a (by simp)) h
  obtain ⟨b1,b2⟩:=wJs_ok hk hi l (M:=wJ k i M a) (fun j hj=>hl j (by simp [hj])) a1.sq
  rw [List.foldl_cons]
  refine ⟨a1.trans b1,fun j hj hab=>?_⟩
  rcases List.mem_cons.1 hj with rfl | hj
  .exact b1.le _ _ (a2 hab)
  .obtain ⟨h1,h2⟩:=Bool.and_eq_true_iff.1 hab
   exact b2 j hj (by rw [a1.le _ _ h1,a1.le _ _ h2]; rfl)
theorem wI_ok {k i:Nat} (hk:k < n) (hi:i < n) {M:Mx} (h:Sq n M):MxOk n T M (wI n k M i) /\ ∀ j,j < n -> (bj M i k && bj M k j)=true -> bj (wI n k M i) i j=true:=by
 obtain ⟨a,b⟩:=wJs_ok hT hk hi (List.range n) (M:=M) (fun j hj=>List.mem_range.1 hj) h
 exact ⟨a,fun j hj=>b j (List.mem_range.2 hj)⟩
theorem wIs_ok {k:Nat} (hk:k < n):∀ (l:List Nat) {M:Mx},(∀ i ∈ l,i < n) -> Sq n M -> MxOk n T M (l.foldl (wI n k) M) /\ ∀ i ∈ l,∀ j,j < n -> (bj M i k && bj M k j)=true -> bj (l.foldl (wI n k) M) i j=true
 | [],M,_,h=>⟨.refl h,fun j hj=>by simp at hj⟩
 | a :: l,M,hl,h=>by
  obtain ⟨a1,a2⟩:=wI_ok hT hk (hl a (by simp)) h
  obtain ⟨b1,b2⟩:=wIs_ok hk l (M:=wI n k M a) (fun j hj=>hl j (by simp [hj])) a1.sq
  rw [List.foldl_cons]
  refine ⟨a1.trans b1,fun i hi j hj hab=>?_⟩
  rcases List.mem_cons.1 hi with rfl | hi
  .exact b1.le _ _ (a2 j hj hab)
  .obtain ⟨h1,h2⟩:=Bool.and_eq_true_iff.1 hab
   exact b2 i hi j hj (by rw [a1.le _ _ h1,a1.le _ _ h2]; rfl)
theorem wK_ok {k:Nat} (hk:k < n) {M:Mx} (h:Sq n M):MxOk n T M (wK n M k) /\ ∀ i j,i < n -> j < n -> (bj M i k && bj M k j)=true -> bj (wK n M k) i j=true:=by
 obtain ⟨a,b⟩:=wIs_ok hT hk (List.range n) (M:=M) (fun j hj=>List.mem_range.1 hj) h
 exact ⟨a,fun i j hi hj=>b i (List.mem_range.2 hi) j hj⟩
def PthM (M:Mx):Nat -> Nat -> Nat -> Prop
 | 0,i,j=>bj M i j=true
 | K+1,i,j=>PthM M K i j \/ (PthM M K i K /\ PthM M K K j)
omit hT in
theorem pth_cmp {M:Mx}:∀ (K:Nat) {i k j:Nat},k < K -> PthM M K i k -> PthM M K k j -> PthM M K i j
 | 0,i,k,j,h,_,_=>by omega
 | K+1,i,k,j,h,h1,h2=>by
  by_cases e:k=K
  .subst e
   have a:PthM M k i k:=by
    rcases h1 with h1 | h1
    .exact h1
    .exact h1.1
   have b:PthM M k k j:=by
    rcases h2 with h2 | h2
    .exact h2
    .exact h2.2
   exact .inr ⟨a,b⟩
  .have hk:k < K:=by omega
   rcases h1 with h1 | ⟨h1,h3⟩ <;> rcases h2 with h2 | ⟨h2,h4⟩
   .exact .inl (pth_cmp K hk h1 h2)
   .exact .inr ⟨pth_cmp K hk h1 h2,h4⟩
   .exact .inr ⟨h1,pth_cmp K hk h3 h2⟩
   .exact .inr ⟨h1,h4⟩
theorem wKs_ok {M:Mx} (h:Sq n M):∀ K,K <= n -> MxOk n T M ((List.range K).foldl (wK n) M) /\ ∀ i j,i < n -> j < n -> PthM M K i j -> bj ((List.range K).foldl (wK n) M) i j=true
 | 0,_=>⟨.refl h,fun i j _ _ h=>h⟩
 | K+1,hK=>by
  obtain ⟨a1,a2⟩:=wKs_ok h K (by omega)
  obtain ⟨b1,b2⟩:=wK_ok hT (k:=K) (by omega) a1.sq
  rw [List.range_succ,List.foldl_append]
  simp only [List.foldl_cons,List.foldl_nil]
  refine ⟨a1.trans b1,fun i j hi hj hp=>?_⟩
  rcases hp with hp | ⟨hp,hq⟩
  .exact b1.le _ _ (a2 i j hi hj hp)
  .exact b2 i j hi hj (by rw [a2 i K hi (by omega) hp,a2 K j (by omega) hj hq]; rfl)
end
def TcM (n:Nat) (M:Mx) (i j:Nat):Prop:=∀ C:Nat -> Prop,(∀ k,k < n -> bj M i k=true -> C k) -> (∀ k l,k < n -> l < n -> C k -> bj M k l=true -> C l) -> C j
theorem TcM.trans {n:Nat} {M:Mx} {i k j:Nat} (hk:k < n) (h:TcM n M i k) (h':TcM n M k j):TcM n M i j:=fun C c1 c2=>by
 have hk2:C k:=h C c1 c2
 exact h' C (fun l hl hm=>c2 k l hk hl hk2 hm) c2
theorem close_iff {n:Nat} {M:Mx} (h:Sq n M) {i j:Nat} (hi:i < n) (hj:j < n):bj ((List.range n).foldl (wK n) M) i j=true ↔ TcM n M i j:=by
 obtain ⟨a,b⟩:=wKs_ok (T:=TcM n M) (fun i k j hi hk hj=>TcM.trans hk) h n (Nat.le_refl _)
 constructor
 .exact a.snd (fun i j hi hj hm C c1 c2=>c1 j hj hm) i j hi hj
 .intro ht
  refine b i j hi hj ?_
  have lift:∀ K i j,bj M i j=true -> PthM M K i j:=fun K=>by
   induction K with
   | zero=>intro i j h; exact h
   | succ K ih=>intro i j h; exact .inl (ih i j h)
  exact ht (fun k=>PthM M n i k) (fun k hk hm=>lift n _ _ hm) (fun k l hk hl hc hm=>pth_cmp n hk hc (lift n _ _ hm))
def Leads (g:Gr) (x y:ByteArray):Prop:=∃ R ∈ g.rules,R.sort=x /\ ∃ (k:Nat) (p:Pt),R.parts[k]?=some p /\ p.sort ≠ emp /\ p.sort=y /\ (∃ w,Gn g y w) /\ ∀ (j:Nat) (q:Pt),R.parts[j]?=some q -> j ≠ k -> q.sort ≠ emp /\ Gn g q.sort []
def TcG (g:Gr) (x y:ByteArray):Prop:=∀ C:ByteArray -> Prop,(∀ z,Leads g x z -> C z) -> (∀ z u,C z -> Leads g z u -> C u) -> C y
theorem leads_conv {g:Gr} {x y:ByteArray}:Leads (bK g) x y ↔ Leads g x y:=by
 constructor
 .rintro ⟨R,hR,e,k,p,h1,h2,h3,⟨w,h4⟩,h5⟩
  obtain ⟨Q,hQ,rfl⟩:=List.mem_map.1 hR
  exact ⟨Q,hQ,e,k,p,h1,h2,h3,⟨w,gn_conv.1 h4⟩,fun j q hj hne=>⟨(h5 j q hj hne).1,gn_conv.1 (h5 j q hj hne).2⟩⟩
 .rintro ⟨R,hR,e,k,p,h1,h2,h3,⟨w,h4⟩,h5⟩
  exact ⟨convR R,List.mem_map.2 ⟨R,hR,rfl⟩,e,k,p,h1,h2,h3,⟨w,gn_conv.2 h4⟩,fun j q hj hne=>⟨(h5 j q hj hne).1,gn_conv.2 (h5 j q hj hne).2⟩⟩
theorem tcG_conv {g:Gr} {x y:ByteArray}:TcG (bK g) x y ↔ TcG g x y:=by
 unfold TcG
 simp only [leads_conv]
theorem rest_any {N:List ByteArray} {ps:List Pt} {k:Nat}:(ps.eraseIdx k).any (restF N)=false ↔ ∀ (j:Nat) (q:Pt),ps[j]?=some q -> j ≠ k -> q.sort ≠ emp /\ q.sort ∈ N:=by
 rw [List.any_eq_false]
 constructor
 .intro h j q hj hne
  have hm:q ∈ ps.eraseIdx k:=List.mem_eraseIdx_iff_getElem?.2 ⟨j,hne,hj⟩
  have:=h q hm
  simpa [restF] using this
 .intro h q hq
  obtain ⟨j,hne,hj⟩:=List.mem_eraseIdx_iff_getElem?.1 hq
  have:=h j q hj hne
  simp [restF,this.1,this.2]
theorem ld_leads {g:Gr} {N F:List ByteArray} (hN:GrowS g noP N) (hF:GrowS g (fun _=>true) F) {x y:ByteArray}:(true,y) ∈ ldE g N F x ↔ Leads g x y:=by
 rw [ldE_mem]
 unfold Leads
 constructor
 .rintro ⟨R,hR,e,k,p,h1,h2,h3⟩
  simp only [aloneF,Bool.and_eq_true,Bool.not_eq_true',decide_eq_false_iff_not,decide_eq_true_eq] at h3
  obtain ⟨⟨h4,h5⟩,h6⟩:=h3
  refine ⟨R,hR,e,k,p,h1,h4,h2,by rw [<- h2]; exact (full_iff hF _).1 h5,fun j q hj hne=>?_⟩
  have:=rest_any.1 h6 j q hj hne
  exact ⟨this.1,(null_iff hN _).1 this.2⟩
 .rintro ⟨R,hR,e,k,p,h1,h2,h3,h4,h5⟩
  refine ⟨R,hR,e,k,p,h1,h3,?_⟩
  simp only [aloneF,Bool.and_eq_true,Bool.not_eq_true',decide_eq_false_iff_not,decide_eq_true_eq]
  refine ⟨⟨h2,(full_iff hF _).2 (by rw [h3]; exact h4)⟩,rest_any.2 fun j q hj hne=>?_⟩
  have:=h5 j q hj hne
  exact ⟨this.1,(null_iff hN _).2 this.2⟩
theorem cyB_tc {g:Gr} {N F:List ByteArray} (hN:GrowS g noP N) (hF:GrowS g (fun _=>true) F) {x:ByteArray}:cyB g N F x=true ↔ TcG g x x:=by
 rw [cyB_iff]
 unfold TCl TcG
 constructor
 .intro h C c1 c2
  exact h C (fun z hz=>c1 z ((ld_leads hN hF).1 hz)) (fun z hz u hu=>c2 z u hz ((ld_leads hN hF).1 hu))
 .intro h C c1 c2
  exact h C (fun z hz=>c1 z ((ld_leads hN hF).2 hz)) (fun z u hz hu=>c2 z hz u ((ld_leads hN hF).2 hu))
end Go.Apx
end
section
namespace Go.Apx
open Go.Proofs
def ixN (g:Gr) (s:ByteArray):Nat:=(aw g.sorts s).toNat
theorem ixN_of {g:Gr} {s:ByteArray} (h:bU g.sorts s=true):aw g.sorts s=(ixN g s:Int) /\ ixN g s < g.sorts.length /\ g.sorts[ixN g s]?=some s:=by
 obtain ⟨i,h1,h2,h3⟩:=ai h
 have e:ixN g s=i:=by unfold ixN; rw [h2]; rfl
 rw [e]
 refine ⟨h2,h3,?_⟩
 obtain ⟨_,h4,_⟩:=List.findIdx?_eq_some_iff_getElem.1 h1
 have h5:g.sorts[i]=s:=by simpa using h4
 simp [h3,h5]
theorem ixN_inj {g:Gr} {s t:ByteArray} (h:bU g.sorts s=true) (h':bU g.sorts t=true) (e:ixN g s=ixN g t):s=t:=by
 have a:=(ixN_of h).2.2
 have b:=(ixN_of h').2.2
 rw [e] at a
 exact Option.some.inj (a.symm.trans b)
def okQ (g:Gr) (N:List Bool) (k:Nat) (q:Pt × Nat):Bool:=decide (q.2=k) || (!decide (q.1.sort=emp) && mkF g N q.1.sort)
def okB (g:Gr) (X:List Bool) (p:Pt):Bool:=!decide (p.sort=emp) && mkF g X p.sort
def okL (g:Gr) (N X:List Bool) (ps:List Pt) (p:Pt) (k:Nat):Bool:=okB g X p && ps.zipIdx.all (okQ g N k)
def linkP (g:Gr) (N X:List Bool) (R:Rl) (M:Mx) (q:Pt × Nat):Mx:=if okL g N X R.parts q.1 q.2=true then setM M (ixN g R.sort) (ixN g q.1.sort) true else M
def linkR (g:Gr) (N X:List Bool) (M:Mx) (R:Rl):Mx:=R.parts.zipIdx.foldl (linkP g N X R) M
def linkA (g:Gr) (N X:List Bool) (M:Mx):Mx:=g.rules.foldl (linkR g N X) M
def LkP (g:Gr) (N X:List Bool) (R:Rl) (q:Pt × Nat) (a b:Nat):Prop:=okL g N X R.parts q.1 q.2=true /\ a=ixN g R.sort /\ b=ixN g q.1.sort
section
variable {g:Gr} {N X:List Bool}
theorem linkP_ok {R:Rl} (hRs:bU g.sorts R.sort=true) (hRp:∀ p ∈ R.parts,p.sort ≠ emp -> bU g.sorts p.sort=true) {M:Mx} (h:Sq g.sorts.length M) {q:Pt × Nat} (hq:q ∈ R.parts.zipIdx) :
  Sq g.sorts.length (linkP g N X R M q) /\ ∀ a b,bj (linkP g N X R M q) a b=true ↔ bj M a b=true \/ LkP g N X R q a b:=by
 unfold linkP LkP
 by_cases e:okL g N X R.parts q.1 q.2=true
 .rw [if_pos e]
  have hne:q.1.sort ≠ emp:=fun e2=>by
   unfold okL okB at e
   rw [e2] at e
   simp at e
  have hm:q.1 ∈ R.parts:=by
   obtain ⟨p,k⟩:=q
   exact List.mem_of_getElem? (List.mem_zipIdx_iff_getElem?.1 hq)
  refine ⟨h.set _ _ _,fun a b=>?_⟩
  rw [getM_set h (ixN_of hRs).2.1 (ixN_of (hRp _ hm hne)).2.1]
  split
  .rename_i e2; simp [e,e2]
  .rename_i e2
   constructor
   .intro h; exact .inl h
   .rintro (h | ⟨_,h⟩)
    .exact h
    .exact (e2 h).elim
 .rw [if_neg e]
  exact ⟨h,fun a b=>⟨fun h=>.inl h,fun h=>h.elim id fun h=>(e h.1).elim⟩⟩
theorem linkPs_ok {R:Rl} (hRs:bU g.sorts R.sort=true) (hRp:∀ p ∈ R.parts,p.sort ≠ emp -> bU g.sorts p.sort=true):∀ (l:List (Pt × Nat)) {M:Mx},(∀ q ∈ l,q ∈ R.parts.zipIdx) -> Sq g.sorts.length M ->
  Sq g.sorts.length (l.foldl (linkP g N X R) M) /\ ∀ a b,bj (l.foldl (linkP g N X R) M) a b=true ↔ bj M a b=true \/ ∃ q ∈ l,LkP g N X R q a b
 | [],M,_,h=>⟨h,fun a b=>by simp⟩
 | q :: l,M,hl,h=>by
  obtain ⟨a1,a2⟩:=linkP_ok (N:=N) (X:=X) hRs hRp h (hl q (by simp))
  obtain ⟨b1,b2⟩:=linkPs_ok hRs hRp l (M:=linkP g N X R M q) (fun r hr=>hl r (by simp [hr])) a1
  rw [List.foldl_cons]
  refine ⟨b1,fun a b=>?_⟩
  rw [b2,a2]
  simp only [List.mem_cons,exists_eq_or_imp,or_assoc]
theorem linkRs_ok (hin:bA g):∀ (l:List Rl) {M:Mx},(∀ R ∈ l,R ∈ g.rules) -> Sq g.sorts.length M ->
  Sq g.sorts.length (l.foldl (linkR g N X) M) /\ ∀ a b,bj (l.foldl (linkR g N X) M) a b=true ↔ bj M a b=true \/ ∃ R ∈ l,∃ q ∈ R.parts.zipIdx,LkP g N X R q a b
 | [],M,_,h=>⟨h,fun a b=>by simp⟩
 | R :: l,M,hl,h=>by
  obtain ⟨hRs,hRp⟩:=hin R (hl R (by simp))
  obtain ⟨a1,a2⟩:=linkPs_ok (N:=N) (X:=X) hRs hRp R.parts.zipIdx (fun _ h=>h) h
  obtain ⟨b1,b2⟩:=linkRs_ok hin l (M:=linkR g N X M R) (fun r hr=>hl r (by simp [hr])) a1
  rw [List.foldl_cons]
  refine ⟨b1,fun a b=>?_⟩
  rw [b2]
  have:bj (linkR g N X M R) a b=true ↔ _:=a2 a b
  rw [this]
  simp only [List.mem_cons,exists_eq_or_imp,or_assoc]
theorem okL_iff (hM:Mks g N X) {R:Rl} (hRp:∀ p ∈ R.parts,p.sort ≠ emp -> bU g.sorts p.sort=true) {p:Pt} {k:Nat} (hk:R.parts[k]?=some p):okL g N X R.parts p k=true ↔ p.sort ≠ emp /\ (∃ w,Gn g p.sort w) /\ ∀ (j:Nat) (q:Pt),R.parts[j]?=some q -> j ≠ k -> q.sort ≠ emp /\ Gn g q.sort []:=by
 unfold okL okB
 simp only [Bool.and_eq_true,Bool.not_eq_true',decide_eq_false_iff_not,List.all_eq_true,and_assoc]
 constructor
 .rintro ⟨h1,h2,h3⟩
  refine ⟨h1,(hM.ful _ (hRp p (List.mem_of_getElem? hk) h1)).1 h2,fun j q hj hne=>?_⟩
  have:=h3 (q,j) (List.mem_zipIdx_iff_getElem?.2 hj)
  simp only [okQ,Bool.or_eq_true,decide_eq_true_eq,Bool.and_eq_true,Bool.not_eq_true',decide_eq_false_iff_not] at this
  rcases this with h | ⟨h4,h5⟩
  .exact (hne h).elim
  .exact ⟨h4,(hM.nul _ (hRp q (List.mem_of_getElem? hj) h4)).1 h5⟩
 .rintro ⟨h1,h2,h3⟩
  refine ⟨h1,(hM.ful _ (hRp p (List.mem_of_getElem? hk) h1)).2 h2,?_⟩
  rintro ⟨q,j⟩ hq
  have hj:=List.mem_zipIdx_iff_getElem?.1 hq
  simp only [okQ,Bool.or_eq_true,decide_eq_true_eq,Bool.and_eq_true,Bool.not_eq_true',decide_eq_false_iff_not]
  by_cases e:j=k
  .exact .inl e
  .obtain ⟨h4,h5⟩:=h3 j q hj e
   exact .inr ⟨h4,(hM.nul _ (hRp q (List.mem_of_getElem? hj) h4)).2 h5⟩
def zeroM (n:Nat):Mx:=List.replicate n (List.replicate n false)
theorem zeroM_sq (n:Nat):Sq n (zeroM n):=⟨by simp [zeroM],fun r hr=>by rw [List.eq_of_mem_replicate hr]; simp⟩
theorem zeroM_get (n i j:Nat):bj (zeroM n) i j=false:=by
 unfold bj zeroM
 rw [List.getD_eq_getElem?_getD,List.getD_eq_getElem?_getD,List.getElem?_replicate]
 split
 .rw [Option.getD_some,List.getElem?_replicate]; split <;> rfl
 .rfl
theorem linkA_iff (hin:bA g) (hM:Mks g N X):Sq g.sorts.length (linkA g N X (zeroM g.sorts.length)) /\ ∀ a b,bj (linkA g N X (zeroM g.sorts.length)) a b=true ↔ ∃ x y,bU g.sorts x=true /\ bU g.sorts y=true /\ a=ixN g x /\ b=ixN g y /\ Leads g x y:=by
 obtain ⟨h1,h2⟩:=linkRs_ok (N:=N) (X:=X) hin g.rules (fun _ h=>h) (zeroM_sq g.sorts.length)
 refine ⟨h1,fun a b=>?_⟩
 have:bj (linkA g N X (zeroM g.sorts.length)) a b=true ↔ _:=h2 a b
 rw [this,zeroM_get]
 constructor
 .rintro (h | ⟨R,hR,⟨p,k⟩,hq,h3,h4,h5⟩)
  .cases h
  .obtain ⟨hRs,hRp⟩:=hin R hR
   have hk:=List.mem_zipIdx_iff_getElem?.1 hq
   obtain ⟨g1,g2,g3⟩:=(okL_iff hM hRp hk).1 h3
   exact ⟨R.sort,p.sort,hRs,hRp p (List.mem_of_getElem? hk) g1,h4,h5,R,hR,rfl,k,p,hk,g1,rfl,g2,g3⟩
 .rintro ⟨x,y,hx,hy,rfl,rfl,R,hR,rfl,k,p,hk,g1,rfl,g2,g3⟩
  obtain ⟨hRs,hRp⟩:=hin R hR
  exact .inr ⟨R,hR,(p,k),List.mem_zipIdx_iff_getElem?.2 hk,(okL_iff hM hRp hk).2 ⟨g1,g2,g3⟩,rfl,rfl⟩
theorem mx_tc (hin:bA g) (hM:Mks g N X) {x y:ByteArray} (hx:bU g.sorts x=true) (hy:bU g.sorts y=true) :
  bj ((List.range g.sorts.length).foldl (wK g.sorts.length) (linkA g N X (zeroM g.sorts.length))) (ixN g x) (ixN g y)=true ↔ TcG g x y:=by
 obtain ⟨h1,h2⟩:=linkA_iff hin hM
 rw [close_iff h1 (ixN_of hx).2.1 (ixN_of hy).2.1]
 have lin:∀ {x y},Leads g x y -> bU g.sorts x=true /\ bU g.sorts y=true:=fun h=>by
  obtain ⟨R,hR,e,k,p,hk,g1,e2,_⟩:=h
  rw [<- e,<- e2]
  exact ⟨(hin R hR).1,(hin R hR).2 p (List.mem_of_getElem? hk) g1⟩
 constructor
 .intro h C c1 c2
  refine h (fun k=>∀ z,bU g.sorts z=true -> k=ixN g z -> C z) (fun k hk hm z hz e=>?_) (fun k l hk hl hc hm z hz e=>?_) y hy rfl
  .obtain ⟨a,b,ha,hb,e1,e2,hl⟩:=(h2 _ _).1 hm
   obtain rfl:=ixN_inj ha hx e1.symm
   obtain rfl:=ixN_inj hb hz (e2.symm.trans e)
   exact c1 _ hl
  .obtain ⟨a,b,ha,hb,e1,e2,hl⟩:=(h2 _ _).1 hm
   obtain rfl:=ixN_inj hb hz (e2.symm.trans e)
   exact c2 a _ (hc a ha e1) hl
 .intro h C c1 c2
  refine (h (fun z=>bU g.sorts z=true /\ C (ixN g z)) (fun z hl=>?_) (fun z u hz hl=>?_)).2
  .have:=lin hl
   exact ⟨this.2,c1 _ (ixN_of this.2).2.1 ((h2 _ _).2 ⟨x,z,this.1,this.2,rfl,rfl,hl⟩)⟩
  .have:=lin hl
   exact ⟨this.2,c2 _ _ (ixN_of this.1).2.1 (ixN_of this.2).2.1 hz.2 ((h2 _ _).2 ⟨z,u,this.1,this.2,rfl,rfl,hl⟩)⟩
end
end Go.Apx
end
