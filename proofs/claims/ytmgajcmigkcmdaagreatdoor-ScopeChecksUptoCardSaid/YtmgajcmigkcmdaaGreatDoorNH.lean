/- Walks: the reference's less, put, Pairs, Join. -/
import Derived.Test.YtmgajcmigkcmdaaGreatDoorNG
import Derived.Test.YtmgajcmigkcmdaaGreatDoorND
set_option linter.unusedVariables false
set_option linter.unusedSimpArgs false
set_option linter.unnecessarySimpa false
section
namespace Go.Apx
open Go.Proofs Go.Shelf
set_option maxRecDepth 4000
set_option maxHeartbeats 4000000 in
theorem less_c (p q:Pr) {h:AHeap}:AEx PP Gl 54 [encP p,encP q] h (.ret (.sc (.bool (ltP p q)))) h:=by
 have fin:∀ b:Bool,b=ltP p q -> AEnd.ret (.sc (.bool b))=AEnd.ret (.sc (.bool (ltP p q))):=fun b e=>by rw [e]
 refine enter_54 (by simp) ?_
 cases e1:Op.bytesLess p.1.toList q.1.toList with
 | true =>
  simp -implicitDefEqProofs [code_54,res_54,ann_54,encP,e1]
  exact retE (v:=.sc (.bool true)) (by simp [deferred,dslot]) rfl (fin _ (by simp [ltP,ltB,e1])) rfl
 | false =>
  by_cases e2:p.1=q.1
  .simp -implicitDefEqProofs [code_54,res_54,ann_54,encP,e1,e2]
   have e3:=e1
   rw [e2] at e3
   simp -implicitDefEqProofs [e3]
   exact retE (v:=.sc (.bool (Op.bytesLess p.2.toList q.2.toList))) (by simp [deferred,dslot]) rfl (fin _ (by simp [ltP,ltB,e2,e3])) rfl
  .simp -implicitDefEqProofs [code_54,res_54,ann_54,encP,e1,e2]
   exact retE (v:=.sc (.bool false)) (by simp [deferred,dslot]) rfl (fin _ (by simp [ltP,ltB,e1,e2])) rfl
theorem layP_stop:∀ (L:List Pr) (p:Pr) (i:Nat),(∀ k x,k < i -> L[k]?=some x -> ltP x p=true) -> (∀ x,L[i]?=some x -> ltP x p=false) -> layP L p=if L[i]?=some p then L else L.take i++[p]++L.drop i
 | [],p,i,h1,h2=>by simp [layP]
 | q :: r,p,0,h1,h2=>by
  have:=h2 q rfl
  simp [layP,this]
 | q :: r,p,i+1,h1,h2=>by
  have:=h1 0 q (by omega) rfl
  have ih:=layP_stop r p i (fun k x hk hx=>h1 (k+1) x (by omega) (by simpa using hx)) (fun x hx=>h2 x (by simpa using hx))
  simp only [layP,this,if_true,ih,List.getElem?_cons_succ]
  split <;> simp
structure PuS where
 i:Nat
set_option maxHeartbeats 4000000 in
theorem put_c (L:List Pr) (p:Pr) (hl:L.length <= 2 ^ 30) {h:AHeap}:AEx PP Gl 41 [apfV 2 (L.map encP),encP p] h (.ret (apfV 2 ((layP L p).map encP))) h:=by
 refine enter_41 (by simp) ?_
 simp -implicitDefEqProofs [code_41,res_41,ann_41]
 obtain ⟨V,hV⟩:∃ V,V=apfV 2 (L.map encP):=⟨_,rfl⟩
 rw [<- hV]
 refine AWp.till (S:=PuS) ⟨0⟩ (fun s=>L.length - s.i) [0,3] (fun s=>[(5,i64 (s.i:Int))]) (fun s=>h)
  (fun s=>s.i <= L.length /\ ∀ k x,k < s.i -> L[k]?=some x -> ltP x p=true) mixed ⟨by simp,by intro k x hk; simp at hk⟩ (le_of (by simp [dslot])) rfl ?_
 rintro ⟨i⟩ ⟨z1,z2⟩
 simp only at z1 z2
 subst hV
 have g0:Grow h.length h 0 0:=.nil _ _ _ (Nat.le_refl _)
 have g1:=g0.app (L.take i).length
 have g2:=g1.app 1
 have g3:=g2.app (L.drop i).length
 have low:=((g0.lowG (L.take i).length).trans (g1.lowG 1)).trans (g2.lowG (L.drop i).length)
 obtain ⟨A,hA⟩:∃ A,A=L.take i:=⟨_,rfl⟩
 obtain ⟨B,hB⟩:∃ B,B=L.drop i:=⟨_,rfl⟩
 have hAB:A.length+B.length=L.length:=by rw [hA,hB,List.length_take,List.length_drop]; omega
 rw [<- hA] at g1 g2 g3 low
 rw [<- hB] at g3 low
 rw [Nat.zero_add] at g1 g2 g3 low
 have hpur:purL (A.map encP++encP p :: B.map encP)=true:=by
  rw [show A.map encP++encP p :: B.map encP=(A++p :: B).map encP by simp]
  exact purL_map pur_encP _
 have pe:AV.agg [AV.sc (Value.string p.1),AV.sc (Value.string p.2)]=encP p:=rfl
 by_cases hi:i < L.length
 case neg =>
  have hno:¬ (i:Int) < L.length:=by omega
  obtain rfl:i=L.length:=by omega
  have hst:=layP_stop L p L.length z2 (fun x hx=>by simp at hx)
  rw [if_neg (by simp),<- hA,<- hB] at hst
  have hA2:List.take L.length (L.map encP)=A.map encP:=by rw [hA,List.map_take]
  have hB2:([]:List AV)=B.map encP:=by rw [hB]; simp
  simp -implicitDefEqProofs [lp0_41,apfV,hno,encP,hA2]
  refine appF [] (A.map encP) 0 (by simp) (by simp) (fun h=>(h rfl).elim) (by simp; unfold maxLenA; omega) ?_
  simp -implicitDefEqProofs
  refine appF (A.map encP) [encP p] (apT h 0 A.length 0) (by simp) (by simp [encP]) (fun hne=>by simpa using g1.tok (by simpa using hne)) (by simp; unfold maxLenA; omega) ?_
  simp -implicitDefEqProofs
  refine appF (A.map encP++[encP p]) (B.map encP) (apT (apG h 0 A.length 0) A.length 1 (apT h 0 A.length 0)) (by simp) (by simp [<- hB2]) (fun hne=>by simpa using g2.tok (by simp)) (by simp; unfold maxLenA; omega) ?_
  simp -implicitDefEqProofs
  exact retP (v:=apf 2 (A.map encP++encP p :: B.map encP) (apT (apG (apG h 0 A.length 0) A.length 1 (apT h 0 A.length 0)) (A.length+1) B.length (apT (apG h 0 A.length 0) A.length 1 (apT h 0 A.length 0)))) (v':=apfV 2 ((layP L p).map encP)) (by simp [deferred,dslot]) (by simp [evalRes,evalRes1]) (strip_apf _ _ _ _ (by rw [hst]; simp [purL_strip hpur])) (pur_apfV _ (purL_map pur_encP _)) low (by simp [apfV]) rfl
 obtain ⟨q,hq⟩:∃ a,L[i]?=some a:=⟨L[i],by simp [hi]⟩
 have hq2:L[i]=q:=by simpa [hi] using hq
 have hlt:(i:Int) < L.length:=by omega
 have wi:IntKind.i64.wrap ((i:Int)+1)=(i:Int)+1:=IntWalk.i64_in _ (by omega)
 simp -implicitDefEqProofs [lp0_41,apfV,hlt,hi,hq2,encP]
 refine callk (less_c q p) rfl rfl ?_
 simp -implicitDefEqProofs
 cases hc:ltP q p with
 | true =>
  simp -implicitDefEqProofs [wi]
  refine ⟨⟨i+1⟩,by simp; omega,⟨by simp; omega,fun k a b hk hx=>?_⟩,le_of (by simp [dslot])⟩
  rcases Nat.lt_or_ge k i with h1 | h1
  .exact z2 k (a,b) h1 hx
  .obtain rfl:k=i:=by simp at hk; omega
   rw [hq] at hx
   cases hx
   exact hc
 | false =>
  have hst:=layP_stop L p i z2 (fun x hx=>by rw [hq] at hx; cases hx; exact hc)
  have hA2:List.take i (L.map encP)=A.map encP:=by rw [hA,List.map_take]
  have hB2:List.drop i (L.map encP)=B.map encP:=by rw [hB,List.map_drop]
  have hB3:List.take (L.length - i) (B.map encP)=B.map encP:=List.take_of_length_le (by rw [List.length_map,hB,List.length_drop]; exact Nat.le_refl _)
  have hLn:¬ L=[]:=by intro e; subst e; simp at hi
  have hile:i <= L.length:=by omega
  have hieq:¬ i=L.length:=by omega
  rw [hq] at hst
  simp -implicitDefEqProofs [hlt,hi,hq2,encP]
  refine ⟨fun e1 e2=>?_,fun hn=>?_⟩
  .have e:q=p:=Prod.ext e1 e2
   subst e
   rw [if_pos rfl] at hst
   rw [hst]
   exact retE (v:=apfV 2 (L.map encP)) (by simp [deferred,dslot]) (by simp [evalRes,evalRes1,apfV]) (by simp [apfV]) rfl
  rw [if_neg (fun e=>by cases e; exact hn rfl rfl),<- hA,<- hB] at hst
  simp -implicitDefEqProofs [hile,hA2,hB2,hB3,hLn,hieq,encP]
  refine appF [] (A.map encP) 0 (by simp) (by simp) (fun h=>(h rfl).elim) (by simp; unfold maxLenA; omega) ?_
  simp -implicitDefEqProofs
  refine appF (A.map encP) [encP p] (apT h 0 A.length 0) (by simp) (by simp [encP]) (fun hne=>by simpa using g1.tok (by simpa using hne)) (by simp; unfold maxLenA; omega) ?_
  simp -implicitDefEqProofs
  refine appF (A.map encP++[encP p]) (B.map encP) (apT (apG h 0 A.length 0) A.length 1 (apT h 0 A.length 0)) (by simp) (by simp) (fun hne=>by simpa using g2.tok (by simp)) (by simp; unfold maxLenA; omega) ?_
  simp -implicitDefEqProofs
  exact retP (v:=apf 2 (A.map encP++encP p :: B.map encP) (apT (apG (apG h 0 A.length 0) A.length 1 (apT h 0 A.length 0)) (A.length+1) B.length (apT (apG h 0 A.length 0) A.length 1 (apT h 0 A.length 0)))) (v':=apfV 2 ((layP L p).map encP)) (by simp [deferred,dslot]) (by simp [evalRes,evalRes1]) (strip_apf _ _ _ _ (by rw [hst]; simp [purL_strip hpur])) (pur_apfV _ (purL_map pur_encP _)) low (by simp [apfV]) rfl
theorem layFold_len (l:List Pr):(l.foldl layP []).length <= l.length:=by simpa using foldPut_len l []
set_option maxHeartbeats 8000000 in
theorem joinR_c (a b:List Pr) (ja jb:Nat) (ca cb:Cap) (ha:ja=2 \/ a=[]) (hb:jb=2 \/ b=[]) (hl:a.length+b.length <= 2 ^ 30) {h:AHeap} :
  AEx PP Gl 29 [.sl ja (a.map encP) ca,.sl jb (b.map encP) cb] h (.ret (apfV 2 ((joinR a b).map encP))) h:=by
 refine enter_29 (by simp) ?_
 simp -implicitDefEqProofs [code_29,res_29,ann_29]
 obtain ⟨F,hF⟩:∃ F:Nat -> List Pr,F=fun i=>(a.take i).foldl layP []:=⟨_,rfl⟩
 have f0:F 0=[]:=by rw [hF]; rfl
 have fn:F a.length=a.foldl layP []:=by rw [hF]; simp only; rw [List.take_length]
 have fs:∀ i x,a[i]?=some x -> F (i+1)=layP (F i) x:=fun i x hx=>by
  rw [hF]; simp only
  rw [List.take_add_one,hx,List.foldl_append]
  rfl
 have fl:∀ i,(F i).length <= 2 ^ 30:=fun i=>by
  rw [hF]; simp only
  have:=layFold_len (a.take i)
  have:=List.length_take_le' i a
  omega
 clear hF
 refine AWp.till (S:=PuS) ⟨0⟩ (fun s=>a.length - s.i) [0,1] (fun s=>[(5,apfV 2 ((F s.i).map encP)),(6,i64 (s.i:Int))]) (fun s=>h)
  (fun s=>s.i <= a.length) mixed (by simp) (le_of (by simp [dslot,f0,apfV])) rfl ?_
 rintro ⟨i⟩ z1
 simp only at z1
 by_cases hi:i < a.length
 case neg =>
  have hno:¬ (i:Int) < a.length:=by omega
  obtain rfl:i=a.length:=by omega
  simp -implicitDefEqProofs [lp0_29,hno]
  rw [fn]
  obtain ⟨A,hA⟩:∃ A,A=a.foldl layP []:=⟨_,rfl⟩
  rw [<- hA]
  obtain ⟨G,hG⟩:∃ G:Nat -> List Pr,G=fun i=>(b.take i).foldl layP A:=⟨_,rfl⟩
  have g0:G 0=A:=by rw [hG]; rfl
  have gn:G b.length=joinR a b:=by rw [hG]; simp only; rw [List.take_length,hA,joinR,List.foldl_append]
  have gs:∀ i x,b[i]?=some x -> G (i+1)=layP (G i) x:=fun i x hx=>by
   rw [hG]; simp only
   rw [List.take_add_one,hx,List.foldl_append]
   rfl
  have gl:∀ i,(G i).length <= 2 ^ 30:=fun i=>by
   rw [hG]; simp only
   have h1:=foldPut_len (b.take i) A
   have h2:=layFold_len a
   rw [<- hA] at h2
   have:=List.length_take_le' i b
   omega
  clear hG
  refine AWp.till (S:=PuS) ⟨0⟩ (fun s=>b.length - s.i) [0,1] (fun s=>[(5,apfV 2 ((G s.i).map encP)),(7,i64 (s.i:Int))]) (fun s=>h)
   (fun s=>s.i <= b.length) mixed (by simp) (le_of (by simp [dslot,g0])) rfl ?_
  rintro ⟨q⟩ y1
  simp only at y1
  by_cases hq:q < b.length
  case neg =>
   have hno:¬ (q:Int) < b.length:=by omega
   obtain rfl:q=b.length:=by omega
   simp -implicitDefEqProofs [lp1_29,hno]
   rw [gn]
   exact retE (v:=apfV 2 ((joinR a b).map encP)) (by simp [deferred,dslot]) rfl rfl rfl
  have hlt:(q:Int) < b.length:=by omega
  have hbn:b ≠ []:=by intro e; subst e; simp at hq
  obtain rfl:=hb.resolve_right hbn
  have wi:IntKind.i64.wrap ((q:Int)+1)=(q:Int)+1:=IntWalk.i64_in _ (by omega)
  have hb2:b[q]?=some b[q]:=by simp [hq]
  obtain ⟨x,hx⟩:∃ x,x=b[q]:=⟨_,rfl⟩
  rw [<- hx] at hb2
  simp -implicitDefEqProofs [lp1_29,hlt,hq,<- hx,encP]
  refine callk (put_c (G q) x (gl q)) rfl rfl ?_
  simp -implicitDefEqProofs [wi]
  exact ⟨⟨q+1⟩,by simp; omega,by simp; omega,le_of (by simp [dslot,gs q x hb2])⟩
 have hlt:(i:Int) < a.length:=by omega
 have han:a ≠ []:=by intro e; subst e; simp at hi
 obtain rfl:=ha.resolve_right han
 have wi:IntKind.i64.wrap ((i:Int)+1)=(i:Int)+1:=IntWalk.i64_in _ (by omega)
 have ha2:a[i]?=some a[i]:=by simp [hi]
 obtain ⟨x,hx⟩:∃ x,x=a[i]:=⟨_,rfl⟩
 rw [<- hx] at ha2
 simp -implicitDefEqProofs [lp0_29,hlt,hi,<- hx,encP]
 refine callk (put_c (F i) x (fl i)) rfl rfl ?_
 simp -implicitDefEqProofs [wi]
 exact ⟨⟨i+1⟩,by simp; omega,by simp; omega,le_of (by simp [dslot,fs i x ha2])⟩
def rwP (l:List ByteArray) (a:ByteArray):List Pr:=(l.filter fun b=>ltB a b).map fun b=>(a,b)
theorem rwP_len (l:List ByteArray) (a:ByteArray):(rwP l a).length <= l.length:=by
 unfold rwP; rw [List.length_map]; exact List.length_filter_le _ _
theorem rowsP_len (l:List ByteArray):∀ m:List ByteArray,(m.flatMap (rwP l)).length <= m.length * l.length
 | []=>by simp
 | a :: m=>by
  have h1:=rwP_len l a
  have h2:=rowsP_len l m
  rw [List.flatMap_cons,List.length_append,List.length_cons,Nat.add_mul,Nat.one_mul]
  omega
set_option maxHeartbeats 8000000 in
theorem pairsR_c (l:List ByteArray) (j:Nat) (c:Cap) (hj:j=1 \/ l=[]) (hl:l.length <= 2 ^ 15) {h:AHeap} :
  AEx PP Gl 27 [.sl j (l.map sv) c] h (.ret (apfV 2 ((pairsR l).map encP))) h:=by
 have hsq:l.length * l.length <= 2 ^ 30:=Nat.le_trans (Nat.mul_le_mul hl hl) (by decide)
 refine enter_27 (by simp) ?_
 simp -implicitDefEqProofs [code_27,res_27,ann_27]
 obtain ⟨F,hF⟩:∃ F:Nat -> List Pr,F=fun i=>((l.take i).flatMap (rwP l)).foldl layP []:=⟨_,rfl⟩
 have f0:F 0=[]:=by rw [hF]; rfl
 have fn:F l.length=pairsR l:=by rw [hF]; simp only; rw [List.take_length]; rfl
 have fs:∀ i x,l[i]?=some x -> F (i+1)=(rwP l x).foldl layP (F i):=fun i x hx=>by
  rw [hF]; simp only
  rw [List.take_add_one,hx,List.flatMap_append,List.foldl_append]
  simp
 have fl:∀ i,i <= l.length -> (F i).length <= i * l.length:=fun i hi=>by
  rw [hF]; simp only
  have h1:=layFold_len ((l.take i).flatMap (rwP l))
  have h2:=rowsP_len l (l.take i)
  rw [List.length_take,Nat.min_eq_left hi] at h2
  omega
 clear hF
 refine AWp.till (S:=PuS) ⟨0⟩ (fun s=>l.length - s.i) [0] (fun s=>[(3,apfV 2 ((F s.i).map encP)),(4,i64 (s.i:Int))]) (fun s=>h)
  (fun s=>s.i <= l.length) mixed (by simp) (le_of (by simp [dslot,f0,apfV])) rfl ?_
 rintro ⟨i⟩ z1
 simp only at z1
 by_cases hi:i < l.length
 case neg =>
  have hno:¬ (i:Int) < l.length:=by omega
  obtain rfl:i=l.length:=by omega
  simp -implicitDefEqProofs [lp0_27,hno]
  rw [fn]
  exact retE (v:=apfV 2 ((pairsR l).map encP)) (by simp [deferred,dslot]) rfl rfl rfl
 have hlt:(i:Int) < l.length:=by omega
 have hln:l ≠ []:=by intro e; subst e; simp at hi
 obtain rfl:=hj.resolve_right hln
 have wi:IntKind.i64.wrap ((i:Int)+1)=(i:Int)+1:=IntWalk.i64_in _ (by omega)
 obtain ⟨a,ha⟩:∃ x,x=l[i]:=⟨_,rfl⟩
 have ha2:l[i]?=some a:=by rw [ha]; simp [hi]
 simp -implicitDefEqProofs [lp0_27,hlt,hi,<- ha]
 obtain ⟨G,hG⟩:∃ G:Nat -> List Pr,G=fun q=>(rwP (l.take q) a).foldl layP (F i):=⟨_,rfl⟩
 have g0:G 0=F i:=by rw [hG]; rfl
 have gn:G l.length=F (i+1):=by rw [hG]; simp only; rw [List.take_length,fs i a ha2]
 have gs:∀ q x,l[q]?=some x -> G (q+1)=if ltB a x=true then layP (G q) (a,x) else G q:=fun q x hx=>by
  rw [hG]; simp only
  unfold rwP
  rw [List.take_add_one,hx,List.filter_append,List.map_append,List.foldl_append]
  cases hb:ltB a x with
  | true=>simp [hb]
  | false=>simp [hb]
 have gl:∀ q,(G q).length <= 2 ^ 30:=fun q=>by
  rw [hG]; simp only
  have h1:=foldPut_len (rwP (l.take q) a) (F i)
  have h2:=rwP_len (l.take q) a
  have h3:=List.length_take_le' q l
  have h4:=fl i z1
  have h5:i * l.length+l.length <= l.length * l.length:=by
   have:=Nat.mul_le_mul_right l.length (show i+1 <= l.length from hi)
   rwa [Nat.add_mul,Nat.one_mul] at this
  omega
 clear hG
 refine AWp.till (S:=PuS) ⟨0⟩ (fun s=>l.length - s.i) [0,4] (fun s=>[(3,apfV 2 ((G s.i).map encP)),(5,i64 (s.i:Int))]) (fun s=>h)
  (fun s=>s.i <= l.length) mixed (by simp) (le_of (by simp [dslot,g0])) rfl ?_
 rintro ⟨q⟩ y1
 simp only at y1
 by_cases hq:q < l.length
 case neg =>
  have hno:¬ (q:Int) < l.length:=by omega
  obtain rfl:q=l.length:=by omega
  simp -implicitDefEqProofs [lp1_27,hno,wi]
  exact ⟨⟨i+1⟩,by simp; omega,by simp; omega,le_of (by simp [dslot,gn])⟩
 have hltq:(q:Int) < l.length:=by omega
 have wq:IntKind.i64.wrap ((q:Int)+1)=(q:Int)+1:=IntWalk.i64_in _ (by omega)
 obtain ⟨b,hb⟩:∃ x,x=l[q]:=⟨_,rfl⟩
 have hb2:l[q]?=some b:=by rw [hb]; simp [hq]
 have hlb:Op.bytesLess a.toList b.toList=ltB a b:=rfl
 cases hc:ltB a b with
 | true =>
  simp -implicitDefEqProofs [lp1_27,hltq,hq,hlt,hi,<- ha,<- hb,hlb,hc]
  refine callk (put_c (G q) (a,b) (gl q)) rfl rfl ?_
  simp -implicitDefEqProofs [wq]
  exact ⟨⟨q+1⟩,by simp; omega,by simp; omega,le_of (by simp [dslot,gs q b hb2,hc])⟩
 | false =>
  simp -implicitDefEqProofs [lp1_27,hltq,hq,hlt,hi,<- ha,<- hb,hlb,hc,wq]
  exact ⟨⟨q+1⟩,by simp; omega,by simp; omega,le_of (by simp [dslot,gs q b hb2,hc])⟩
end Go.Apx
end
section
namespace Go.Apx
open Go.Proofs Go.Shelf
set_option maxRecDepth 4000
theorem pairsR_len (l:List ByteArray) (hl:l.length <= 2 ^ 15):(pairsR l).length <= 2 ^ 30:=by
 have h1:=layFold_len (l.flatMap (rwP l))
 have h2:=rowsP_len l l
 have h3:l.length * l.length <= 2 ^ 30:=Nat.le_trans (Nat.mul_le_mul hl hl) (by decide)
 exact Nat.le_trans h1 (Nat.le_trans h2 h3)
end Go.Apx
end
