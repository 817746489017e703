/- Walks: the reference's First. -/
import Derived.Test.YtdiemjjfkoccfaaGreatDoorYB
set_option linter.unusedVariables false
set_option linter.unusedSimpArgs false
set_option linter.unnecessarySimpa false
section
namespace Go.Apx
open Go.Proofs
set_option maxRecDepth 4000
def RFirR (g:Gr) (s:ByteArray) (h:AHeap) (r:AEnd) (h':AHeap):Prop:=h'=h /\ ((sortedF g s ≠ 0 /\ r=.ret (.tup [.sl 0 [] .nil,i64 (sortedF g s)])) \/
 (sortedF g s=0 /\ ∃ l,StrictS l /\ (∀ x,x ∈ l ↔ ∃ w,Gn g s (x :: w)) /\ r=.ret (.tup [encW l,i64 0])))
set_option maxHeartbeats 2000000 in
theorem rFirst_c (g:Gr) (s:ByteArray) {h:AHeap} (hs:g.sorts.length <= 2 ^ 31) (hr:g.rules.length <= 2 ^ 31):ACalls PP Gl 12 [encG g,.sc (.string s)] h (RFirR g s h):=by
 refine enter_12 (by simp) ?_
 simp -implicitDefEqProofs [code_12,res_12,ann_12,encG]
 refine callk (rsorted_c g s hs hr) (by simp [encG]) rfl ?_
 by_cases h1:sortedF g s=0
 case neg =>
  simp -implicitDefEqProofs [h1]
  exact ret1 (v:=.tup [.sl 0 [] .nil,i64 (sortedF g s)]) (by simp [deferred,dslot]) (by simp [evalRes,evalRes1]) ⟨rfl,.inl ⟨h1,rfl⟩⟩
 obtain ⟨hck,hhs⟩:=sorted_mem h1
 have G:=gok hck
 simp -implicitDefEqProofs [h1]
 refine callr (firsts_c g G.inn hs (by have:=G.rules; omega) (fun R hR=>by have:=G.parts R hR; omega)) (by simp [encG]) rfl ?_
 rintro r h' ⟨N,X,O,hM,hI,hst,rfl,rfl⟩
 obtain ⟨q,_,hq,hql⟩:=index_of_has hhs
 have hqi:(q:Int) < g.sorts.length:=by omega
 have hOl:=hI.len
 have hOq:O[q]?=some (outAt g O s):=by
  have:=outAt_get hOl hhs
  rw [hq] at this
  simpa using this
 have hqO:q < O.length:=by omega
 have hOe:O[q]'hqO=outAt g O s:=(List.getElem?_eq_some_iff.1 hOq).2
 simp -implicitDefEqProofs
 refine callk (rindex_c g.sorts g.sc s hs) rfl rfl ?_
 rw [hq]
 simp -implicitDefEqProofs [hqi,hql,hOq,hqO,hOe,hOl]
 have hst2:(encW (outAt g O s)).strip=encW (outAt g O s):=strip_grown_sv _
 refine retCut (v:=.tup [encW (outAt g O s),i64 0]) h.length (by simp [deferred,dslot]) (by simp [evalRes,evalRes1]) (Nat.le_refl _) (by simp) ?_ (Cl.app h _) ?_
 .simp only [AV.strip,stripL,hst2,AV.inb,inbL,inb_encW]; rfl
 .simp only [AV.strip,stripL,hst2,List.take_left]
  exact ⟨rfl,.inr ⟨h1,_,outAt_srt hI.srt s,firsts_iff G.inn hM hI hst hhs,rfl⟩⟩
end Go.Apx
end
section
namespace Go.Apx
open Go.Proofs
theorem strict_eq {l u:List ByteArray} (hl:StrictS l) (hu:u.Nodup) (h:∀ x,x ∈ u ↔ x ∈ l):srtS u=l:=by
 rw [srtS_perm ((List.perm_ext_iff_of_nodup hu hl.nodup).2 h),srtS_strict hl]
end Go.Apx
end
section
namespace Go.Apx
open Go.Proofs
set_option maxRecDepth 4000
abbrev lH2 (h:AHeap) (X:List Bool) (M:List Int):AHeap:=h++[.cells 0 (X.map bl),.cells 0 (M.map i64)]
theorem lenAt_get {g:Gr} {M:List Int} {s:ByteArray} {q:Nat} (hM:M.length=g.sorts.length) (hq:indexF g.sorts s=(q:Int)) (hql:q < g.sorts.length):M[q]?=some (lenAt g M s):=by
 unfold lenAt
 rw [hq,List.getD_eq_getElem?_getD]
 have:M[q]?=some M[q]:=by simp [hM,hql]
 simp only [Int.toNat_natCast,this]; rfl
structure RLs where
 k:Nat
 more:Bool
set_option maxHeartbeats 8000000 in
theorem rLeast_c (g:Gr) (s:ByteArray) {h:AHeap} (hs:g.sorts.length <= 2 ^ 31) (hr:g.rules.length <= 2 ^ 31):ACalls PP Gl 15 [encG g,.sc (.string s)] h (LeastR g s h):=by
 refine enter_15 (by simp) ?_
 simp -implicitDefEqProofs [code_15,res_15,ann_15,encG]
 refine callk (rsorted_c g s hs hr) (by simp [encG]) rfl ?_
 by_cases h1:sortedF g s=0
 case neg =>
  simp -implicitDefEqProofs [h1]
  exact ret1 (v:=.tup [i64 0,i64 (sortedF g s)]) (by simp [deferred,dslot]) (by simp [evalRes,evalRes1]) ⟨rfl,.inl ⟨h1,rfl⟩⟩
 obtain ⟨hck,hhs⟩:=sorted_mem h1
 have G:=gok hck
 have hin:=G.inn
 simp -implicitDefEqProofs [h1]
 refine callr (grown_c g true hin hs hr G.pl) (by simp [encG]) rfl ?_
 rintro r h' ⟨X,hX,rfl,rfl⟩
 have hXl:=hX.len
 simp only at hXl
 have hS:GrowS g yesP (marked g X):=⟨closed_marked hin (hX.fix rfl),hX.snd⟩
 obtain ⟨q,_,hq,hql⟩:=index_of_has hhs
 have hqi:(q:Int) < g.sorts.length:=by omega
 have hXq:=mkF_get hXl hq hql
 have hqX:q < X.length:=by omega
 have hXe:X[q]'hqX=mkF g X s:=(List.getElem?_eq_some_iff.1 hXq).2
 have hml:g.sorts.length <= maxLenA:=by unfold maxLenA; omega
 simp -implicitDefEqProofs
 refine callk (rindex_c g.sorts g.sc s hs) rfl rfl ?_
 rw [hq]
 cases hmk:mkF g X s with
 | false =>
  simp -implicitDefEqProofs [hqi,hql,hXq,hqX,hXe,hXl,hmk]
  refine retCut (v:=.tup [i64 0,i64 5]) h.length (by simp [deferred,dslot]) (by simp [evalRes,evalRes1]) (Nat.le_refl _) (by simp) rfl (Cl.app h _) ?_
  simp only [AV.strip,stripL,List.take_left]
  exact ⟨rfl,.inr ⟨h1,_,hS,.inl ⟨by rw [mem_marked (has_mem hhs),hmk]; simp,rfl⟩⟩⟩
 | true =>
  simp -implicitDefEqProofs [hqi,hql,hXq,hqX,hXe,hXl,hmk,hml,evW]
  have hpre:∀ i,i < g.sorts.length -> (List.replicate i farI++List.replicate (g.sorts.length - i) (0:Int)).set i farI=List.replicate (i+1) farI++List.replicate (g.sorts.length - (i+1)) (0:Int):=fun i hi=>by
   rw [List.set_append_right _ _ (by simp),List.length_replicate,Nat.sub_self]
   obtain ⟨d,hd⟩:∃ d,g.sorts.length - i=d+1:=⟨g.sorts.length - i - 1,by omega⟩
   rw [hd,List.replicate_succ,List.set_cons_zero,List.replicate_succ',List.append_assoc,show g.sorts.length - (i+1)=d by omega]
   rfl
  refine AWp.cnt g.sorts.length [1,2,8] (fun i=>[(9,i64 (i:Int))]) (fun i=>lH2 h X (List.replicate i farI++List.replicate (g.sorts.length - i) (0:Int))) (fun _=>True) mixed trivial (le_of (by simp [dslot])) (by simp) (fun i hi _=>?_) fun _=>?_
  .have hlt:(i:Int) < g.sorts.length:=by omega
   have wi:IntKind.i64.wrap ((i:Int)+1)=(i:Int)+1:=IntWalk.i64_in _ (by omega)
   have hp1:=hpre i hi
   obtain ⟨M,hMd⟩:∃ M,M=List.replicate i farI++List.replicate (g.sorts.length - i) (0:Int):=⟨_,rfl⟩
   rw [<- hMd] at hp1 ⊢
   rw [<- hp1]
   have hMl:M.length=g.sorts.length:=by rw [hMd]; simp; omega
   have hiM:i < M.length:=by omega
   have hi1:i+1 <= g.sorts.length:=hi
   have hpe:List.take i (M.map i64)++i64 1000001 :: List.drop (i+1) (M.map i64)=(M.set i farI).map i64:=by
    rw [put_eq (M.map i64) i _ (by simpa using hiM),List.map_set]; rfl
   simp -implicitDefEqProofs [lp0_15,hlt,hi,hiM,hMl,wi,hi1,evW]
   exact ⟨le_of (by simp [dslot]),by simpa using hpe⟩
  simp -implicitDefEqProofs [lp0_15]
  have hM0:List.replicate g.sorts.length farI=iterL g 0:=by
   show _=g.sorts.map fun _=>farI
   rw [List.map_const']
  have hIok:∀ k,LenOk g (iterL g k):=fun k=>by
   induction k with
   | zero=>exact LenOk.zero g
   | succ k ih=>exact fold_len ih g.rules (iterL g k,false) ih
  refine AWp.till (S:=RLs) ⟨0,true⟩ (fun s=>2 * wgt (iterL g s.k)+if s.more then 1 else 0) [1,2,8] (fun s=>[(10,.sc (.bool s.more))]) (fun s=>lH2 h X (iterL g s.k)) (fun s=>s.more=false -> (roundL g (iterL g s.k)).2=false) mixed (fun e=>by cases e) (le_of (by simp [dslot])) (by rw [<- hM0]) ?_
  rintro ⟨k,more⟩ hfix
  simp only at hfix
  have hMok:=hIok k
  obtain ⟨M,hMd⟩:∃ M,M=iterL g k:=⟨_,rfl⟩
  rw [<- hMd] at hMok hfix
  cases more with
  | false =>
   have hLR:LensR g M:=⟨⟨k,hMd⟩,hfix rfl⟩
   have hMq:=lenAt_get hMok.1 hq hql
   have hqM:q < M.length:=by rw [hMok.1]; exact hql
   have hMe:M[q]'hqM=lenAt g M s:=(List.getElem?_eq_some_iff.1 hMq).2
   simp -implicitDefEqProofs only [<- hMd]
   simp -implicitDefEqProofs [lp1_15]
   refine callk (rindex_c g.sorts g.sc s hs) rfl rfl ?_
   rw [hq]
   have hms:s ∈ marked g X:=(mem_marked (has_mem hhs)).2 hmk
   have hla:=(lenAt_ok hMok s).2
   by_cases hlt:lenAt g M s < 1000001
   .simp -implicitDefEqProofs [hqi,hql,hMq,hqM,hMe,hMok.1,hlt]
    refine retCut (v:=.tup [i64 (lenAt g M s),i64 0]) h.length (by simp [deferred,dslot]) (by simp [evalRes,evalRes1]) (Nat.le_refl _) (by simp) rfl (Cl.app h _) ?_
    simp only [AV.strip,stripL,List.take_left]
    refine ⟨rfl,.inr ⟨h1,_,hS,.inr ⟨hms,M,hLR,hMok,?_⟩⟩⟩
    unfold leastV
    rw [if_neg (by unfold farI; omega)]
   .simp -implicitDefEqProofs [hqi,hql,hMq,hqM,hMe,hMok.1,hlt]
    refine retCut (v:=.tup [i64 0,i64 15]) h.length (by simp [deferred,dslot]) (by simp [evalRes,evalRes1]) (Nat.le_refl _) (by simp) rfl (Cl.app h _) ?_
    simp only [AV.strip,stripL,List.take_left]
    refine ⟨rfl,.inr ⟨h1,_,hS,.inr ⟨hms,M,hLR,hMok,?_⟩⟩⟩
    unfold leastV
    rw [if_pos (by unfold farI at *; omega)]
  | true =>
   simp -implicitDefEqProofs only [<- hMd]
   simp -implicitDefEqProofs [lp1_15]
   obtain ⟨Y,hY⟩:∃ Y:Nat -> List Int × Bool,∀ i,Y i=(g.rules.take i).foldl (roundS g) (M,false):=⟨_,fun _=>rfl⟩
   have hY0:Y 0=(M,false):=by rw [hY]; rfl
   have hYok:∀ i,LenOk g (Y i).1:=fun i=>by rw [hY]; exact fold_len hMok _ (M,false) hMok
   refine AWp.cnt g.rules.length [1,2,8] (fun i=>[(10,.sc (.bool (Y i).2)),(11,i64 (i:Int))]) (fun i=>lH2 h X (Y i).1) (fun _=>True) mixed trivial (by rw [hY0]; exact le_of (by simp [dslot])) (by rw [hY0]) (fun i hi _=>?_) fun _=>?_
   .obtain ⟨R,hR⟩:∃ R,g.rules[i]?=some R:=⟨g.rules[i],by simp [hi]⟩
    have hlt:(i:Int) < g.rules.length:=by omega
    have hne:g.rules ≠ []:=by intro e; rw [e] at hi; simp at hi
    have wi:IntKind.i64.wrap ((i:Int)+1)=(i:Int)+1:=IntWalk.i64_in _ (by omega)
    have hRm:=List.mem_of_getElem? hR
    have hpl:=G.parts R hRm
    have hYs:Y (i+1)=roundS g (Y i) R:=by rw [hY,hY,fold_take _ _ hR]
    have hok1:=hYok i
    rw [hYs]
    generalize Y i=x at hok1
    obtain ⟨Z,b⟩:=x
    simp only at hok1
    simp -implicitDefEqProofs [lp2_15,hlt,hne,hR,encR]
    refine AWp.cnt R.parts.length [1,2,8,10,11] (fun j=>[(12,i64 ((R.parts.take j).foldl (stepP g Z) 0)),(13,i64 (j:Int))]) (fun _=>lH2 h X Z) (fun _=>True) mixed trivial (le_of (by simp [dslot])) rfl (fun j hj _=>?_) fun _=>?_
    .obtain ⟨p,hpj⟩:∃ p,R.parts[j]?=some p:=⟨R.parts[j],by simp [hj]⟩
     have hlt2:(j:Int) < R.parts.length:=by omega
     have hne2:R.parts ≠ []:=by intro e; rw [e] at hj; simp at hj
     have wj:IntKind.i64.wrap ((j:Int)+1)=(j:Int)+1:=IntWalk.i64_in _ (by omega)
     have hb:=fold_ok hok1 (R.parts.take j) 0 (by unfold farI; omega)
     have hst:=fold_take (stepP g Z) 0 hpj
     rw [hst]
     generalize (R.parts.take j).foldl (stepP g Z) 0=n at hb
     have hn:0 <= n /\ n <= 1000001:=hb
     by_cases e:p.sort=emp
     .have wn:IntKind.i64.wrap (n+1)=n+1:=IntWalk.i64_in _ (by omega)
      have hm:stepP g Z n p=if 1000001 < n+1 then 1000001 else n+1:=by unfold stepP farI; rw [if_pos e]; split <;> omega
      simp -implicitDefEqProofs [lp3_15,hlt,hne,hR,encR,hlt2,hne2,hpj,encP,e,emp,wj,wn]
      exact le_of (by simp [dslot,hm])
     .have e':¬ p.sort=(⟨#[]⟩:ByteArray):=e
      obtain ⟨u,_,hu,hul⟩:=index_of_has ((hin R hRm).2 p (List.mem_of_getElem? hpj) e)
      have hui:(u:Int) < g.sorts.length:=by omega
      have hZu:=lenAt_get hok1.1 hu hul
      have huZ:u < Z.length:=by rw [hok1.1]; exact hul
      have hZe:Z[u]'huZ=lenAt g Z p.sort:=(List.getElem?_eq_some_iff.1 hZu).2
      have hla:=lenAt_ok hok1 p.sort
      have wn:IntKind.i64.wrap (n+lenAt g Z p.sort)=n+lenAt g Z p.sort:=IntWalk.i64_in _ (by unfold farI at hla; omega)
      simp -implicitDefEqProofs [lp3_15,hlt,hne,hR,encR,hlt2,hne2,hpj,encP,e',wj]
      refine callk (rindex_c g.sorts g.sc p.sort hs) rfl rfl ?_
      rw [hu]
      have hm:stepP g Z n p=if 1000001 < n+lenAt g Z p.sort then 1000001 else n+lenAt g Z p.sort:=by unfold stepP farI; rw [if_neg e]; split <;> omega
      simp -implicitDefEqProofs [hui,hul,hZu,huZ,hZe,hok1.1,wn,wj]
      exact le_of (by simp [dslot,hm])
    .rw [List.take_length]
     have hrn:R.parts.foldl (stepP g Z) 0=ruleN g Z R:=rfl
     rw [hrn]
     obtain ⟨v,_,hv,hvl⟩:=index_of_has (hin R hRm).1
     have hvi:(v:Int) < g.sorts.length:=by omega
     have hZv:=lenAt_get hok1.1 hv hvl
     have hvZ:v < Z.length:=by rw [hok1.1]; exact hvl
     have hZe:Z[v]'hvZ=lenAt g Z R.sort:=(List.getElem?_eq_some_iff.1 hZv).2
     have hv1:v+1 <= g.sorts.length:=hvl
     simp -implicitDefEqProofs [lp3_15,hlt,hne,hR,encR]
     refine callk (rindex_c g.sorts g.sc R.sort hs) rfl rfl ?_
     rw [hv]
     by_cases hg:ruleN g Z R < lenAt g Z R.sort
     .have hrs:roundS g (Z,b) R=(Z.set v (ruleN g Z R),true):=by unfold roundS; rw [if_pos hg,hv]; rfl
      rw [hrs]
      have hpe:List.take v (Z.map i64)++i64 (ruleN g Z R) :: List.drop (v+1) (Z.map i64)=(Z.set v (ruleN g Z R)).map i64:=by
       rw [put_eq (Z.map i64) v _ (by simpa using hvZ),List.map_set]
      simp -implicitDefEqProofs [hvi,hvl,hZv,hvZ,hZe,hok1.1,hg,wi,hv1,evW]
      exact ⟨le_of (by simp [dslot]),by simpa using hpe⟩
     .have hrs:roundS g (Z,b) R=(Z,b):=by unfold roundS; rw [if_neg hg]
      rw [hrs]
      simp -implicitDefEqProofs [hvi,hvl,hZv,hvZ,hZe,hok1.1,hg,wi,hv1,evW]
      exact le_of (by simp [dslot])
   .simp -implicitDefEqProofs [lp2_15]
    have hfin:Y g.rules.length=roundL g M:=by rw [hY,List.take_length]; rfl
    rw [hfin]
    have hk1:(roundL g M).1=iterL g (k+1):=by rw [hMd]; rfl
    have hw:=rounds_wgt g.rules (M,false) hMok
    refine ⟨⟨k+1,(roundL g M).2⟩,?_,fun e=>?_,le_of (by simp [dslot]),by rw [<- hk1]⟩
    .simp only [<- hk1,<- hMd]
     cases e:(roundL g M).2 with
     | false=>have hw1:wgt (roundL g M).1 <= wgt M:=hw.1; simp; omega
     | true=>have:=round_wgt hMok e; simp; omega
    .simp only at e ⊢
     have h9:=round_same e
     rw [<- hk1,h9]; exact e
end Go.Apx
end
