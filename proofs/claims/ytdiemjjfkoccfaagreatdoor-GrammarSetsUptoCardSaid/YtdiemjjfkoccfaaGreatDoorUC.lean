/- Walks: the reference's Cyclic, its matrix. -/
import Derived.Test.YtdiemjjfkoccfaaGreatDoorUB
set_option linter.unusedVariables false
set_option linter.unusedSimpArgs false
set_option linter.unnecessarySimpa false
namespace Go.Apx
open Go.Proofs
set_option maxRecDepth 4000
structure TK (h:AHeap) (N X:List Bool) (n:Nat) (TR:List AV) (K:Mx -> AHeap):Prop where
 gN:∀ M,(K M)[h.length]?=some (.cells 0 (N.map bl))
 gX:∀ M,(K M)[h.length+1]?=some (.cells 0 (X.map bl))
 gT:∀ M,(K M)[h.length+2]?=some (.cells 0 TR)
 tl:TR.length=n
 tr:∀ i,i < n -> TR[i]?=some (.rf (h.length+3+i) 0 0 n .full)
 gR:∀ M i r,M[i]?=some r -> (K M)[h.length+3+i]?=some (.cells 0 (r.map bl))
 sR:∀ M i r,i < M.length -> (K M).set (h.length+3+i) (.cells 0 (r.map bl))=K (M.set i r)
 low:∀ M,Low h.length h (K M)
 le:∀ M,h.length <= (K M).length
theorem okQ_step {g:Gr} {N:List Bool} {k:Nat} {ps:List Pt} {j:Nat} {p:Pt} (h:ps[j]?=some p):(ps.zipIdx.take (j+1)).all (okQ g N k)=((ps.zipIdx.take j).all (okQ g N k) && okQ g N k (p,j)):=by
 have:ps.zipIdx[j]?=some (p,j):=by rw [List.getElem?_zipIdx,h]; simp
 rw [List.take_add_one,this,List.all_append]
 simp
theorem all_stop {α:Type} {p:α -> Bool} {l:List α} {j:Nat} (h:(l.take j).all p=false):l.all p=false:=by
 rw [<- List.take_append_drop j l,List.all_append,h,Bool.false_and]
set_option maxHeartbeats 8000000 in
theorem cyc_link (g:Gr) (N X:List Bool) (TR:List AV) (K:Mx -> AHeap) {h:AHeap} {Q:APost} (hin:bA g) (hK:TK h N X g.sorts.length TR K) (hs:g.sorts.length <= 2 ^ 31) (hr:g.rules.length <= 2 ^ 31) (hp:∀ R ∈ g.rules,R.parts.length <= 2 ^ 31) (hNl:N.length=g.sorts.length) (hXl:X.length=g.sorts.length)
  (hnext:AWp ⟨PP,Gl,203,ann_32,h.length,none⟩ tl7_32 Q [(1,.ip (aM g)),(7,i64 (g.sorts.length:Int)),(8,.rf (h.length+2) 0 0 g.sorts.length .full)] (K (linkA g N X (zeroM g.sorts.length)))) :
  AWp ⟨PP,Gl,203,ann_32,h.length,none⟩ tl6_32 Q [(1,.ip (aM g)),(5,.rf h.length 0 0 g.sorts.length .full),(6,.rf (h.length+1) 0 0 g.sorts.length .full),(7,i64 (g.sorts.length:Int)),(8,.rf (h.length+2) 0 0 g.sorts.length .full)] (K (zeroM g.sorts.length)):=by
 refine AWp.go (a:=cp6_32) (b:=tl7_32) rfl ?_
 simp -implicitDefEqProofs [cp6_32]
 obtain ⟨Y,hY⟩:∃ Y:Nat -> Mx,∀ i,Y i=(g.rules.take i).foldl (linkR g N X) (zeroM g.sorts.length):=⟨_,fun _=>rfl⟩
 have hY0:Y 0=zeroM g.sorts.length:=by rw [hY]; rfl
 have hYsq:∀ i,Sq g.sorts.length (Y i):=fun i=>by rw [hY]; exact (linkRs_ok hin _ (fun R hR=>List.mem_of_mem_take hR) (zeroM_sq _)).1
 refine AWp.cnt g.rules.length [1,5,6,7,8] (fun i=>[(10,i64 (i:Int))]) (fun i=>K (Y i)) (fun _=>True) mixed trivial (aI (by simp [dslot])) (by rw [hY0]) (fun i hi _=>?_) fun _=>?_
 .obtain ⟨R,hR⟩:∃ R,g.rules[i]?=some R:=⟨g.rules[i],by simp [hi]⟩
  have hlt:(i:Int) < g.rules.length:=by omega
  have hne:g.rules ≠ []:=by intro e; rw [e] at hi; simp at hi
  have wi:IntKind.i64.wrap ((i:Int)+1)=(i:Int)+1:=IntWalk.i64_in _ (by omega)
  have hRm:=List.mem_of_getElem? hR
  obtain ⟨hRs,hRp⟩:=hin R hRm
  have hpl:=hp R hRm
  have hYs:Y (i+1)=linkR g N X (Y i) R:=by rw [hY,hY,fold_take _ _ hR]
  have hsqi:=hYsq i
  rw [hYs]
  generalize Y i=M0 at hsqi
  simp -implicitDefEqProofs [lp1_32,hlt,hne,hR,ab,aM]
  obtain ⟨Z,hZ⟩:∃ Z:Nat -> Mx,∀ k,Z k=(R.parts.zipIdx.take k).foldl (linkP g N X R) M0:=⟨_,fun _=>rfl⟩
  have hZ0:Z 0=M0:=by rw [hZ]; rfl
  have hZsq:∀ k,Sq g.sorts.length (Z k):=fun k=>by rw [hZ]; exact (linkPs_ok hRs hRp _ (fun q hq=>List.mem_of_mem_take hq) hsqi).1
  refine AWp.cnt R.parts.length [1,5,6,7,8,10,11] (fun k=>[(12,i64 (k:Int))]) (fun k=>K (Z k)) (fun _=>True) mixed trivial (aI (by simp [dslot])) (by rw [hZ0]) (fun k hk _=>?_) fun _=>?_
  .obtain ⟨p,hpk⟩:∃ p,R.parts[k]?=some p:=⟨R.parts[k],by simp [hk]⟩
   have hltk:(k:Int) < R.parts.length:=by omega
   have hnek:R.parts ≠ []:=by intro e; rw [e] at hk; simp at hk
   have wk:IntKind.i64.wrap ((k:Int)+1)=(k:Int)+1:=IntWalk.i64_in _ (by omega)
   have hzk:R.parts.zipIdx[k]?=some (p,k):=by rw [List.getElem?_zipIdx,hpk]; simp
   have hZs:Z (k+1)=linkP g N X R (Z k) (p,k):=by rw [hZ,hZ,fold_take _ _ hzk]
   have hsqk:=hZsq k
   rw [hZs]
   generalize Z k=M at hsqk
   by_cases e:p.sort=emp
   .have hno:linkP g N X R M (p,k)=M:=by unfold linkP; rw [if_neg (by simp [okL,okB,e])]
    rw [hno]
    simp -implicitDefEqProofs [lp2_32,hltk,hnek,hpk,encP,e,emp]
    refine AWp.cnt 0 [1,5,6,7,8,10,11,12,13] (fun j=>[(14,i64 (j:Int))]) (fun _=>K M) (fun j=>True) mixed trivial (aI (by simp [dslot])) rfl (fun j hj _=>absurd hj (Nat.not_lt_zero _)) fun _=>?_
    simp -implicitDefEqProofs [lp3_32,wk]
    exact aI (by simp [dslot])
   have e':¬ p.sort=(⟨#[]⟩:ByteArray):=e
   have hps:=hRp p (List.mem_of_getElem? hpk) e
   obtain ⟨u,_,hu,hul⟩:=ai hps
   have hui:(u:Int) < g.sorts.length:=by omega
   have huN:ixN g p.sort=u:=by unfold ixN; rw [hu]; rfl
   have hXu:=mkF_get hXl hu hul
   have huX:u < X.length:=by omega
   have hXe:X[u]'huX=mkF g X p.sort:=(List.getElem?_eq_some_iff.1 hXu).2
   have hgX:=hK.gX M
   simp -implicitDefEqProofs [lp2_32,hltk,hnek,hpk,encP,e']
   refine aP (bp g.sorts g.sc p.sort hs) rfl rfl ?_
   rw [hu]
   cases hmx:mkF g X p.sort with
   | false =>
    have hno:linkP g N X R M (p,k)=M:=by unfold linkP; rw [if_neg (by simp [okL,okB,hmx])]
    rw [hno]
    simp -implicitDefEqProofs [hui,hul,hgX,hXu,huX,hXe,hXl,hmx]
    refine AWp.cnt 0 [1,5,6,7,8,10,11,12,13] (fun j=>[(14,i64 (j:Int))]) (fun _=>K M) (fun j=>True) mixed trivial (aI (by simp [dslot])) rfl (fun j hj _=>absurd hj (Nat.not_lt_zero _)) fun _=>?_
    simp -implicitDefEqProofs [lp3_32,wk]
    exact aI (by simp [dslot])
   | true =>
    simp -implicitDefEqProofs [hui,hul,hgX,hXu,huX,hXe,hXl,hmx]
    refine AWp.till (S:=Nat) 0 (fun j=>R.parts.length+1 - j) [1,5,6,7,8,10,11,12] (fun j=>[(13,bl ((R.parts.zipIdx.take j).all (okQ g N k))),(14,i64 (j:Int))]) (fun _=>K M) (fun j=>j <= R.parts.length) mixed (by simp) (aI (by simp [dslot])) rfl ?_
    intro j hj
    cases hst:(R.parts.zipIdx.take j).all (okQ g N k) with
    | false =>
     have hno:linkP g N X R M (p,k)=M:=by unfold linkP; rw [if_neg (by simp only [okL]; rw [all_stop hst]; simp)]
     rw [hno]
     simp -implicitDefEqProofs [lp3_32,wk]
     exact aI (by simp [dslot])
    | true =>
     by_cases hjl:j < R.parts.length
     .obtain ⟨q,hq⟩:∃ q,R.parts[j]?=some q:=⟨R.parts[j],by simp [hjl]⟩
      have hltj:(j:Int) < R.parts.length:=by omega
      have wj:IntKind.i64.wrap ((j:Int)+1)=(j:Int)+1:=IntWalk.i64_in _ (by omega)
      have hstep:=okQ_step (g:=g) (N:=N) (k:=k) hq
      rw [hst,Bool.true_and] at hstep
      by_cases hjk:j=k
      .have hqq:okQ g N k (q,j)=true:=by simp [okQ,hjk]
       rw [hqq] at hstep
       subst hjk
       simp -implicitDefEqProofs [lp3_32,hltj,wj]
       exact ⟨j+1,by omega,by omega,aI (by rw [hstep]; simp [dslot])⟩
      .have hjk':¬ (j:Int)=k:=by omega
       by_cases hqe:q.sort=emp
       .have hqq:okQ g N k (q,j)=false:=by simp [okQ,hjk,hqe]
        rw [hqq] at hstep
        simp -implicitDefEqProofs [lp3_32,hltj,hjk',wj,hnek,hq,encP,hqe,emp]
        exact ⟨j+1,by omega,by omega,aI (by rw [hstep]; simp [dslot])⟩
       .have hqe':¬ q.sort=(⟨#[]⟩:ByteArray):=hqe
        have hqs:=hRp q (List.mem_of_getElem? hq) hqe
        obtain ⟨v,_,hv,hvl⟩:=ai hqs
        have hvi:(v:Int) < g.sorts.length:=by omega
        have hNv:=mkF_get hNl hv hvl
        have hvN:v < N.length:=by omega
        have hNe:N[v]'hvN=mkF g N q.sort:=(List.getElem?_eq_some_iff.1 hNv).2
        have hgN:=hK.gN M
        have hqq:okQ g N k (q,j)=mkF g N q.sort:=by simp [okQ,hjk,hqe]
        rw [hqq] at hstep
        simp -implicitDefEqProofs [lp3_32,hltj,hjk',wj,hnek,hq,encP,hqe']
        refine aP (bp g.sorts g.sc q.sort hs) rfl rfl ?_
        rw [hv]
        simp -implicitDefEqProofs [hvi,hvl,hgN,hNv,hvN,hNe,hNl,wj]
        exact ⟨j+1,by omega,by omega,aI (by rw [hstep]; simp [dslot])⟩
     .have hje:j=R.parts.length:=by omega
      subst hje
      have hall:okL g N X R.parts p k=true:=by
       rw [List.take_of_length_le (by simp)] at hst
       simp [okL,okB,e,hmx,hst]
      obtain ⟨a,_,ha,hal⟩:=ai hRs
      have haN:ixN g R.sort=a:=by unfold ixN; rw [ha]; rfl
      have hai:(a:Int) < g.sorts.length:=by omega
      have hyes:linkP g N X R M (p,k)=setM M a u true:=by unfold linkP; rw [if_pos hall,haN,huN]
      rw [hyes]
      have hgT:=hK.gT M
      have hTa:=hK.tr a hal
      have haT:a < TR.length:=by rw [hK.tl]; exact hal
      have hTe:TR[a]'haT=.rf (h.length+3+a) 0 0 g.sorts.length .full:=(List.getElem?_eq_some_iff.1 hTa).2
      have hTl:=hK.tl
      obtain ⟨r1,r2⟩:=hsqk.row hal
      obtain ⟨row,hrow⟩:∃ row,row=M.getD a []:=⟨_,rfl⟩
      rw [<- hrow] at r1 r2
      have hgR:=hK.gR M a row r1
      have hsR:=hK.sR M a (row.set u true) (by rw [hsqk.1]; exact hal)
      have hsm:setM M a u true=M.set a (row.set u true):=by unfold setM; rw [hrow]
      have hu1:u+1 <= g.sorts.length:=hul
      have hur:u < row.length:=by omega
      have hpe:List.take u (row.map bl)++bl true :: List.drop (u+1) (row.map bl)=(row.set u true).map bl:=by
       rw [put_eq (row.map bl) u _ (by simpa using hur),List.map_set]
      rw [hsm]
      simp -implicitDefEqProofs [lp3_32,hlt,hne,hR,ab,hltk,hnek,hpk,encP]
      refine aP (bp g.sorts g.sc R.sort hs) rfl rfl ?_
      rw [ha]
      simp -implicitDefEqProofs [hai,hal,hgT,hTa,haT,hTe,hTl]
      refine aP (bp g.sorts g.sc p.sort hs) rfl rfl ?_
      rw [hu]
      simp -implicitDefEqProofs [hui,hul,hgR,r2,hu1,evW,wk]
      exact ⟨by simp [hgT,hTa,haT,hTe],aI (by simp [dslot]),(congrArg (fun c=>(K M).set (h.length+3+a) (.cells 0 c)) hpe).trans hsR⟩
  .simp -implicitDefEqProofs [lp2_32,wi]
   refine ⟨aI (by simp [dslot]),?_⟩
   rw [hZ,List.take_of_length_le (by simp)]; rfl
 .have hfin:Y g.rules.length=linkA g N X (zeroM g.sorts.length):=by rw [hY,List.take_length]; rfl
  rw [hfin]
  simp -implicitDefEqProofs [lp1_32,aM]
  exact hnext.weaken (aI (by simp [dslot,aM]))
end Go.Apx
