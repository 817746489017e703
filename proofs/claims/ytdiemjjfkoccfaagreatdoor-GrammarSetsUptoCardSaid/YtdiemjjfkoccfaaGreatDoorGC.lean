/- Plain law: the marks of the reference (aW). -/
import Derived.Test.YtdiemjjfkoccfaaGreatDoorGB
set_option linter.unusedVariables false
set_option linter.unusedSimpArgs false
set_option linter.unnecessarySimpa false
section
namespace Go.Apx
open Go.Proofs
set_option maxRecDepth 4000
def mkF (g:Gr) (X:List Bool) (s:ByteArray):Bool:=X.getD (aw g.sorts s).toNat false
def partM (g:Gr) (symb:Bool) (X:List Bool) (p:Pt):Bool:=if p.sort=emp then symb else mkF g X p.sort
def ruleM (g:Gr) (symb:Bool) (X:List Bool) (r:Rl):Bool:=!mkF g X r.sort && r.parts.all (partM g symb X)
def bQ (g:Gr) (symb:Bool) (x:List Bool × Bool) (r:Rl):List Bool × Bool :=
 if ruleM g symb x.1 r=true then (x.1.set (aw g.sorts r.sort).toNat true,true) else x
def bY (g:Gr) (X:List Bool):List ByteArray:=g.sorts.filter (mkF g X)
theorem marks_true (g:Gr) (symb:Bool):∀ (l:List Rl) (x:List Bool × Bool),x.2=true -> (l.foldl (bQ g symb) x).2=true
 | [],x,h=>h
 | r :: l,x,h=>by
  rw [List.foldl_cons]
  refine marks_true g symb l _ ?_
  unfold bQ
  split
  .rfl
  .exact h
theorem marks_same (g:Gr) (symb:Bool):∀ (l:List Rl) (x:List Bool × Bool),(l.foldl (bQ g symb) x).2=false -> l.foldl (bQ g symb) x=x /\ ∀ r ∈ l,ruleM g symb x.1 r=false
 | [],x,_=>⟨rfl,fun r hr=>by cases hr⟩
 | r :: l,x,h=>by
  rw [List.foldl_cons] at h ⊢
  by_cases e:ruleM g symb x.1 r=true
  .have e1:bQ g symb x r=(x.1.set (aw g.sorts r.sort).toNat true,true):=by unfold bQ; rw [if_pos e]
   rw [e1,marks_true g symb l _ rfl] at h
   cases h
  .have e1:bQ g symb x r=x:=by unfold bQ; rw [if_neg e]
   rw [e1] at h ⊢
   obtain ⟨h1,h2⟩:=marks_same g symb l x h
   refine ⟨h1,fun q hq=>?_⟩
   rcases List.mem_cons.1 hq with rfl | hq
   .simpa using e
   .exact h2 q hq
theorem mem_marked {g:Gr} {X:List Bool} {s:ByteArray} (hs:s ∈ g.sorts):s ∈ bY g X ↔ mkF g X s=true:=by
 unfold bY
 rw [List.mem_filter]
 exact ⟨fun h=>h.2,fun h=>⟨hs,h⟩⟩
theorem has_mem {l:List ByteArray} {s:ByteArray} (h:bU l s=true):s ∈ l:=by
 obtain ⟨i,h1,_,h3⟩:=ai h
 obtain ⟨h4,h5,_⟩:=List.findIdx?_eq_some_iff_getElem.1 h1
 have:l[i]=s:=by simpa using h5
 rw [<- this]
 exact List.getElem_mem h4
theorem refF_part {g:Gr} {symb:Bool} {X:List Bool} {p:Pt} (hs:p.sort ≠ emp -> bU g.sorts p.sort=true):refF (bY g X) (fun _=>symb) p=!partM g symb X p:=by
 unfold refF partM
 by_cases e:p.sort=emp
 .rw [if_pos e,if_pos e]
 .rw [if_neg e,if_neg e]
  have:=mem_marked (X:=X) (has_mem (hs e))
  by_cases h:mkF g X p.sort=true
  .rw [h]; simp [this.2 h]
  .have h2:¬ p.sort ∈ bY g X:=fun h3=>h (this.1 h3)
   simp [h2,h]
theorem any_part {g:Gr} {symb:Bool} {X:List Bool} {l:List Pt} (hs:∀ p ∈ l,p.sort ≠ emp -> bU g.sorts p.sort=true):l.any (refF (bY g X) (fun _=>symb))=!l.all (partM g symb X):=by
 induction l with
 | nil=>rfl
 | cons p l ih =>
  rw [List.any_cons,List.all_cons,refF_part (hs p (by simp)),ih (fun q hq=>hs q (by simp [hq]))]
  cases partM g symb X p <;> simp
theorem closed_marked {g:Gr} {symb:Bool} {X:List Bool} (hin:bA g) (h:∀ r ∈ g.rules,ruleM g symb X r=false):ClosedS g (fun _=>symb) (bY g X):=by
 intro R hR ha
 rw [any_part (hin R hR).2] at ha
 have h1:=h R hR
 unfold ruleM at h1
 refine (mem_marked (has_mem (hin R hR).1)).2 ?_
 cases e:mkF g X R.sort with
 | true=>rfl
 | false=>rw [e] at h1; simp at h1 ha; obtain ⟨x,hx,h2⟩:=h1; rw [ha x hx] at h2; cases h2
def SoundM (g:Gr) (symb:Bool) (X:List Bool):Prop:=∀ C:List ByteArray,ClosedS g (fun _=>symb) C -> ∀ s ∈ bY g X,s ∈ C
theorem mkF_set {g:Gr} {X:List Bool} {s t:ByteArray} (hl:X.length=g.sorts.length) (hs:bU g.sorts s=true) (ht:bU g.sorts t=true):mkF g (X.set (aw g.sorts s).toNat true) t=(mkF g X t || decide (t=s)):=by
 obtain ⟨i,h1,h2,h3⟩:=ai hs
 obtain ⟨j,g1,g2,g3⟩:=ai ht
 unfold mkF
 rw [h2,g2]
 have ei:g.sorts[i]=s:=by simpa using (List.findIdx?_eq_some_iff_getElem.1 h1).2.1
 have ej:g.sorts[j]=t:=by simpa using (List.findIdx?_eq_some_iff_getElem.1 g1).2.1
 simp only [Int.toNat_natCast,List.getD_eq_getElem?_getD,List.getElem?_set]
 by_cases e:i=j
 .subst e
  have:t=s:=ej.symm.trans ei
  simp [this,hl,h3]
 .have hne:¬ t=s:=by
   intro h4
   subst h4
   rw [h1] at g1
   exact e (Option.some.inj g1)
  simp [e,hne]
theorem mem_has {l:List ByteArray} {s:ByteArray} (h:s ∈ l):bU l s=true:=by
 unfold bU aw placeF
 cases e:l.findIdx? (fun x=>decide (x=s)) with
 | none =>
  have:=List.findIdx?_eq_none_iff.1 e s h
  simp at this
 | some i=>simp
theorem sound_step {g:Gr} {symb:Bool} {x:List Bool × Bool} {r:Rl} (hin:bA g) (hl:x.1.length=g.sorts.length) (hr:r ∈ g.rules) (h:SoundM g symb x.1):SoundM g symb (bQ g symb x r).1:=by
 unfold bQ
 split
 .rename_i hm
  intro C hC t ht
  have hts:t ∈ g.sorts:=(List.mem_filter.1 ht).1
  have h2:=(mem_marked hts).1 ht
  rw [mkF_set hl (hin r hr).1 (mem_has hts)] at h2
  rcases Bool.or_eq_true_iff.1 h2 with h3 | h3
  .exact h C hC t ((mem_marked hts).2 h3)
  .have:t=r.sort:=by simpa using h3
   subst this
   refine hC r hr (refF_mono (h C hC) ?_)
   rw [any_part (hin r hr).2]
   unfold ruleM at hm
   simp only [Bool.and_eq_true] at hm
   rw [hm.2]; rfl
 .exact h
def offM:List Bool -> Nat
 | []=>0
 | b :: X=>(if b=true then 0 else 1)+offM X
theorem offM_set:∀ (X:List Bool) (i:Nat),X[i]?=some false -> offM (X.set i true) < offM X
 | [],i,h=>by simp at h
 | b :: X,0,h=>by simp at h; subst h; simp [offM]
 | b :: X,i+1,h=>by
  have:=offM_set X i (by simpa using h)
  simp only [List.set_cons_succ,offM]
  omega
theorem roundM_off {g:Gr} {symb:Bool} {x:List Bool × Bool} {r:Rl} (hl:x.1.length=g.sorts.length) (hs:bU g.sorts r.sort=true) :
  (bQ g symb x r).1.length=g.sorts.length /\ offM (bQ g symb x r).1 <= offM x.1 /\ (ruleM g symb x.1 r=true -> offM (bQ g symb x r).1 < offM x.1):=by
 unfold bQ
 by_cases e:ruleM g symb x.1 r=true
 .rw [if_pos e]
  obtain ⟨i,h1,h2,h3⟩:=ai hs
  have h4:x.1[i]?=some false:=by
   unfold ruleM mkF at e
   simp only [Bool.and_eq_true,Bool.not_eq_true',h2,Int.toNat_natCast,List.getD_eq_getElem?_getD] at e
   have h5:x.1[i]?=some x.1[i]:=by simp [hl,h3]
   rw [h5] at e ⊢
   simpa using e.1
  have:=offM_set x.1 i h4
  rw [h2]
  exact ⟨by simpa using hl,Nat.le_of_lt this,fun _=>this⟩
 .rw [if_neg e]
  exact ⟨hl,Nat.le_refl _,fun h=>(e h).elim⟩
theorem marks_off {g:Gr} {symb:Bool} (hin:bA g):∀ (l:List Rl) (x:List Bool × Bool),(∀ r ∈ l,r ∈ g.rules) -> x.1.length=g.sorts.length -> SoundM g symb x.1 ->
  (l.foldl (bQ g symb) x).1.length=g.sorts.length /\ SoundM g symb (l.foldl (bQ g symb) x).1 /\ offM (l.foldl (bQ g symb) x).1 <= offM x.1 /\ (x.2=false -> (l.foldl (bQ g symb) x).2=true -> offM (l.foldl (bQ g symb) x).1 < offM x.1)
 | [],x,_,hl,hsd=>⟨hl,hsd,Nat.le_refl _,fun h h'=>by rw [List.foldl_nil,h] at h'; cases h'⟩
 | r :: l,x,hm,hl,hsd=>by
  rw [List.foldl_cons]
  have hr:=hm r (by simp)
  obtain ⟨h0,h1,h2⟩:=roundM_off (symb:=symb) hl (hin r hr).1
  obtain ⟨h3,h4,h5,h6⟩:=marks_off hin l (bQ g symb x r) (fun q hq=>hm q (by simp [hq])) h0 (sound_step hin hl hr hsd)
  refine ⟨h3,h4,Nat.le_trans h5 h1,fun he ht=>?_⟩
  by_cases e:ruleM g symb x.1 r=true
  .exact Nat.lt_of_le_of_lt h5 (h2 e)
  .have e1:bQ g symb x r=x:=by unfold bQ; rw [if_neg e]
   rw [e1] at h6 ht ⊢
   exact h6 he ht
end Go.Apx
end
section
namespace Go.Apx
open Go.Proofs
set_option maxRecDepth 4000
structure MSt where
 X:List Bool
 more:Bool
structure MInv (g:Gr) (symb:Bool) (s:MSt):Prop where
 len:s.X.length=g.sorts.length
 snd:SoundM g symb s.X
 fix:s.more=false -> ∀ r ∈ g.rules,ruleM g symb s.X r=false
abbrev marksH (h:AHeap) (X:List Bool):AHeap:=h++[.cells 0 (X.map bl)]
set_option maxHeartbeats 4000000 in
theorem grown_c (g:Gr) (symb:Bool) {h:AHeap} (hin:bA g) (hs:g.sorts.length <= 2 ^ 31) (hr:g.rules.length <= 2 ^ 31) (hp:∀ R ∈ g.rules,R.parts.length <= 2 ^ 31) :
  ACalls PP Gl 49 [aM g,bl symb] h (fun r h'=>∃ X,MInv g symb ⟨X,false⟩ /\ r=.ret (.rf h.length 0 0 g.sorts.length .full) /\ h'=marksH h X):=by
 refine enter_49 (by simp) ?_
 have hml:g.sorts.length <= maxLenA:=by unfold maxLenA; omega
 simp -implicitDefEqProofs [code_49,res_49,ann_49,aM,hml,evW]
 rw [show List.replicate g.sorts.length (AV.sc (.bool false))=(List.replicate g.sorts.length false).map bl by simp]
 refine AWp.till (S:=MSt) ⟨List.replicate g.sorts.length false,true⟩ (fun s=>2 * offM s.X+if s.more then 1 else 0) [1,2,5] (fun s=>[(6,.sc (.bool s.more))]) (fun s=>marksH h s.X) (MInv g symb) mixed
  ⟨by simp,fun C _ t ht=>?_,fun e=>by cases e⟩ (aI (by simp [dslot])) rfl ?_
 .have h1:=(List.mem_filter.1 ht).2
  unfold mkF at h1
  rw [List.getD_eq_getElem?_getD,List.getElem?_replicate] at h1
  split at h1 <;> simp at h1
 .rintro ⟨X,more⟩ ⟨hlen,hsd,hfix⟩
  simp only at hlen hsd hfix
  cases more with
  | false =>
   simp -implicitDefEqProofs [lp0_49]
   exact bx (v:=.rf h.length 0 0 g.sorts.length .full) (by simp [deferred,dslot]) (by simp [aN,aK]) ⟨X,⟨hlen,hsd,hfix⟩,rfl,rfl⟩
  | true =>
   simp -implicitDefEqProofs [lp0_49]
   obtain ⟨Y,hY⟩:∃ Y:Nat -> List Bool × Bool,∀ i,Y i=(g.rules.take i).foldl (bQ g symb) (X,false):=⟨_,fun _=>rfl⟩
   have hY0:Y 0=(X,false):=by rw [hY]; rfl
   have hYok:∀ i,(Y i).1.length=g.sorts.length:=fun i=>by rw [hY]; exact (marks_off hin _ (X,false) (fun q hq=>List.mem_of_mem_take hq) hlen hsd).1
   refine AWp.cnt g.rules.length [1,2,5] (fun i=>[(6,.sc (.bool (Y i).2)),(7,i64 (i:Int))]) (fun i=>marksH h (Y i).1) (fun i=>True) mixed trivial (by rw [hY0]; exact aI (by simp [dslot])) (by rw [hY0]) (fun i hi hz=>?_) fun hz=>?_
   .obtain ⟨R,hR⟩:∃ R,g.rules[i]?=some R:=⟨g.rules[i],by simp [hi]⟩
    have hlt:(i:Int) < g.rules.length:=by omega
    have hne:g.rules ≠ []:=by intro e; rw [e] at hi; simp at hi
    have wi:IntKind.i64.wrap ((i:Int)+1)=(i:Int)+1:=IntWalk.i64_in _ (by omega)
    have hYs:Y (i+1)=bQ g symb (Y i) R:=by rw [hY,hY,fold_take _ _ hR]
    have hRm:=List.mem_of_getElem? hR
    have hok1:=hYok i
    rw [hYs]
    generalize Y i=x at hok1
    obtain ⟨N,b⟩:=x
    simp only at hok1
    simp -implicitDefEqProofs [lp1_49,hlt,hne,hR,ab]
    obtain ⟨q,_,hq,hql⟩:=ai (hin R hRm).1
    have hNq:N[q]?=some (mkF g N R.sort):=by
     unfold mkF
     rw [hq,List.getD_eq_getElem?_getD]
     have:N[q]?=some N[q]:=by simp [hok1,hql]
     simp only [Int.toNat_natCast,this]; rfl
    have hqi:(q:Int) < g.sorts.length:=by omega
    refine aP (bp g.sorts g.sc R.sort hs) rfl rfl ?_
    rw [hq]
    simp -implicitDefEqProofs [hqi,hql,hNq,hok1]
    have hql2:q < N.length:=by omega
    have hNg:N[q]=mkF g N R.sort:=by simpa [hql2] using hNq
    refine AWp.cnt R.parts.length [1,2,5,6,7] (fun j=>[(8,.sc (.bool (!mkF g N R.sort && (R.parts.take j).all (partM g symb N)))),(9,i64 (j:Int))]) (fun _=>marksH h N) (fun j=>True) mixed trivial (aI (by simp [dslot,hNg])) rfl (fun j hj hz2=>?_) fun hz2=>?_
    .obtain ⟨p,hpj⟩:∃ p,R.parts[j]?=some p:=⟨R.parts[j],by simp [hj]⟩
     have hlt2:(j:Int) < R.parts.length:=by omega
     have hne2:R.parts ≠ []:=by intro e; rw [e] at hj; simp at hj
     have hpl:=hp R hRm
     have wj:IntKind.i64.wrap ((j:Int)+1)=(j:Int)+1:=IntWalk.i64_in _ (by omega)
     have hst:(!mkF g N R.sort && (R.parts.take (j+1)).all (partM g symb N))=((!mkF g N R.sort && (R.parts.take j).all (partM g symb N)) && partM g symb N p):=by
      rw [List.take_add_one,hpj,List.all_append]; simp [Bool.and_assoc]
     rw [hst]
     generalize (!mkF g N R.sort && (R.parts.take j).all (partM g symb N))=A
     cases A with
     | false =>
      by_cases e:p.sort=emp
      .simp -implicitDefEqProofs [lp2_49,hlt,hne,hR,ab,hlt2,hne2,hpj,encP,e,emp,wj]
       exact aI (by simp [dslot])
      .have e':¬ p.sort=(⟨#[]⟩:ByteArray):=e
       simp -implicitDefEqProofs [lp2_49,hlt,hne,hR,ab,hlt2,hne2,hpj,encP,e',wj]
       exact aI (by simp [dslot])
     | true =>
      by_cases e:p.sort=emp
      .simp -implicitDefEqProofs [lp2_49,hlt,hne,hR,ab,hlt2,hne2,hpj,encP,e,emp,wj]
       exact aI (by simp [dslot,partM,e])
      .have e':¬ p.sort=(⟨#[]⟩:ByteArray):=e
       obtain ⟨u,_,hu,hul⟩:=ai ((hin R hRm).2 p (List.mem_of_getElem? hpj) e)
       have hui:(u:Int) < g.sorts.length:=by omega
       have hul2:u < N.length:=by omega
       have hNu:N[u]=mkF g N p.sort:=by
        unfold mkF
        rw [hu,List.getD_eq_getElem?_getD]
        simp [hul2]
       simp -implicitDefEqProofs [lp2_49,hlt,hne,hR,ab,hlt2,hne2,hpj,encP,e',wj]
       refine aP (bp g.sorts g.sc p.sort hs) rfl rfl ?_
       rw [hu]
       simp -implicitDefEqProofs [hui,hul,hul2,hok1,wj]
       exact aI (by simp [dslot,partM,e,hNu])
    .simp only [List.take_length]
     rw [show (!mkF g N R.sort && R.parts.all (partM g symb N))=ruleM g symb N R from rfl]
     cases hru:ruleM g symb N R with
     | false =>
      have hrs:bQ g symb (N,b) R=(N,b):=by unfold bQ; rw [if_neg (by simp [hru])]
      rw [hrs]
      simp -implicitDefEqProofs [lp2_49,hlt,hne,hR,ab,wi]
      exact aI (by simp [dslot])
     | true =>
      have hrs:bQ g symb (N,b) R=(N.set (aw g.sorts R.sort).toNat true,true):=by unfold bQ; rw [if_pos hru]
      rw [hrs]
      simp -implicitDefEqProofs [lp2_49,hlt,hne,hR,ab,wi]
      refine aP (bp g.sorts g.sc R.sort hs) rfl rfl ?_
      rw [hq]
      have hq1:q+1 <= g.sorts.length:=hql
      have hpe:List.take q (N.map bl)++AV.sc (.bool true) :: List.drop (q+1) (N.map bl)=(N.set q true).map bl:=by
       rw [put_eq (N.map bl) q _ (by simpa using hql2),List.map_set]
      simp -implicitDefEqProofs [hqi,hql,hql2,hok1,wi,hq1,evW]
      refine ⟨aI (by simp [dslot]),?_⟩
      simpa using hpe
   .simp -implicitDefEqProofs [lp1_49]
    have hfin:Y g.rules.length=g.rules.foldl (bQ g symb) (X,false):=by rw [hY,List.take_length]
    obtain ⟨m1,m2,m3,m4⟩:=marks_off (symb:=symb) hin g.rules (X,false) (fun q hq=>hq) hlen hsd
    rw [hfin]
    refine ⟨⟨(g.rules.foldl (bQ g symb) (X,false)).1,(g.rules.foldl (bQ g symb) (X,false)).2⟩,?_,⟨m1,m2,fun e=>?_⟩,aI (by simp [dslot]),rfl⟩
    .simp only
     cases e:(g.rules.foldl (bQ g symb) (X,false)).2 with
     | false=>simp at m3 ⊢; omega
     | true=>have:=m4 rfl e; simp at this ⊢; omega
    .simp only at e ⊢
     obtain ⟨n1,n2⟩:=marks_same g symb g.rules (X,false) e
     rw [n1]; exact n2
end Go.Apx
end
section
namespace Go.Apx
open Go.Proofs
set_option maxRecDepth 4000
theorem mkF_at {g:Gr} {X:List Bool} (hnd:g.sorts.Nodup) (hl:X.length=g.sorts.length) {i:Nat} {s:ByteArray} (hi:g.sorts[i]?=some s):X[i]?=some (mkF g X s):=by
 obtain ⟨j,h1,h2,h3⟩:=ai (mem_has (List.mem_of_getElem? hi))
 have ej:g.sorts[j]=s:=by simpa using (List.findIdx?_eq_some_iff_getElem.1 h1).2.1
 have hil:=(List.getElem?_eq_some_iff.1 hi).1
 have ei:g.sorts[i]=s:=(List.getElem?_eq_some_iff.1 hi).2
 have e:i=j:=by
  rcases Nat.lt_trichotomy i j with h | h | h
  .exact (List.pairwise_iff_getElem.1 hnd i j hil h3 h (ei.trans ej.symm)).elim
  .exact h
  .exact (List.pairwise_iff_getElem.1 hnd j i h3 hil h (ej.trans ei.symm)).elim
 subst e
 unfold mkF
 rw [h2,List.getD_eq_getElem?_getD]
 have:X[i]?=some X[i]:=by simp [hl,h3]
 simp only [Int.toNat_natCast,this]; rfl
structure VR where
 i:Nat
 l:List ByteArray
 T:Nat
 H:AHeap
structure VRI (g:Gr) (X:List Bool) (h:AHeap) (st:VR):Prop where
 i:st.i <= g.sorts.length
 l:st.l=(g.sorts.take st.i).filter (mkF g X)
 tk:st.l ≠ [] -> st.H[st.T]?=some (.tok st.l.length) /\ h.length <= st.T
 low:Low h.length h st.H
 le:h.length <= st.H.length
set_option maxHeartbeats 4000000 in
theorem rpicked_c (g:Gr) (X:List Bool) (o:Nat) (rc:RCap) {h:AHeap} (hnd:g.sorts.Nodup) (hl:X.length=g.sorts.length) (ho:h[o]?=some (.cells 0 (X.map bl))) (hs:g.sorts.length <= 2 ^ 31) :
  AEx PP Gl 67 [aM g,.rf o 0 0 g.sorts.length rc] h (.ret (aW 1 ((bY g X).map sv))) h:=by
 refine enter_67 (by simp) ?_
 simp -implicitDefEqProofs [code_67,res_67,ann_67,aM]
 refine AWp.till (S:=VR) ⟨0,[],0,h⟩ (fun st=>g.sorts.length - st.i) [1,2] (fun st=>[(5,apd 1 (st.l.map sv) st.T),(6,i64 (st.i:Int))]) (fun st=>st.H) (VRI g X h) mixed
  ⟨by simp,by simp,by simp,Low.refl _ _,Nat.le_refl _⟩ (aI (by simp [dslot])) rfl ?_
 rintro ⟨i,l,T,H⟩ ⟨z1,z0,z2,z3,z4⟩
 simp only at z1 z0 z2 z3 z4
 have hol:=ar ho
 have hoH:H[o]?=some (.cells 0 (X.map bl)):=z3 _ _ hol ho
 by_cases hi:i < g.sorts.length
 case neg =>
  have hno:¬ (i:Int) < g.sorts.length:=by omega
  simp -implicitDefEqProofs [lp0_67,hno]
  have hfin:l=bY g X:=by rw [z0,List.take_of_length_le (by omega)]; rfl
  have hst:(apd 1 (l.map sv) T).strip=aW 1 (l.map sv):=strip_apd 1 _ _ _ (strip_strs l)
  refine retCut (v:=apd 1 (l.map sv) T) h.length (by simp [deferred,dslot]) (by simp [aN,aK]) (Nat.le_refl _) z4 (by rw [hst]; exact inb_strs _ _) z3.cl ?_
  rw [z3.take,hst,hfin]
  exact ⟨rfl,rfl⟩
 obtain ⟨s,hs2⟩:∃ s,g.sorts[i]?=some s:=⟨g.sorts[i],by simp [hi]⟩
 have hlt:(i:Int) < g.sorts.length:=by omega
 have hne:g.sorts ≠ []:=by intro e; rw [e] at hi; simp at hi
 have wi:IntKind.i64.wrap ((i:Int)+1)=(i:Int)+1:=IntWalk.i64_in _ (by omega)
 have hXi:=mkF_at hnd hl hs2
 have hil2:i < X.length:=by omega
 have hXg:X[i]=mkF g X s:=by simpa [hil2] using hXi
 have htk:(g.sorts.take (i+1)).filter (mkF g X)=l++(if mkF g X s=true then [s] else []):=by
  rw [List.take_add_one,hs2,List.filter_append,<- z0]
  by_cases e:mkF g X s=true <;> simp [e]
 have hsg:g.sorts[i]=s:=(List.getElem?_eq_some_iff.1 hs2).2
 cases hm:mkF g X s with
 | true =>
  rw [hm] at hXg htk
  simp -implicitDefEqProofs [lp0_67,hlt,hi,hne,hs2,hoH,hil2,hXg,hsg,sv]
  have hll:l.length <= g.sorts.length:=by rw [z0]; exact Nat.le_trans (List.length_filter_le _ _) (by simp; omega)
  refine appG (l.map sv) [sv s] T (by simp) (by simp [sv]) (fun hne=>by simpa using (z2 (by simpa using hne)).1) (by simp; unfold maxLenA; omega) ?_
  simp -implicitDefEqProofs [wi]
  rw [show l.map sv++[.sc (.string s)]=(l++[s]).map sv by simp [sv]]
  have hT:l.length ≠ 0 -> H[T]?=some (.tok l.length):=fun hn0=>(z2 (by rintro rfl; exact hn0 rfl)).1
  have hlow:Low h.length H (apG H l.length 1 T):=Low.apG (fun hn0=>(z2 (by rintro rfl; exact hn0 rfl)).2) z4
  refine ⟨⟨i+1,l++[s],apT H l.length 1 T,apG H l.length 1 T⟩,by simp; omega,⟨by simp; omega,by simp only; rw [htk]; simp,fun _=>⟨by simp only; rw [apG_tok hT (by omega)]; simp,?_⟩,z3.trans hlow,Nat.le_trans z4 (apG_len H l.length 1 T)⟩,aI (by simp [dslot]),by simp⟩
  simp only; unfold apT
  split
  .omega
  .split
   .exact z4
   .rename_i hn0; exact (z2 (by rintro rfl; exact hn0 rfl)).2
 | false =>
  rw [hm] at hXg htk
  simp -implicitDefEqProofs [lp0_67,hlt,hi,hne,hs2,hoH,hil2,hXg,hsg,sv,wi]
  exact ⟨⟨i+1,l,T,H⟩,by simp; omega,⟨by simp; omega,by simp only; rw [htk]; simp,z2,z3,z4⟩,aI (by simp [dslot]),rfl⟩
def RSetR (g:Gr) (symb:Bool) (h:AHeap) (r:AEnd) (h':AHeap):Prop:=h'=h /\ ((aO g ≠ 0 /\ r=.ret (.tup [.sl 0 [] .nil,i64 (aO g)])) \/
 (aO g=0 /\ ∃ X,MInv g symb ⟨X,false⟩ /\ r=.ret (.tup [aW 1 ((bY g X).map sv),i64 0])))
set_option maxHeartbeats 4000000 in
theorem rNullable_c (g:Gr) {h:AHeap} (hnd:aO g=0 -> g.sorts.Nodup) (hin:aO g=0 -> bA g) (hs:g.sorts.length <= 2 ^ 31) (hr:g.rules.length <= 2 ^ 31) (hp:∀ R ∈ g.rules,R.parts.length <= 2 ^ 31) :
  ACalls PP Gl 28 [aM g] h (RSetR g false h):=by
 refine enter_28 (by simp) ?_
 simp -implicitDefEqProofs [code_28,res_28,ann_28,aM]
 refine aP (rcheck_c g hs hr) (by simp [aM]) rfl ?_
 by_cases h1:aO g=0
 case neg =>
  simp -implicitDefEqProofs [h1]
  exact bx (v:=.tup [.sl 0 [] .nil,i64 (aO g)]) (by simp [deferred,dslot]) (by simp [aN,aK]) ⟨rfl,.inl ⟨h1,rfl⟩⟩
 simp -implicitDefEqProofs [h1]
 refine be (grown_c g false (hin h1) hs hr hp) (by simp [aM]) rfl ?_
 rintro r h' ⟨X,hX,rfl,rfl⟩
 simp -implicitDefEqProofs
 refine aP (rpicked_c g X h.length .full (hnd h1) hX.len (by simp) hs) (by simp [aM]) rfl ?_
 simp -implicitDefEqProofs
 have hst:(aW 1 ((bY g X).map sv)).strip=aW 1 ((bY g X).map sv):=by
  unfold aW
  split
  .rename_i e; rw [e]; rfl
  .simp only [AV.strip,strip_strs]; rfl
 refine retCut (v:=.tup [aW 1 ((bY g X).map sv),i64 0]) h.length (by simp [deferred,dslot]) (by simp [aN,aK]) (Nat.le_refl _) (by simp) ?_ (Cl.app h _) ?_
 .simp only [AV.strip,aj,hst,AV.inb,inbL,inb_strs]; rfl
 .simp only [AV.strip,aj,hst,List.take_left]
  exact ⟨rfl,.inr ⟨h1,X,hX,rfl⟩⟩
set_option maxHeartbeats 4000000 in
theorem rProductive_c (g:Gr) {h:AHeap} (hnd:aO g=0 -> g.sorts.Nodup) (hin:aO g=0 -> bA g) (hs:g.sorts.length <= 2 ^ 31) (hr:g.rules.length <= 2 ^ 31) (hp:∀ R ∈ g.rules,R.parts.length <= 2 ^ 31) :
  ACalls PP Gl 29 [aM g] h (RSetR g true h):=by
 refine enter_29 (by simp) ?_
 simp -implicitDefEqProofs [code_29,res_29,ann_29,aM]
 refine aP (rcheck_c g hs hr) (by simp [aM]) rfl ?_
 by_cases h1:aO g=0
 case neg =>
  simp -implicitDefEqProofs [h1]
  exact bx (v:=.tup [.sl 0 [] .nil,i64 (aO g)]) (by simp [deferred,dslot]) (by simp [aN,aK]) ⟨rfl,.inl ⟨h1,rfl⟩⟩
 simp -implicitDefEqProofs [h1]
 refine be (grown_c g true (hin h1) hs hr hp) (by simp [aM]) rfl ?_
 rintro r h' ⟨X,hX,rfl,rfl⟩
 simp -implicitDefEqProofs
 refine aP (rpicked_c g X h.length .full (hnd h1) hX.len (by simp) hs) (by simp [aM]) rfl ?_
 simp -implicitDefEqProofs
 have hst:(aW 1 ((bY g X).map sv)).strip=aW 1 ((bY g X).map sv):=by
  unfold aW
  split
  .rename_i e; rw [e]; rfl
  .simp only [AV.strip,strip_strs]; rfl
 refine retCut (v:=.tup [aW 1 ((bY g X).map sv),i64 0]) h.length (by simp [deferred,dslot]) (by simp [aN,aK]) (Nat.le_refl _) (by simp) ?_ (Cl.app h _) ?_
 .simp only [AV.strip,aj,hst,AV.inb,inbL,inb_strs]; rfl
 .simp only [AV.strip,aj,hst,List.take_left]
  exact ⟨rfl,.inr ⟨h1,X,hX,rfl⟩⟩
end Go.Apx
end
section
namespace Go.Apx
open Go.Proofs
set_option maxRecDepth 4000
theorem leave_its {P:Program} {G:Globs} {h0:AHeap} {rs:List ResA} {R:AEnd -> AHeap -> Prop} {env:Env}:∀ (its:List Nat) (H:AHeap),(∀ z ∈ its,H[z]?=some .queue) -> its.Nodup ->
  (∀ H',(∀ z,z ∉ its -> H'[z]?=H[z]?) -> H'.length=H.length -> ∃ v,aN G env H' rs=some v /\ endP h0 R (.ret v) H') -> leaveP P G h0 rs R env (its.map .it) .ret H
 | [],H,_,_,he=>he H (fun _ _=>rfl) rfl
 | z :: its,H,hq,hn,he=>by
  rw [List.nodup_cons] at hn
  refine leaveIt (by simp [isQueue,hq z (by simp)]) (leave_its its (H.set z .dead) (fun y hy=>?_) hn.2 (fun H' h1 h2=>he H' (fun y hy=>?_) (by simpa using h2)))
  .rw [List.getElem?_set_ne (by rintro rfl; exact hn.1 hy)]; exact hq y (by simp [hy])
  .simp only [List.mem_cons,not_or] at hy
   rw [h1 y hy.2,List.getElem?_set_ne (fun e=>hy.1 e.symm)]
def dsl (its:List Nat):Env:=if its=[] then [] else [(dslot,.tup (its.map .it))]
theorem dsl_get (its:List Nat) (t:Nat) (ht:t ≠ dslot):(dsl its).get t=none:=by
 unfold dsl
 split
 .rfl
 .simp [Env.get,Ne.symm ht]; exact ht
theorem put_app (a e:Env) (t:Nat) (v:AV) (h:a.get t=none):Env.put (a++e) t v=a++e.put t v:=by
 induction a with
 | nil=>rfl
 | cons p a ih =>
  obtain ⟨u,w⟩:=p
  simp only [Env.get] at h
  split at h
  .cases h
  .rename_i hu
   simp only [List.cons_append,Env.put,if_neg hu,ih h]
theorem get_app (a e:Env) (t:Nat):Env.get (a++e) t=(a.get t).or (e.get t):=by
 induction a with
 | nil=>simp
 | cons p a ih =>
  obtain ⟨u,w⟩:=p
  simp only [List.cons_append,Env.get,ih]
  split <;> simp
@[simp] theorem put_dsl (its:List Nat) (e:Env) (t:Nat) (v:AV) (ht:t < 1000000):Env.put (dsl its++e) t v=dsl its++e.put t v:=put_app _ _ _ _ (dsl_get its t (by unfold dslot; omega))
@[simp] theorem get_dsl (its:List Nat) (e:Env) (t:Nat) (ht:t < 1000000):Env.get (dsl its++e) t=e.get t:=by
 rw [get_app,dsl_get its t (by unfold dslot; omega)]; simp
theorem get_dsl_slot (its:List Nat) (e:Env) (he:e.get dslot=none):Env.get (dsl its++e) dslot=if its=[] then none else some (.tup (its.map .it)):=by
 rw [get_app]
 unfold dsl
 by_cases h:its=[]
 .rw [if_pos h,if_pos h,he]; rfl
 .rw [if_neg h,if_neg h]; simp [Env.get]
theorem deferred_dsl (its:List Nat) (e:Env) (he:e.get dslot=none):deferred (dsl its++e)=some (its.map .it):=by
 unfold deferred
 rw [get_dsl_slot its e he]
 by_cases h:its=[]
 .subst h; rfl
 .rw [if_neg h]
@[simp] theorem noPend_dsl (its:List Nat) (e:Env):noPend (dsl its++e)=noPend e:=by
 unfold noPend dsl
 split
 .rfl
 .simp
theorem leOk_dsl {its:List Nat} {a b:Env} (hb:b.get dslot=none) (h:leOk a (dsl its++b)):leOk (dsl its++a) (dsl its++b):=by
 have h1:=get_dsl_slot its b hb
 by_cases hi:its=[]
 .subst hi; exact h
 .rw [if_neg hi] at h1
  have:dsl its++a=(dslot,.tup (its.map .it)) :: a:=by unfold dsl; rw [if_neg hi]; rfl
  rw [this]
  exact ⟨h1,h⟩
theorem le_dsl {its:List Nat} {a b:Env} (ha:a.get dslot=none) (hb:b.get dslot=none) (h:leOk a (dsl its++b)):EnvLe (dsl its++a) (dsl its++b) :=
 EnvLe.of (leOk_dsl hb h) (by rw [get_dsl_slot its a ha,get_dsl_slot its b hb])
def jkQ:Nat -> AHeap
 | 0=>[]
 | k+1=>jkQ k++[.queue,.dead]
def itsQ (n:Nat):Nat -> List Nat
 | 0=>[]
 | k+1=>(n+2 * k) :: itsQ n k
theorem jkQ_length:∀ k,(jkQ k).length=2 * k
 | 0=>rfl
 | k+1=>by simp [jkQ,jkQ_length k]; omega
theorem itsQ_lt {n:Nat}:∀ {k z:Nat},z ∈ itsQ n k -> n <= z /\ z < n+2 * k
 | 0,z,h=>by simp [itsQ] at h
 | k+1,z,h=>by
  simp only [itsQ,List.mem_cons] at h
  rcases h with rfl | h
  .omega
  .have:=itsQ_lt h; omega
theorem itsQ_nodup (n:Nat):∀ k,(itsQ n k).Nodup
 | 0=>by simp [itsQ]
 | k+1=>by
  simp only [itsQ,List.nodup_cons]
  refine ⟨fun h=>?_,itsQ_nodup n k⟩
  have:=itsQ_lt h; omega
theorem itsQ_get {B:AHeap}:∀ {k z:Nat},z ∈ itsQ B.length k -> (B++jkQ k)[z]?=some .queue
 | 0,z,h=>by simp [itsQ] at h
 | k+1,z,h=>by
  simp only [itsQ,List.mem_cons] at h
  have hl:=jkQ_length k
  rcases h with rfl | h
  .simp only [jkQ,<- List.append_assoc]
   rw [List.getElem?_append_right (by simp [hl])]
   simp [hl]
  .have h2:=itsQ_get h
   have h3:=itsQ_lt h
   simp only [jkQ,<- List.append_assoc]
   rw [List.getElem?_append_left (by simp [hl]; omega)]
   exact h2
theorem leaveQ {P:Program} {G:Globs} {h0 B:AHeap} {rs:List ResA} {R:AEnd -> AHeap -> Prop} {env:Env} {v:AV} (k:Nat) (hl:h0.length=B.length) (hv:∀ H,aN G env H rs=some v) (hin:v.strip.inb B.length=true)
  (hc:Cl h0 B B.length) (hR:R (.ret v.strip) B):leaveP P G h0 rs R env ((itsQ B.length k).map .it) .ret (B++jkQ k):=by
 refine leave_its _ _ (fun z hz=>itsQ_get hz) (itsQ_nodup _ _) (fun H' h1 h2=>⟨v,hv H',.inr ⟨B.length,by omega,by rw [h2]; simp,hin,?_,?_⟩⟩)
 .intro i o hi ho
  rw [h1 i (fun hm=>by have:=itsQ_lt hm; omega),List.getElem?_append_left hi] at ho
  exact hc i o hi ho
 .have:H'.take B.length=B:=by
   refine List.ext_getElem? fun i=>?_
   by_cases hi:i < B.length
   .rw [List.getElem?_take,if_pos hi,h1 i (fun hm=>by have:=itsQ_lt hm; omega),List.getElem?_append_left hi]
   .rw [List.getElem?_take,if_neg hi,List.getElem?_eq_none (by omega)]
  rw [this]
  exact hR
def lpJ (k:Nat) (E:Env) (X:LoopX) (st:LoopState):AHeap:=jkQ k++[.queue,.loop E X st none]
theorem lpJ_get {B:AHeap} {n:Nat} (hB:B.length=n) (k:Nat) (E:Env) (X:LoopX) (st:LoopState):(B++lpJ k E X st)[n+2 * k+1]?=some (.loop E X st none):=by
 subst hB
 have:=jkQ_length k
 rw [List.getElem?_append_right (by omega),lpJ,List.getElem?_append_right (by omega),show B.length+2 * k+1 - B.length - (jkQ k).length=1 by omega]
 rfl
theorem lpJ_set {B:AHeap} {n:Nat} (hB:B.length=n) (k:Nat) (E:Env) (X:LoopX) (st st':LoopState):(B++lpJ k E X st).set (n+2 * k+1) (.loop E X st' none)=B++lpJ k E X st':=by
 subst hB
 have:=jkQ_length k
 rw [List.set_append_right _ _ (by omega),lpJ,List.set_append_right _ _ (by omega),show B.length+2 * k+1 - B.length - (jkQ k).length=1 by omega]
 rfl
theorem lpJ_dead {B:AHeap} {n:Nat} (hB:B.length=n) (k:Nat) (E:Env) (X:LoopX) (st:LoopState):(B++lpJ k E X st).set (n+2 * k+1) .dead=B++jkQ (k+1):=by
 subst hB
 have:=jkQ_length k
 rw [List.set_append_right _ _ (by omega),lpJ,List.set_append_right _ _ (by omega),show B.length+2 * k+1 - B.length - (jkQ k).length=1 by omega]
 rfl
theorem lpJ_loop {B:AHeap} {n:Nat} (hB:B.length=n) (k:Nat) (E:Env) (X:LoopX) (st:LoopState):isLoop (B++lpJ k E X st) (n+2 * k+1)=true:=by
 unfold isLoop
 rw [lpJ_get hB]
theorem lpJ_eq (B:AHeap) (k:Nat) (E:Env) (X:LoopX) (st:LoopState):B++jkQ k++[.queue]++[.loop E X st none]=B++lpJ k E X st:=by simp [lpJ]
theorem lpJ_get2 {B:AHeap} {n:Nat} (hB:B.length=n) (k:Nat) (E:Env) (X:LoopX) (st:LoopState) (J:AHeap):(B++(lpJ k E X st++J))[n+2 * k+1]?=some (.loop E X st none):=by
 have h:=lpJ_get hB k E X st
 rw [<- List.append_assoc,List.getElem?_append_left (ar h)]
 exact h
theorem lpJ_set2 {B:AHeap} {n:Nat} (hB:B.length=n) (k:Nat) (E:Env) (X:LoopX) (st st':LoopState) (J:AHeap):(B++(lpJ k E X st++J)).set (n+2 * k+1) (.loop E X st' none)=B++(lpJ k E X st'++J):=by
 have h:=lpJ_get hB k E X st
 rw [<- List.append_assoc,List.set_append_left _ _ (ar h),lpJ_set hB,List.append_assoc]
def Cq (A B:AHeap):Prop:=∀ (i:Nat) (o:AObj),B[i]?=some o -> A[i]?=some o \/ ∀ n,o.inb n=true
theorem Cq.cl {A B:AHeap} (h:Cq A B) (n:Nat):Cl A B n:=fun i o _ ho=>(h i o ho).imp id fun h=>h n
theorem Cq.tail {A B:AHeap} (h:Cq A B) (hl:A.length=B.length) (J:AHeap):Cq (A++J) (B++J):=by
 intro i o ho
 by_cases hin:i < A.length
 .rw [List.getElem?_append_left (by omega)] at ho ⊢
  exact h i o ho
 .left
  rw [List.getElem?_append_right (by omega)] at ho ⊢
  rw [hl]; exact ho
theorem dslQ (n c:Nat):dsl (itsQ n (c+1))=[(dslot,.tup (.it (n+2 * c) :: (itsQ n c).map .it))]:=by simp [dsl,itsQ]
abbrev Evs:=List (Bool × ByteArray)
structure CSt where
 S:List ByteArray
 u:List ByteArray
def insU (s:ByteArray) (u:List ByteArray):List ByteArray:=if s ∈ u then u else u++[s]
theorem mem_insU {s t:ByteArray} {u:List ByteArray}:t ∈ insU s u ↔ t ∈ u \/ t=s:=by
 unfold insU
 split
 .rename_i h; exact ⟨.inl,fun h2=>h2.elim id fun e=>e ▸ h⟩
 .simp
theorem insU_nodup {s:ByteArray} {u:List ByteArray} (h:u.Nodup):(insU s u).Nodup:=by
 unfold insU
 split
 .exact h
 .rename_i hs
  rw [List.nodup_append]
  exact ⟨h,by simp,fun a ha b hb e=>by simp at hb; subst hb e; exact hs ha⟩
theorem metOf_ins (u:List ByteArray) (s:ByteArray):bE (aT u) s true=aT (insU s u):=by
 unfold insU
 split
 .rename_i h
  induction u with
  | nil=>simp at h
  | cons v r ih =>
   simp only [aT,List.map_cons,bE] at ih ⊢
   by_cases e:s=v
   .rw [if_pos e,e]
   .rw [if_neg e,ih (by simpa [e] using h)]
 .rename_i h; exact metOf_set u s h
structure VRt (nx:ByteArray -> Evs) (l:Evs) (a b:CSt):Prop where
 mono:∀ s ∈ a.S,s ∈ b.S
 umono:∀ s ∈ a.u,s ∈ b.u
 nd:a.S.Nodup -> b.S.Nodup
 und:a.u.Nodup -> b.u.Nodup
 cl:∀ y,(true,y) ∈ l -> y ∈ b.S
 nt:∀ s,(false,s) ∈ l -> s ∈ b.u
 new:∀ z ∈ b.S,z ∉ a.S -> (∀ y,(true,y) ∈ nx z -> y ∈ b.S) /\ ∀ s,(false,s) ∈ nx z -> s ∈ b.u
 snd:∀ C:ByteArray -> Prop,(∀ y,(true,y) ∈ l -> C y) -> (∀ z,C z -> ∀ y,(true,y) ∈ nx z -> C y) -> ∀ z ∈ b.S,z ∉ a.S -> C z
 usnd:∀ s ∈ b.u,s ∉ a.u -> (false,s) ∈ l \/ ∃ z ∈ b.S,z ∉ a.S /\ (false,s) ∈ nx z
section
variable {nx:ByteArray -> Evs} {l:Evs} {a b c:CSt}
theorem VRt.refl (a:CSt):VRt nx [] a a:=⟨fun _ h=>h,fun _ h=>h,fun h=>h,fun h=>h,fun _ h=>by simp at h,fun _ h=>by simp at h,fun z h h'=>(h' h).elim,fun _ _ _ z h h'=>(h' h).elim,fun s h h'=>(h' h).elim⟩
theorem VRt.note (h:VRt nx l a b) (s:ByteArray):VRt nx (l++[(false,s)]) a ⟨b.S,insU s b.u⟩:=by
 refine ⟨h.mono,fun t ht=>mem_insU.2 (.inl (h.umono t ht)),h.nd,fun hn=>insU_nodup (h.und hn),fun y hy=>h.cl y (by simpa using hy),fun t ht=>?_,fun z hz hz'=>?_,fun C h1 h2=>h.snd C (fun y hy=>h1 y (by simp [hy])) h2,fun t ht ht'=>?_⟩
 .refine mem_insU.2 ?_
  rcases List.mem_append.1 ht with ht | ht
  .exact .inl (h.nt t ht)
  .simp at ht; exact .inr ht
 .obtain ⟨h1,h2⟩:=h.new z hz hz'
  exact ⟨h1,fun t ht=>mem_insU.2 (.inl (h2 t ht))⟩
 .rcases mem_insU.1 ht with ht | rfl
  .rcases h.usnd t ht ht' with h1 | h1
   .exact .inl (by simp [h1])
   .exact .inr h1
  .exact .inl (by simp)
theorem VRt.old (h:VRt nx l a b) {y:ByteArray} (hy:y ∈ b.S):VRt nx (l++[(true,y)]) a b:=by
 refine ⟨h.mono,h.umono,h.nd,h.und,fun t ht=>?_,fun t ht=>h.nt t (by simpa using ht),h.new,fun C h1 h2=>h.snd C (fun y hy=>h1 y (by simp [hy])) h2,fun t ht ht'=>?_⟩
 .rcases List.mem_append.1 ht with ht | ht
  .exact h.cl t ht
  .simp at ht; subst ht; exact hy
 .rcases h.usnd t ht ht' with h1 | h1
  .exact .inl (by simp [h1])
  .exact .inr h1
theorem VRt.visit (h:VRt nx l a b) {y:ByteArray} (hy:y ∉ b.S) (h':VRt nx (nx y) ⟨b.S++[y],b.u⟩ c):VRt nx (l++[(true,y)]) a c:=by
 have hyc:y ∈ c.S:=h'.mono y (by simp)
 have hbc:∀ s ∈ b.S,s ∈ c.S:=fun s hs=>h'.mono s (by simp [hs])
 refine ⟨fun s hs=>hbc s (h.mono s hs),fun s hs=>h'.umono s (h.umono s hs),fun hn=>h'.nd ?_,fun hn=>h'.und (h.und hn),fun t ht=>?_,fun t ht=>h'.umono t (h.nt t (by simpa using ht)),fun z hz hz'=>?_,fun C h1 h2 z hz hz'=>?_,fun t ht ht'=>?_⟩
 .rw [List.nodup_append]
  exact ⟨h.nd hn,by simp,fun p hp q hq e=>by simp at hq; subst hq e; exact hy hp⟩
 .rcases List.mem_append.1 ht with ht | ht
  .exact hbc t (h.cl t ht)
  .simp at ht; subst ht; exact hyc
 .by_cases hzb:z ∈ b.S
  .obtain ⟨h1,h2⟩:=h.new z hzb hz'
   exact ⟨fun y hy=>hbc y (h1 y hy),fun s hs=>h'.umono s (h2 s hs)⟩
  .by_cases hzy:z=y
   .subst hzy
    exact ⟨h'.cl,h'.nt⟩
   .exact h'.new z hz (by simp [hzb,hzy])
 .have hCy:C y:=h1 y (by simp)
  by_cases hzb:z ∈ b.S
  .exact h.snd C (fun y hy=>h1 y (by simp [hy])) h2 z hzb hz'
  .by_cases hzy:z=y
   .subst hzy; exact hCy
   .exact h'.snd C (h2 y hCy) h2 z hz (by simp [hzb,hzy])
 .by_cases htb:t ∈ b.u
  .rcases h.usnd t htb ht' with h1 | ⟨z,hz,hz',h1⟩
   .exact .inl (by simp [h1])
   .exact .inr ⟨z,hbc z hz,hz',h1⟩
  .rcases h'.usnd t ht htb with h1 | ⟨z,hz,hz',h1⟩
   .exact .inr ⟨y,hyc,fun e=>hy (h.mono y e),h1⟩
   .exact .inr ⟨z,hz,fun e=>hz' (by simp [h.mono z e]),h1⟩
end
structure CloS (nx:ByteArray -> Evs) (from':ByteArray) (slf:Bool) (u0:List ByteArray) (b:CSt):Prop where
 nd:b.S.Nodup
 und:u0.Nodup -> b.u.Nodup
 umono:∀ s ∈ u0,s ∈ b.u
 me:slf=true -> from' ∈ b.S
 cl:∀ z,z ∈ b.S \/ z=from' -> ∀ y,(true,y) ∈ nx z -> y ∈ b.S
 nt:∀ z,z ∈ b.S \/ z=from' -> ∀ s,(false,s) ∈ nx z -> s ∈ b.u
 snd:∀ C:ByteArray -> Prop,(slf=true -> C from') -> (∀ y,(true,y) ∈ nx from' -> C y) -> (∀ z,C z -> ∀ y,(true,y) ∈ nx z -> C y) -> ∀ z ∈ b.S,C z
 usnd:∀ s ∈ b.u,s ∉ u0 -> ∃ z,(z ∈ b.S \/ z=from') /\ (false,s) ∈ nx z
theorem VRt.closure {nx:ByteArray -> Evs} {x:ByteArray} {self:Bool} {u0:List ByteArray} {b:CSt} (h:VRt nx (nx x) ⟨if self=true then [x] else [],u0⟩ b):CloS nx x self u0 b:=by
 have ha:∀ z,z ∈ (if self=true then [x] else []:List ByteArray) -> z=x /\ self=true:=fun z hz=>by
  split at hz
  .rename_i hs; exact ⟨by simpa using hz,hs⟩
  .simp at hz
 refine ⟨h.nd (by split <;> simp),h.und,h.umono,fun hs=>h.mono x (by simp [hs]),fun z hz=>?_,fun z hz=>?_,fun C h0 h1 h2 z hz=>?_,fun s hs hs'=>?_⟩
 .rcases hz with hz | rfl
  .by_cases hm:z ∈ (if self=true then [x] else []:List ByteArray)
   .rw [(ha z hm).1]; exact h.cl
   .exact (h.new z hz hm).1
  .exact h.cl
 .rcases hz with hz | rfl
  .by_cases hm:z ∈ (if self=true then [x] else []:List ByteArray)
   .rw [(ha z hm).1]; exact h.nt
   .exact (h.new z hz hm).2
  .exact h.nt
 .by_cases hm:z ∈ (if self=true then [x] else []:List ByteArray)
  .obtain ⟨e,hs⟩:=ha z hm
   rw [e]; exact h0 hs
  .exact h.snd C h1 h2 z hz hm
 .rcases h.usnd s hs hs' with h1 | ⟨z,hz,_,h1⟩
  .exact ⟨x,.inr rfl,h1⟩
  .exact ⟨z,.inl hz,h1⟩
def offU (univ S:List ByteArray):Nat:=(univ.filter fun s=>!decide (s ∈ S)).length
theorem offU_mono {univ S S':List ByteArray} (h:∀ s ∈ S,s ∈ S'):offU univ S' <= offU univ S:=by
 unfold offU
 induction univ with
 | nil=>simp
 | cons x l ih =>
  by_cases h1:x ∈ S
  .simp [List.filter_cons,h1,h x h1]; simpa using ih
  .by_cases h2:x ∈ S'
   .simp only [List.filter_cons,h1,h2,decide_true,decide_false,Bool.not_true,Bool.not_false,if_true,Bool.false_eq_true,if_false,List.length_cons]; omega
   .simp [List.filter_cons,h1,h2]; simpa using ih
theorem offU_lt {univ S:List ByteArray} {y:ByteArray} (hy:y ∈ univ) (hS:y ∉ S):offU univ (S++[y]) < offU univ S:=by
 induction univ with
 | nil=>simp at hy
 | cons x l ih =>
  have hle:=offU_mono (univ:=l) (S:=S) (S':=S++[y]) (fun s hs=>by simp [hs])
  unfold offU at ih hle ⊢
  by_cases h2:x=y
  .subst h2
   simp only [List.filter_cons,hS,List.mem_append,List.mem_singleton,or_true,decide_true,Bool.not_true,decide_false,Bool.not_false,if_true,List.length_cons]
   simp at hle ⊢
   omega
  .have ih':=ih (by simpa [Ne.symm h2] using hy)
   by_cases h1:x ∈ S
   .simp [List.filter_cons,h1]; simpa using ih'
   .simp only [List.filter_cons,h1,h2,List.mem_append,List.mem_singleton,or_self,decide_false,Bool.not_false,if_true,List.length_cons]
    simp at ih' ⊢
    omega
end Go.Apx
end
section
namespace Go.Apx
open Go.Proofs
set_option maxRecDepth 4000
structure AS1 where
 i:Nat
 H:AHeap
theorem arguments1_r (r:Rl) (o:Nat) (Z:Nat -> AHeap -> Prop) (hlen:r.parts.length <= 2 ^ 31) (hloop:∀ i H,Z i H -> isLoop H o=true)
  (hn:∀ (i:Nat) p H,r.parts[i]?=some p -> p.sort=emp -> Z i H -> Z (i+1) H)
  (hy:∀ (i:Nat) p H,r.parts[i]?=some p -> p.sort ≠ emp -> Z i H -> AYields PP Gl o [encP p] H (fun e h'=>e=.ret (.sc (.bool true)) /\ Z (i+1) h')) {H:AHeap} (h0:Z 0 H) :
  ACalls PP Gl 103 [.yld o,.ip (ab r)] H (fun e h'=>e=.ret (.tup []) /\ Z r.parts.length h'):=by
 refine enter_103 (by simp) ?_
 simp [code_103,res_103,ann_103,ab]
 refine AWp.till (S:=AS1) ⟨0,H⟩ (fun st=>r.parts.length - st.i) [0,6,7] (fun st=>[(8,i64 (st.i:Int))]) (fun st=>st.H) (fun st=>st.i <= r.parts.length /\ Z st.i st.H) mixed ⟨Nat.zero_le _,h0⟩ (aI (by simp [dslot])) rfl ?_
 rintro ⟨i,H1⟩ ⟨z0,z1⟩
 simp only at z0 z1
 by_cases hi:i < r.parts.length
 .obtain ⟨k,hki⟩:∃ k,r.parts[i]?=some k:=⟨r.parts[i],by simp [hi]⟩
  have hlt:(i:Int) < r.parts.length:=by omega
  have hne:r.parts ≠ []:=by intro e; rw [e] at hi; simp at hi
  have wi:IntKind.i64.wrap ((i:Int)+1)=(i:Int)+1:=IntWalk.i64_in _ (by omega)
  by_cases hk:k.sort=⟨#[]⟩
  .simp [lp0_103,hlt,hki,encP,hk,wi]
   exact ⟨⟨i+1,H1⟩,by simp; omega,⟨by simp; omega,hn i k H1 hki hk z1⟩,aI (by simp [dslot]),rfl⟩
  .simp [lp0_103,hlt,hki,encP,hk,hloop i H1 z1]
   refine yieldk (by simpa [encP] using hy i k H1 hki hk z1) ?_
   rintro e h' ⟨rfl,hz⟩
   simp [wi]
   exact ⟨⟨i+1,h'⟩,by simp; omega,⟨by simp; omega,hz⟩,aI (by simp [dslot]),rfl⟩
 .have hlt:¬ (i:Int) < r.parts.length:=by omega
  simp [lp0_103,hlt]
  have:i=r.parts.length:=by omega
  subst this
  exact bx (v:=.tup []) (by simp [deferred,dslot]) rfl ⟨rfl,z1⟩
def IterC (NT:(CSt -> AHeap) -> Prop) (nx:ByteArray -> Evs) (x:ByteArray) (itf:FuncId) (ga gb:List AV):Prop :=
 ∀ (B:CSt -> AHeap) (n o:Nat) (P:Nat -> CSt -> Prop) (a:CSt),(∀ st,(B st).length=n) -> (∀ st st',Cq (B st) (B st')) -> NT B -> (∀ (st:CSt) (J:AHeap),isLoop (B st++J) o=true) ->
  (∀ (i:Nat) (y:ByteArray) (st:CSt) (J:AHeap),(nx x)[i]?=some (true,y) -> P i st -> AYields PP Gl o [sv y] (B st++J) (fun e h'=>e=.ret (bl true) /\ ∃ st',P (i+1) st' /\ h'=B st'++J)) ->
  (∀ (i:Nat) (s:ByteArray) (st:CSt),(nx x)[i]?=some (false,s) -> P i st -> P (i+1) ⟨st.S,insU s st.u⟩) -> P 0 a ->
  ACalls PP Gl itf (ga++[.yld o]++gb) (B a) (fun e h'=>e=.ret (.tup []) /\ ∃ st',P (nx x).length st' /\ h'=B st')
def evP (l:List Pt):Evs:=(l.filter fun p=>!decide (p.sort=emp)).map fun p=>(true,p.sort)
theorem evP_take {l:List Pt} {i:Nat} {p:Pt} (h:l[i]?=some p):evP (l.take (i+1))=evP (l.take i)++(if p.sort=emp then [] else [(true,p.sort)]):=by
 unfold evP
 rw [List.take_add_one,h,List.filter_append,List.map_append]
 by_cases e:p.sort=emp <;> simp [e]
def contL (x:ByteArray) (l:List Rl):Evs:=(l.filter fun R=>decide (R.sort=x)).flatMap fun R=>evP R.parts
def contE (g:Gr) (x:ByteArray):Evs:=contL x g.rules
theorem contL_take {x:ByteArray} {l:List Rl} {i:Nat} {R:Rl} (h:l[i]?=some R):contL x (l.take (i+1))=contL x (l.take i)++(if R.sort=x then evP R.parts else []):=by
 unfold contL
 rw [List.take_add_one,h,List.filter_append,List.flatMap_append]
 by_cases e:R.sort=x <;> simp [e]
theorem contL_pre {x:ByteArray} {l:List Rl} {i:Nat} {R:Rl} (h:l[i]?=some R) (e:R.sort=x) {j:Nat} {p:Pt} (hj:R.parts[j]?=some p) (hp:p.sort ≠ emp) :
  (contL x l)[(contL x (l.take i)).length+(evP (R.parts.take j)).length]?=some (true,p.sort):=by
 have h1:contL x l=contL x (l.take (i+1))++contL x (l.drop (i+1)):=by
  unfold contL
  rw [<- List.flatMap_append,<- List.filter_append,List.take_append_drop]
 have h2:evP R.parts=evP (R.parts.take (j+1))++evP (R.parts.drop (j+1)):=by
  unfold evP
  rw [<- List.map_append,<- List.filter_append,List.take_append_drop]
 rw [h1,contL_take h,if_pos e,h2,evP_take hj,if_neg hp]
 simp
theorem contained_c (g:Gr) (x:ByteArray) {h:AHeap}:AEx PP Gl 50 [aM g,.sc (.string x)] h (.ret (.fn (.func 84) [] [.ip (aM g),.ip (sv x)])) h:=by
 refine enter_50 (by simp) ?_
 simp [code_50,res_50,ann_50,aM]
 exact aZ (by simp [deferred,dslot]) rfl (by simp [aM,sv]) rfl
structure CT1 where
 i:Nat
 c:Nat
 st:CSt
set_option maxHeartbeats 4000000 in
theorem contained1_c (g:Gr) (x:ByteArray) (hr:g.rules.length <= 2 ^ 31) (hps:∀ R ∈ g.rules,R.parts.length <= 2 ^ 31) :
  IterC (fun _=>True) (contE g) x 84 [] [.ip (aM g),.ip (sv x)]:=by
 intro B n o P a hB hcl _ hloop hy hn h0
 refine enter_84 (by simp) ?_
 simp -implicitDefEqProofs [code_84,res_84,ann_84,aM]
 refine AWp.till (S:=CT1) ⟨0,0,a⟩ (fun s=>g.rules.length - s.i) [2,3,8,9] (fun s=>dsl (itsQ n s.c)++[(10,i64 (s.i:Int))]) (fun s=>B s.st++jkQ s.c)
  (fun s=>s.i <= g.rules.length /\ P (contL x (g.rules.take s.i)).length s.st) mixed ⟨by simp,by simpa [contL] using h0⟩ (aI (by simp [dslot,dsl,itsQ])) (by simp [jkQ]) ?_
 rintro ⟨i,c,st⟩ ⟨z0,z1⟩
 simp only at z0 z1
 by_cases hi:i < g.rules.length
 case neg =>
  have hlt:¬ (i:Int) < g.rules.length:=by omega
  simp -implicitDefEqProofs [lp0_84,hlt]
  have:i=g.rules.length:=by omega
  subst this
  rw [List.take_length] at z1
  refine retDefer ((itsQ n c).map .it) (deferred_dsl _ _ (by simp [dslot])) ?_
  rw [<- hB st]
  exact leaveQ (v:=.tup []) c (by rw [hB,hB]) (fun H=>by simp [aN]) rfl ((hcl a st).cl _) ⟨rfl,st,z1,rfl⟩
 obtain ⟨R,hR⟩:∃ R,g.rules[i]?=some R:=⟨g.rules[i],by simp [hi]⟩
 have hlt:(i:Int) < g.rules.length:=by omega
 have hne:g.rules ≠ []:=by intro e; rw [e] at hi; simp at hi
 have wi:IntKind.i64.wrap ((i:Int)+1)=(i:Int)+1:=IntWalk.i64_in _ (by omega)
 by_cases hx:R.sort=x
 case neg =>
  simp -implicitDefEqProofs [lp0_84,hlt,hne,hR,ab,sv,hx,wi]
  refine ⟨⟨i+1,c,st⟩,by simp; omega,⟨by simp; omega,by simp only; rw [contL_take hR,if_neg hx,List.append_nil]; exact z1⟩,?_,rfl⟩
  exact le_dsl (by simp [dslot]) (by simp [dslot]) (by simp)
 simp -implicitDefEqProofs [lp0_84,hlt,hne,hR,ab,sv,hx]
 refine aP (arguments_c R) (by simp [ab,hx]) rfl ?_
 simp -implicitDefEqProofs
 refine AWp.weaken (env':=dsl (itsQ n c)++[(10,i64 (i:Int)),(2,.ip (sv x)),(3,.ip (.yld o)),(8,.sl 4 (g.rules.map ab) g.rc),(9,i64 (g.rules.length:Int)),(19,.fn (.func 103) [] [.ip (ab R)])]) ?_ (le_dsl (by simp [dslot]) (by simp [dslot]) (by simp))
 refine AWp.rangeF (gf:=103) (fa:=[]) (fb:=[.ip (ab R)]) (dl:=(itsQ n c).map .it) rfl (by simp) (by rw [noPend_dsl]; simp [noPend]) (deferred_dsl _ _ (by simp [dslot])) ?_
 intro X hX
 generalize hE:Env.del _ dslot=E
 have e3:E.get 3=some (.ip (.yld o)):=by rw [<- hE,Env.get_del]; simp [dslot]
 have ed:E.get dslot=none:=by rw [<- hE,Env.get_del]; simp
 have hjl:=jkQ_length c
 have hBl:∀ st',(B st'++jkQ c).length=n+2 * c:=fun st'=>by simp [hB,hjl]
 rw [hBl]
 obtain ⟨bs,hbs⟩:∃ bs,bs=(contL x (g.rules.take i)).length:=⟨_,rfl⟩
 rw [<- hbs] at z1
 have hcall:=arguments1_r R (n+2 * c+1) (fun j H=>∃ st',P (bs+(evP (R.parts.take j)).length) st' /\ H=B st'++lpJ c E X .ready) (hps R (List.mem_of_getElem? hR)) ?_ ?_ ?_
  (H:=B st++jkQ c++[.queue]++[.loop E X .ready none]) ⟨st,by simpa [evP] using z1,lpJ_eq _ _ _ _ _⟩
 rotate_left
 .rintro j H ⟨st',_,rfl⟩
  exact lpJ_loop (hB st') c E X .ready
 .rintro j q H hq he ⟨st',hz,rfl⟩
  exact ⟨st',by rw [evP_take hq,if_pos he,List.append_nil]; exact hz,rfl⟩
 .rintro j q H hq he ⟨st',hz,rfl⟩
  have hev:=contL_pre hR hx hq he
  rw [<- hbs] at hev
  refine ayields_of_code (C:=⟨PP,Gl,27,ann_84,(B st'++lpJ c E X .ready).length,some (n+2 * c+1)⟩) (env:=E) (X:=X) (st:=.ready) (pd:=none) (ps:=[20]) (lpJ_get (hB st') c E X .ready) hX rfl ed rfl rfl (aB mixed ?_)
  simp -implicitDefEqProofs [ra0_84,beginP,encP,lpJ_get (hB st') c E X .ready,lpJ_set (hB st')]
  refine aB mixed ?_
  simp -implicitDefEqProofs [rb0_84,e3,hloop]
  refine yieldk (by simpa [contE] using hy _ q.sort st' (lpJ c E X .busy) hev hz) ?_
  rintro e2 h2 ⟨rfl,st2,hz2,rfl⟩
  simp -implicitDefEqProofs [roundP,lpJ_get (hB st2),lpJ_set (hB st2)]
  refine ⟨st2,?_,rfl⟩
  rw [evP_take hq,if_neg he]
  simpa [Nat.add_assoc] using hz2
 refine iterk ⟨_,hcall,fun _ _ h=>h⟩ rfl rfl ?_
 rintro r2 H3 ⟨rfl,st',hz,rfl⟩
 simp -implicitDefEqProofs [rangeEnd,lpJ_get (hB st'),lpJ_dead (hB st'),wi,dslot]
 refine ⟨⟨i+1,c+1,st'⟩,by simp; omega,⟨by simp; omega,?_⟩,?_,rfl⟩
 .simp only
  rw [contL_take hR,if_pos hx,List.length_append,<- hbs]
  simpa using hz
 .simp only [dslQ]
  exact aI (by simp [dslot])
end Go.Apx
end
section
namespace Go.Apx
open Go.Proofs
set_option maxRecDepth 4000
def StepsC (NT:(CSt -> AHeap) -> Prop) (nx:ByteArray -> Evs) (sf:FuncId) (fa fb:List AV):Prop :=
 ∀ x,∃ itf ga gb,(∀ H,AEx PP Gl sf (fa++[sv x]++fb) H (.ret (.fn (.func itf) ga gb)) H) /\ IterC NT nx x itf ga gb
def cloV (n0:Nat) (F:AV):AV:=.fn (.func 78) [] [.ip F,.ip (.mp n0),.ptr (n0+1) 0 0]
def cloB (hp:List ByteArray -> AHeap) (n0:Nat) (F:AV) (st:CSt):AHeap:=hp st.u++[.amap (aS bv (aT st.S)),.cells 0 [cloV n0 F]]
section
variable {hp:List ByteArray -> AHeap} {n0:Nat} {F:AV} (hl:∀ u,(hp u).length=n0) (st:CSt) (J:AHeap)
include hl
theorem cloB_map:(cloB hp n0 F st++J)[n0]?=some (.amap (aS bv (aT st.S))):=by
 have:=hl st.u
 unfold cloB
 rw [List.getElem?_append_left (by simp; omega),List.getElem?_append_right (by omega)]
 simp [this]
theorem cloB_fn:(cloB hp n0 F st++J)[n0+1]?=some (.cells 0 [cloV n0 F]):=by
 have:=hl st.u
 unfold cloB
 rw [List.getElem?_append_left (by simp; omega),List.getElem?_append_right (by omega)]
 simp [this]
theorem cloB_set (S:List ByteArray):(cloB hp n0 F st++J).set n0 (.amap (aS bv (aT S)))=cloB hp n0 F ⟨S,st.u⟩++J:=by
 have:=hl st.u
 unfold cloB
 rw [List.set_append_left _ _ (by simp; omega),List.set_append_right _ _ (by omega)]
 simp [this]
theorem cloB_len:(cloB hp n0 F st).length=n0+2:=by
 have:=hl st.u
 simp [cloB,this]
end
theorem visit_c (NT:(CSt -> AHeap) -> Prop) (nx:ByteArray -> Evs) (univ:List ByteArray) (sf:FuncId) (fa fb:List AV) (hp:List ByteArray -> AHeap) (n0:Nat) (hl:∀ u,(hp u).length=n0)
  (hcl:∀ st st',Cq (cloB hp n0 (.fn (.func sf) fa fb) st) (cloB hp n0 (.fn (.func sf) fa fb) st')) (hNT:NT (cloB hp n0 (.fn (.func sf) fa fb))) (hNJ:∀ B J,NT B -> NT (fun st=>B st++J))
  (hu:∀ z y,(true,y) ∈ nx z -> y ∈ univ) (hs:StepsC NT nx sf fa fb):∀ (N:Nat) (x:ByteArray) (st:CSt) (J:AHeap),offU univ st.S < N ->
  ACalls PP Gl 78 [sv x,.ip (.fn (.func sf) fa fb),.ip (.mp n0),.ptr (n0+1) 0 0] (cloB hp n0 (.fn (.func sf) fa fb) st++J) (fun e h'=>e=.ret (.tup []) /\ ∃ st',VRt nx (nx x) st st' /\ h'=cloB hp n0 (.fn (.func sf) fa fb) st'++J):=by
 intro N
 induction N with
 | zero=>intro x st J h; omega
 | succ N ih =>
  intro x st J hN
  obtain ⟨itf,ga,gb,hcall,hiter⟩:=hs x
  refine enter_78 (by simp) ?_
  simp -implicitDefEqProofs [code_78,res_78,ann_78]
  refine aP (hcall _) (by simp) rfl ?_
  simp -implicitDefEqProofs
  refine AWp.keep [2,3,8] (aI (by simp [dslot])) ?_
  simp -implicitDefEqProofs
  refine AWp.rangeF (gf:=itf) (fa:=ga) (fb:=gb) (dl:=[]) rfl (by simp) (by simp [noPend]) (by simp [deferred,dslot]) ?_
  intro X hX
  generalize hE:Env.del _ dslot=E
  have e2:E.get 2=some (.ip (.mp n0)):=by rw [<- hE,Env.get_del]; simp [dslot]
  have e3:E.get 3=some (.ptr (n0+1) 0 0):=by rw [<- hE,Env.get_del]; simp [dslot]
  have ed:E.get dslot=none:=by rw [<- hE,Env.get_del]; simp
  have hBl:=fun st'=>cloB_len (F:=.fn (.func sf) fa fb) hl st'
  have hBJ:∀ st',(cloB hp n0 (.fn (.func sf) fa fb) st'++J).length=n0+2+J.length:=fun st'=>by simp [hBl]
  have hM:=fun st' J'=>cloB_map (F:=.fn (.func sf) fa fb) hl st' J'
  have hV:=fun st' J'=>cloB_fn (F:=.fn (.func sf) fa fb) hl st' J'
  have hS:=fun st' J' S=>cloB_set (F:=.fn (.func sf) fa fb) hl st' J' S
  generalize cloB hp n0 (.fn (.func sf) fa fb)=B at *
  rw [hBJ]
  have hres:=hiter (fun st'=>B st'++J++lpJ 0 E X .ready) (n0+2+J.length+2) (n0+2+J.length+2 * 0+1) (fun i st'=>VRt nx ((nx x).take i) st st') st (fun st'=>by simp [hBl,lpJ,jkQ]; omega)
   (fun st1 st2=>((hcl st1 st2).tail (by rw [hBl,hBl]) J).tail (by rw [hBJ,hBJ]) _) (hNJ _ _ (hNJ _ _ hNT)) (fun st' J2=>?_) (fun i y st' J2 hy hz=>?_) (fun i s st' hy hz=>?_) (VRt.refl st)
  .refine iterk ⟨_,hres,fun _ _ h=>h⟩ rfl ?_ ?_
   .simp [lpJ,jkQ]
   rintro r H' ⟨rfl,st',hz,rfl⟩
   rw [List.take_length] at hz
   have h1:=lpJ_get (hBJ st') 0 E X .ready
   have h2:=lpJ_dead (hBJ st') 0 E X .ready
   simp only [Nat.mul_zero,Nat.add_zero,List.append_assoc] at h1 h2
   simp -implicitDefEqProofs [rangeEnd,h1,h2,dslot]
   refine retDefer [.it (n0+2+J.length)] ?_ ?_
   .simp [deferred,dslot]
   rw [<- List.append_assoc,show [AV.it (n0+2+J.length)]=(itsQ (B st'++J).length 1).map .it by simp only [itsQ,hBJ]; simp]
   exact leaveQ (v:=.tup []) 1 (by rw [hBJ,hBJ]) (fun H=>by simp [aN]) rfl (((hcl st st').tail (by rw [hBl,hBl]) J).cl _) ⟨rfl,st',hz,rfl⟩
  .have h1:=lpJ_get2 (hBJ st') 0 E X .ready J2
   unfold isLoop
   rw [List.append_assoc (B st'++J),h1]
  .rw [List.append_assoc (B st'++J)]
   refine ayields_of_code (C:=⟨PP,Gl,19,ann_78,(B st'++J++(lpJ 0 E X .ready++J2)).length,some (n0+2+J.length+2 * 0+1)⟩) (env:=E) (X:=X) (st:=.ready) (pd:=none) (ps:=[9]) (lpJ_get2 (hBJ st') 0 E X .ready J2) hX rfl ed rfl rfl (aB mixed ?_)
   have g1:=lpJ_get2 (hBJ st') 0 E X .ready J2
   have g2:=fun st1=>lpJ_set2 (hBJ st1) 0 E X .ready .busy J2
   simp only [Nat.mul_zero,Nat.add_zero,List.append_assoc] at g1 g2
   simp -implicitDefEqProofs [ra0_78,beginP,g1,g2]
   refine aB mixed ?_
   have g3:=fun st1=>lpJ_get2 (hBJ st1) 0 E X .busy J2
   have g4:=fun st1=>lpJ_set2 (hBJ st1) 0 E X .busy .ready J2
   simp only [Nat.mul_zero,Nat.add_zero,List.append_assoc] at g3 g4
   by_cases hyS:y ∈ st'.S
   .simp -implicitDefEqProofs [rb0_78,e2,e3,hM,hyS,roundP,g3,g4]
    refine ⟨st',?_,rfl⟩
    rw [List.take_add_one,hy]
    exact hz.old hyS
   .simp -implicitDefEqProofs [rb0_78,e2,e3,hM,hyS,hS,hV,metOf_set st'.S y hyS,cloV]
    have hoff:=offU_lt (univ:=univ) (hu x y (List.mem_of_getElem? hy)) hyS
    have hoff2:=offU_mono (univ:=univ) hz.mono
    refine be (ih y ⟨st'.S++[y],st'.u⟩ (J++(lpJ 0 E X .busy++J2)) (by simp only; omega)) (by simp [sv]) rfl ?_
    rintro r H' ⟨rfl,st2,hz2,rfl⟩
    simp -implicitDefEqProofs [roundP,g3,g4]
    refine ⟨st2,?_,rfl⟩
    rw [List.take_add_one,hy]
    exact hz.visit hyS hz2
  .rw [List.take_add_one,hy]
   exact hz.note s
end Go.Apx
end
section
namespace Go.Apx
open Go.Proofs
set_option maxRecDepth 4000
theorem met_inb (S:List ByteArray) (n:Nat):(AObj.amap (aS bv (aT S))).inb n=true:=by
 simp only [AObj.inb,aS,aT,List.map_map,List.all_map]
 rw [List.all_eq_true]
 intro s _
 rfl
theorem closure_c (NT:(CSt -> AHeap) -> Prop) (nx:ByteArray -> Evs) (univ:List ByteArray) (sf:FuncId) (fa fb:List AV) (hp:List ByteArray -> AHeap) (n0:Nat) (hl:∀ u,(hp u).length=n0)
  (hq:∀ u v,Cq (hp u) (hp v)) (hNT:NT (cloB hp n0 (.fn (.func sf) fa fb))) (hNJ:∀ B J,NT B -> NT (fun st=>B st++J))
  (hu:∀ z y,(true,y) ∈ nx z -> y ∈ univ) (hs:StepsC NT nx sf fa fb) (x:ByteArray) (slf:Bool) (u0:List ByteArray) :
  ACalls PP Gl 42 [sv x,bl slf,.fn (.func sf) fa fb] (hp u0) (fun e h'=>e=.ret (.mp n0) /\ ∃ b,CloS nx x slf u0 b /\ h'=hp b.u++[.amap (aS bv (aT b.S))]):=by
 have hcl:∀ st st',Cq (cloB hp n0 (.fn (.func sf) fa fb) st) (cloB hp n0 (.fn (.func sf) fa fb) st'):=by
  intro st st' i o ho
  unfold cloB at ho ⊢
  by_cases hi:i < n0
  .rw [List.getElem?_append_left (by rw [hl]; exact hi)] at ho ⊢
   exact hq _ _ i o ho
  .rw [List.getElem?_append_right (by rw [hl]; omega),hl] at ho ⊢
   match hd:i - n0 with
   | 0=>rw [hd] at ho; simp at ho; subst ho; exact .inr fun n=>met_inb _ n
   | 1=>rw [hd] at ho; left; exact ho
   | k+2=>rw [hd] at ho; simp at ho
 refine enter_42 (by simp) ?_
 have hv:=visit_c NT nx univ sf fa fb hp n0 hl hcl hNT hNJ hu hs
 have hlen:=hl u0
 have hfin:∀ b:CSt,Cl (hp u0) (hp b.u++[.amap (aS bv (aT b.S)),.cells 0 [cloV n0 (.fn (.func sf) fa fb)]]) (n0+1):=by
  intro b i o hi ho
  by_cases h1:i < n0
  .rw [List.getElem?_append_left (by rw [hl]; exact h1)] at ho
   exact (hq u0 b.u i o ho).imp id fun h=>h _
  .rw [List.getElem?_append_right (by rw [hl]; omega),hl,show i - n0=0 by omega] at ho
   simp at ho; subst ho
   exact .inr (met_inb _ _)
 have htake:∀ b:CSt,(hp b.u++[AObj.amap (aS bv (aT b.S)),.cells 0 [cloV n0 (.fn (.func sf) fa fb)]]).take (n0+1)=hp b.u++[.amap (aS bv (aT b.S))]:=fun b=>by
  rw [<- hl b.u,List.take_length_add_append]; rfl
 cases slf with
 | true =>
  simp -implicitDefEqProofs [code_42,res_42,ann_42,hlen]
  refine be (hv (offU univ [x]+1) x ⟨[x],u0⟩ [] (by simp)) (by simp [sv]) (by simp [cloB,aT,aS,cloV,bv]) ?_
  rintro r h' ⟨rfl,b,hb,rfl⟩
  have hb0:VRt nx (nx x) ⟨if (true:Bool)=true then [x] else [],u0⟩ b:=hb
  simp -implicitDefEqProofs [cloB]
  refine retCut (v:=.mp n0) (n0+1) (by simp [deferred,dslot]) (by simp [aN,aK]) (by omega) (by simp [hl]) (by simp [AV.strip,AV.inb]) (hfin b) ?_
  rw [htake]
  exact ⟨rfl,b,hb0.closure,rfl⟩
 | false =>
  simp -implicitDefEqProofs [code_42,res_42,ann_42,hlen]
  refine be (hv (offU univ []+1) x ⟨[],u0⟩ [] (by simp)) (by simp [sv]) (by simp [cloB,aT,aS,cloV,bv]) ?_
  rintro r h' ⟨rfl,b,hb,rfl⟩
  have hb0:VRt nx (nx x) ⟨if (false:Bool)=true then [x] else [],u0⟩ b:=hb
  simp -implicitDefEqProofs [cloB]
  refine retCut (v:=.mp n0) (n0+1) (by simp [deferred,dslot]) (by simp [aN,aK]) (by omega) (by simp [hl]) (by simp [AV.strip,AV.inb]) (hfin b) ?_
  rw [htake]
  exact ⟨rfl,b,hb0.closure,rfl⟩
theorem contained_steps (g:Gr) (hr:g.rules.length <= 2 ^ 31) (hps:∀ R ∈ g.rules,R.parts.length <= 2 ^ 31):StepsC (fun _=>True) (contE g) 50 [aM g] [] :=
 fun x=>⟨_,_,_,fun H=>by simpa [sv] using contained_c g x,contained1_c g x hr hps⟩
theorem Cq.refl (A:AHeap):Cq A A:=fun _ _ h=>.inl h
theorem contE_mem {g:Gr} {z y:ByteArray}:(true,y) ∈ contE g z ↔ ∃ R ∈ g.rules,R.sort=z /\ ∃ p ∈ R.parts,p.sort ≠ emp /\ p.sort=y:=by
 simp only [contE,contL,List.mem_flatMap,List.mem_filter,decide_eq_true_eq,evP,List.mem_map,Bool.not_eq_true',decide_eq_false_iff_not,Prod.mk.injEq,true_and]
 constructor
 .rintro ⟨R,⟨h1,h2⟩,p,⟨h3,h4⟩,h5⟩; exact ⟨R,h1,h2,p,h3,h4,h5⟩
 .rintro ⟨R,h1,h2,p,h3,h4,h5⟩; exact ⟨R,⟨h1,h2⟩,p,⟨h3,h4⟩,h5⟩
def ReachS (g:Gr) (x:ByteArray) (S:List ByteArray):Prop:=∃ b,CloS (contE g) x true [] b /\ b.S=S
theorem contClosure_c (g:Gr) (hin:bA g) (hr:g.rules.length <= 2 ^ 31) (hps:∀ R ∈ g.rules,R.parts.length <= 2 ^ 31) (x:ByteArray) {h:AHeap} :
  ACalls PP Gl 42 [sv x,bl true,.fn (.func 50) [aM g] []] h (fun e h'=>∃ S,ReachS g x S /\ e=.ret (.mp h.length) /\ h'=h++[.amap (aS bv (aT S))]):=by
 have:=closure_c (fun _=>True) (contE g) (g.sorts) 50 [aM g] [] (fun _=>h) h.length (fun _=>rfl) (fun _ _=>Cq.refl _) trivial (fun _ _ _=>trivial)
  (fun z y hy=>by
   obtain ⟨R,hR,_,p,hp,hp2,rfl⟩:=contE_mem.1 hy
   exact has_mem ((hin R hR).2 p hp hp2)) (contained_steps g hr hps) x true []
 refine this.mono fun e h' hh=>?_
 obtain ⟨rfl,b,hb,rfl⟩:=hh
 exact ⟨b.S,⟨b,hb,rfl⟩,rfl,rfl⟩
def ReachR (g:Gr) (s:ByteArray) (h:AHeap) (r:AEnd) (h':AHeap):Prop:=h'=h /\ ((aU g s ≠ 0 /\ r=.ret (.tup [.sl 0 [] .nil,i64 (aU g s)])) \/
 (aU g s=0 /\ ∃ S,ReachS g s S /\ r=.ret (.tup [aW 1 ((pickS g S).map sv),i64 0])))
theorem strip_grown_sv (l:List ByteArray):(aW 1 (l.map sv)).strip=aW 1 (l.map sv):=by
 unfold aW
 split
 .rename_i e; rw [e]; rfl
 .simp only [AV.strip,strip_strs]; rfl
theorem Reachable_c (g:Gr) (s:ByteArray) {h:AHeap} (hin:aO g=0 -> bA g) (hs:g.sorts.length <= 2 ^ 31) (hr:g.rules.length <= 2 ^ 31) (hp:∀ R ∈ g.rules,R.parts.length <= 2 ^ 31) (hc:AEx PP Gl 23 [aM g] h (.ret (i64 (aO g))) h) :
  ACalls PP Gl 21 [aM g,.sc (.string s)] h (ReachR g s h):=by
 refine enter_21 (by simp) ?_
 simp -implicitDefEqProofs [code_21,res_21,ann_21,aM]
 refine aP (sorted_c g s hs hc) (by simp [aM]) rfl ?_
 by_cases h1:aU g s=0
 case neg =>
  simp -implicitDefEqProofs [h1]
  exact bx (v:=.tup [.sl 0 [] .nil,i64 (aU g s)]) (by simp [deferred,dslot]) (by simp [aN,aK]) ⟨rfl,.inl ⟨h1,rfl⟩⟩
 have hck:aO g=0:=by
  unfold aU at h1
  by_cases e:aO g=0
  .exact e
  .rw [if_pos e] at h1; exact (e h1).elim
 simp -implicitDefEqProofs [h1]
 refine be (contClosure_c g (hin hck) hr hp s) (by simp [aM,sv]) rfl ?_
 rintro r h' ⟨S,hS,rfl,rfl⟩
 simp -implicitDefEqProofs
 refine aP (picked_c g S h.length (by simp) hs) (by simp [aM]) rfl ?_
 simp -implicitDefEqProofs
 have hst:=strip_grown_sv (pickS g S)
 refine retCut (v:=.tup [aW 1 ((pickS g S).map sv),i64 0]) h.length (by simp [deferred,dslot]) (by simp [aN,aK]) (Nat.le_refl _) (by simp) ?_ (Cl.app h _) ?_
 .simp only [AV.strip,aj,hst,AV.inb,inbL,inb_strs]; rfl
 .simp only [AV.strip,aj,hst,List.take_left]
  exact ⟨rfl,.inr ⟨h1,S,hS,rfl⟩⟩
end Go.Apx
end
