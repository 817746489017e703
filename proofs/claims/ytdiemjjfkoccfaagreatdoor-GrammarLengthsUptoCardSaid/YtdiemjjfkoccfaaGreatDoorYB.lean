/- Walks: the reference's firsts. -/
import Derived.Test.YtdiemjjfkoccfaaGreatDoorYA
import Derived.Test.YtdiemjjfkoccfaaGreatDoorGC
set_option linter.unusedVariables false
set_option linter.unusedSimpArgs false
set_option linter.unnecessarySimpa false
namespace Go.Apx
open Go.Proofs
set_option maxRecDepth 4000
abbrev fH (h:AHeap) (N X:List Bool) (O:List (List ByteArray)):AHeap:=h++[.cells 0 (N.map bl),.cells 0 (X.map bl),.cells 0 (O.map encW)]
theorem mkF_get {g:Gr} {X:List Bool} {s:ByteArray} {q:Nat} (hX:X.length=g.sorts.length) (hq:indexF g.sorts s=(q:Int)) (hql:q < g.sorts.length):X[q]?=some (mkF g X s):=by
 unfold mkF
 rw [hq,List.getD_eq_getElem?_getD]
 have:X[q]?=some X[q]:=by simp [hX,hql]
 simp only [Int.toNat_natCast,this]; rfl
def FsR (g:Gr) (h:AHeap) (r:AEnd) (h':AHeap):Prop:=∃ N X O,Mks g N X /\ FInv g O /\ (∀ R ∈ g.rules,Still g N X O R) /\ r=.ret (.rf (h.length+2) 0 0 g.sorts.length .full) /\ h'=fH h N X O
structure FSt where
 k:Nat
 l:List ByteArray
structure OS where
 O:List (List ByteArray)
 more:Bool
set_option maxHeartbeats 8000000 in
theorem firsts_c (g:Gr) {h:AHeap} (hin:SortsIn g) (hs:g.sorts.length <= 2 ^ 31) (hr:g.rules.length <= 1000) (hp:∀ R ∈ g.rules,R.parts.length <= 1000) :
  ACalls PP Gl 46 [encG g] h (FsR g h):=by
 have hp2:∀ R ∈ g.rules,R.parts.length <= 2 ^ 31:=fun R hR=>by have:=hp R hR; omega
 refine enter_46 (by simp) ?_
 have hml:g.sorts.length <= maxLenA:=by unfold maxLenA; omega
 simp -implicitDefEqProofs [code_46,res_46,ann_46,encG,hml,evW]
 refine callr (grown_c g false hin hs (by omega) hp2) (by simp [encG]) rfl ?_
 rintro r h' ⟨N,hN,rfl,rfl⟩
 simp -implicitDefEqProofs [hml,evW]
 refine callr (grown_c g true hin hs (by omega) hp2) (by simp [encG]) rfl ?_
 rintro r h' ⟨X,hX,rfl,rfl⟩
 have hM:=mks_of hin hN hX
 have hNl:=hN.len
 have hXl:=hX.len
 simp only at hNl hXl
 simp -implicitDefEqProofs [hml,evW]
 obtain ⟨m,hm⟩:∃ m,m=(symsG g).length:=⟨_,rfl⟩
 refine AWp.till (S:=OS) ⟨List.replicate g.sorts.length [],true⟩ (fun s=>2 * offO m s.O+if s.more then 1 else 0) [1,3,4,5] (fun s=>[(6,.sc (.bool s.more))]) (fun s=>fH h N X s.O) (fun s=>FInv g s.O /\ (s.more=false -> ∀ R ∈ g.rules,Still g N X s.O R)) mixed
  ⟨⟨by simp,fun l hl=>?_,fun s hs x hx=>?_⟩,fun e=>by cases e⟩ (le_of (by simp [dslot])) (by simp [encW,grown]) ?_
 .rw [List.eq_of_mem_replicate hl]; exact List.Pairwise.nil
 .exfalso
  unfold outAt at hx
  rw [List.getD_eq_getElem?_getD,List.getElem?_replicate] at hx
  split at hx <;> simp at hx
 rintro ⟨O,more⟩ ⟨hI,hfix⟩
 simp only at hI hfix
 cases more with
 | false =>
  simp -implicitDefEqProofs [lp0_46]
  exact ret1 (v:=.rf (h.length+2) 0 0 g.sorts.length .full) (by simp [deferred,dslot]) (by simp [evalRes,evalRes1]) ⟨N,X,O,hM,hI,hfix rfl,rfl,rfl⟩
 | true =>
  simp -implicitDefEqProofs [lp0_46]
  obtain ⟨Y,hY⟩:∃ Y:Nat -> OSt,∀ i,Y i=(g.rules.take i).foldl (roundO g N X) (O,false):=⟨_,fun _=>rfl⟩
  have hY0:Y 0=(O,false):=by rw [hY]; rfl
  have hYs:∀ {i R},g.rules[i]?=some R -> Y (i+1)=roundO g N X (Y i) R:=fun hR=>by rw [hY,hY,fold_take _ _ hR]
  have hYok:∀ i,FInv g (Y i).1 /\ offO m (Y i).1 <= offO m O /\ ((Y i).2=true -> offO m (Y i).1 < offO m O):=by
   intro i
   induction i with
   | zero=>rw [hY0]; exact ⟨hI,Nat.le_refl _,fun e=>by cases e⟩
   | succ i ih =>
    by_cases hi:i < g.rules.length
    .have hR:g.rules[i]?=some g.rules[i]:=by simp [hi]
     rw [hYs hR]
     obtain ⟨a,b,c⟩:=roundO_ok hin hM ih.1 (List.mem_of_getElem? hR)
     rw [<- hm] at b c
     refine ⟨a,by omega,fun e=>?_⟩
     rcases c e with c | c
     .have:=ih.2.2 c; omega
     .omega
    .have:Y (i+1)=Y i:=by rw [hY,hY,List.take_of_length_le (by omega),List.take_of_length_le (by omega)]
     rw [this]; exact ih
  refine AWp.cnt g.rules.length [1,3,4,5] (fun i=>[(6,.sc (.bool (Y i).2)),(7,i64 (i:Int))]) (fun i=>fH h N X (Y i).1) (fun i=>True) mixed trivial (by rw [hY0]; exact le_of (by simp [dslot])) (by rw [hY0]) (fun i hi hz=>?_) fun hz=>?_
  .obtain ⟨R,hR⟩:∃ R,g.rules[i]?=some R:=⟨g.rules[i],by simp [hi]⟩
   have hlt:(i:Int) < g.rules.length:=by omega
   have hne:g.rules ≠ []:=by intro e; rw [e] at hi; simp at hi
   have wi:IntKind.i64.wrap ((i:Int)+1)=(i:Int)+1:=IntWalk.i64_in _ (by omega)
   have hRm:=List.mem_of_getElem? hR
   have hok1:=(hYok i).1
   rw [hYs hR]
   generalize Y i=x at hok1
   obtain ⟨Z,b⟩:=x
   simp only at hok1
   have hZl:=hok1.len
   have hob:(fH h N X Z)[h.length+1]?=some (.cells 0 (X.map bl)) /\ (fH h N X Z)[h.length]?=some (.cells 0 (N.map bl)):=⟨by simp [fH],by simp [fH]⟩
   have husc:=usable_c g R X (h.length+1) hs (hp2 R hRm) hXl hob.1 (hin R hRm).2
   simp -implicitDefEqProofs [lp1_46,hlt,hne,hR,encR,encG]
   refine callk husc (by simp [encG,encR]) rfl ?_
   by_cases hu:R.parts.all (partM g true X)=true
   case neg =>
    have hrs:roundO g N X (Z,b) R=(Z,b):=by unfold roundO; rw [if_neg hu]
    rw [hrs]
    simp -implicitDefEqProofs [hu,wi]
    exact le_of (by simp [dslot])
   simp -implicitDefEqProofs [hu,wi]
   obtain ⟨q,_,hq,hql⟩:=index_of_has (hin R hRm).1
   have hqi:(q:Int) < g.sorts.length:=by omega
   refine callk (rindex_c g.sorts g.sc R.sort hs) rfl rfl ?_
   rw [hq]
   have hZq:Z[q]?=some (outAt g Z R.sort):=by
    have:=outAt_get hZl (hin R hRm).1
    rw [hq] at this
    simpa using this
   have hqZ:q < Z.length:=by omega
   have hZe:Z[q]'hqZ=outAt g Z R.sort:=(List.getElem?_eq_some_iff.1 hZq).2
   simp -implicitDefEqProofs [hqi,hql,hZq,hqZ,hZe,hZl]
   obtain ⟨F,hF⟩:∃ F,F=ruleFs g N Z R:=⟨_,rfl⟩
   obtain ⟨fo1,fo2,fo3⟩:=ruleFs_ok hin hM hok1 hRm hu
   rw [<- hF] at fo1 fo2 fo3
   have hrs1:(outAt g Z R.sort).length < F.length -> roundO g N X (Z,b) R=(Z.set q F,true):=fun hg=>by
    unfold roundO
    rw [if_pos hu,if_pos (by rw [<- hF]; exact hg),<- hF,hq]
    rfl
   have hrs2:¬ (outAt g Z R.sort).length < F.length -> roundO g N X (Z,b) R=(Z,b):=fun hg=>by
    unfold roundO
    rw [if_pos hu,if_neg (by rw [<- hF]; exact hg)]
   have hsy:∀ l:List ByteArray,StrictS l -> (∀ x ∈ l,x ∈ symsG g) -> l.length <= 1000000:=fun l h1 h2=>Nat.le_trans (nodup_le h1.nodup h2) (symsG_len hr hp)
   have hos:∀ t,hasF g.sorts t=true -> ∀ x ∈ outAt g Z t,x ∈ symsG g:=fun t ht x hx=>by
    obtain ⟨w,hw⟩:=hok1.snd t ht x hx
    exact gn_syms hw x (by simp)
   obtain ⟨kO,cO,eO,hkO⟩:=encW_sl (outAt g Z R.sort)
   have hq1:q+1 <= g.sorts.length:=hql
   have hpe:List.take q (Z.map encW)++encW F :: List.drop (q+1) (Z.map encW)=(Z.set q F).map encW:=by
    rw [put_eq (Z.map encW) q _ (by simpa using hqZ),List.map_set]
   refine AWp.till (S:=FSt) ⟨0,outAt g Z R.sort⟩ (fun s=>R.parts.length - s.k) [1,3,4,5,6,7,8,9] (fun s=>[(10,encW s.l),(11,i64 (s.k:Int))]) (fun _=>fH h N X Z) (fun s=>s.k <= R.parts.length /\ partsF g N Z (R.parts.drop s.k) s.l=F /\ StrictS s.l /\ ∀ x ∈ s.l,x ∈ symsG g) mixed
    ⟨by simp,by rw [hF]; simp [ruleFs],outAt_srt hok1.srt _,hos _ (hin R hRm).1⟩ (le_of (by simp [dslot])) rfl ?_
   rintro ⟨k,l⟩ ⟨z1,z2,z3,z4⟩
   simp only at z1 z2 z3 z4
   obtain ⟨kl,cl,el,hkl⟩:=encW_sl l
   by_cases hk:k < R.parts.length
   .obtain ⟨p,hpk⟩:∃ p,R.parts[k]?=some p:=⟨R.parts[k],by simp [hk]⟩
    have hltk:(k:Int) < R.parts.length:=by omega
    have hnek:R.parts ≠ []:=by intro e; rw [e] at hk; simp at hk
    have wk:IntKind.i64.wrap ((k:Int)+1)=(k:Int)+1:=IntWalk.i64_in _ (by have:=hp R hRm; omega)
    have hdr:R.parts.drop k=p :: R.parts.drop (k+1):=by
     rw [List.drop_eq_getElem_cons hk]
     congr 1
     exact (List.getElem?_eq_some_iff.1 hpk).2
    have hpm:=List.mem_of_getElem? hpk
    rw [hdr] at z2
    unfold partsF at z2
    by_cases e:p.sort=emp
    .rw [if_pos e] at z2
     simp -implicitDefEqProofs [lp2_46,hltk,hnek,hpk,encR,encP,e,emp]
     refine callk (insert_c l p.sym (hsy l z3 z4)) rfl rfl ?_
     rw [z2]
     obtain ⟨kF,cF,eF,hkF⟩:=encW_sl F
     simp -implicitDefEqProofs [eF]
     by_cases hg:(outAt g Z R.sort).length < F.length
     .have hg':((outAt g Z R.sort).length:Int) < F.length:=by omega
      rw [hrs1 hg]
      simp -implicitDefEqProofs [eF,hqi,hql,hZq,hqZ,hZe,hZl,eO,hg,hg',wi,hq1]
      rw [eF] at hpe
      exact ⟨le_of (by simp [dslot]),by simpa [eF] using hpe⟩
     .have hg':¬ ((outAt g Z R.sort).length:Int) < F.length:=by omega
      rw [hrs2 hg]
      simp -implicitDefEqProofs [eF,hqi,hql,hZq,hqZ,hZe,hZl,eO,hg,hg',wi,hq1]
      exact le_of (by simp [dslot])
    .rw [if_neg e] at z2
     have e':¬ p.sort=(⟨#[]⟩:ByteArray):=e
     have hps:=(hin R hRm).2 p hpm e
     simp -implicitDefEqProofs [lp2_46,hltk,hnek,hpk,encR,encP,e']
     refine callk (rindex_c g.sorts g.sc p.sort hs) rfl rfl ?_
     obtain ⟨u,_,hu2,hul⟩:=index_of_has hps
     rw [hu2]
     have hui:(u:Int) < g.sorts.length:=by omega
     simp -implicitDefEqProofs
     obtain ⟨xs,hxs⟩:∃ xs,xs=outAt g Z p.sort:=⟨_,rfl⟩
     rw [<- hxs] at z2
     have hxm:∀ x ∈ xs,x ∈ symsG g:=by rw [hxs]; exact hos _ hps
     have hxl:xs.length <= 1000000:=hsy xs (by rw [hxs]; exact outAt_srt hok1.srt _) hxm
     obtain ⟨kx,cx,ex,hkx⟩:=encW_sl xs
     have hZu:Z[u]?=some xs:=by
      have:=outAt_get hZl hps
      rw [hu2] at this
      rw [hxs]
      simpa using this
     have huZ:u < Z.length:=by omega
     have hZue:Z[u]'huZ=xs:=(List.getElem?_eq_some_iff.1 hZu).2
     have hNu:=mkF_get hNl hu2 hul
     have huN:u < N.length:=by omega
     have hNue:N[u]'huN=mkF g N p.sort:=(List.getElem?_eq_some_iff.1 hNu).2
     refine AWp.cnt xs.length [1,3,4,5,6,7,8,9,11,12] (fun j=>[(10,encW (insL l (xs.take j))),(13,i64 (j:Int))]) (fun _=>fH h N X Z) (fun _=>True) mixed trivial (le_of (by simp [dslot,insL])) rfl (fun j hj _=>?_) fun _=>?_
     .obtain ⟨y,hy⟩:∃ y,xs[j]?=some y:=⟨xs[j],by simp [hj]⟩
      have hltj:(j:Int) < xs.length:=by omega
      have hnex:xs ≠ []:=by intro e; rw [e] at hj; simp at hj
      have k1:=hkx hnex
      subst k1
      have wj:IntKind.i64.wrap ((j:Int)+1)=(j:Int)+1:=IntWalk.i64_in _ (by omega)
      have hstep:insL l (xs.take (j+1))=insF (insL l (xs.take j)) y:=by
       unfold insL
       rw [List.take_add_one,hy,List.foldl_append]; rfl
      have hll:(insL l (xs.take j)).length <= 1000000:=hsy _ (z3.insL _) (fun x hx=>by
       rcases mem_insL.1 hx with h1 | h1
       .exact z4 x h1
       .exact hxm x (List.mem_of_mem_take h1))
      have hins:=insert_c (insL l (xs.take j)) y hll (h:=fH h N X Z)
      rw [hstep]
      generalize insL l (xs.take j)=V at hins
      simp -implicitDefEqProofs [lp3_46,hltj,hnex,hy,hui,hul,hZu,huZ,hZue,hZl,ex]
      refine callk hins rfl rfl ?_
      simp -implicitDefEqProofs [wj]
      exact le_of (by simp [dslot])
     .rw [List.take_length]
      obtain ⟨V,hV⟩:∃ V,V=insL l xs:=⟨_,rfl⟩
      rw [<- hV] at z2 ⊢
      have z3':StrictS V:=by rw [hV]; exact z3.insL _
      have z4':∀ x ∈ V,x ∈ symsG g:=fun x hx=>by
       rw [hV] at hx
       rcases mem_insL.1 hx with h1 | h1
       .exact z4 x h1
       .exact hxm x h1
      cases hmk:mkF g N p.sort with
      | true =>
       rw [hmk,if_pos rfl] at z2
       simp -implicitDefEqProofs [lp3_46,hui,hul,hZu,huZ,hZue,hZl,ex,hNu,huN,hNue,hNl,hmk,wk]
       exact ⟨⟨k+1,V⟩,by simp only; omega,⟨by simp only; omega,z2,z3',z4'⟩,le_of (by simp [dslot])⟩
      | false =>
       rw [hmk,if_neg (by simp)] at z2
       subst z2
       obtain ⟨kF,cF,eF,hkF⟩:=encW_sl V
       simp -implicitDefEqProofs [lp3_46,hui,hul,hZu,huZ,hZue,hZl,ex,hNu,huN,hNue,hNl,hmk]
       by_cases hg:(outAt g Z R.sort).length < V.length
       .have hg':((outAt g Z R.sort).length:Int) < V.length:=by omega
        rw [hrs1 hg]
        simp -implicitDefEqProofs [eF,hqi,hql,hZq,hqZ,hZe,hZl,eO,hg,hg',wi,hq1]
        rw [eF] at hpe
        exact ⟨le_of (by simp [dslot]),by simpa [eF] using hpe⟩
       .have hg':¬ ((outAt g Z R.sort).length:Int) < V.length:=by omega
        rw [hrs2 hg]
        simp -implicitDefEqProofs [eF,hqi,hql,hZq,hqZ,hZe,hZl,eO,hg,hg',wi,hq1]
        exact le_of (by simp [dslot])
   .have hke:k=R.parts.length:=by omega
    subst hke
    rw [List.drop_length] at z2
    unfold partsF at z2
    subst z2
    obtain ⟨kF,cF,eF,hkF⟩:=encW_sl l
    simp -implicitDefEqProofs [lp2_46,encR]
    by_cases hg:(outAt g Z R.sort).length < l.length
    .have hg':((outAt g Z R.sort).length:Int) < l.length:=by omega
     rw [hrs1 hg]
     simp -implicitDefEqProofs [eF,hqi,hql,hZq,hqZ,hZe,hZl,eO,hg,hg',wi,hq1]
     rw [eF] at hpe
     exact ⟨le_of (by simp [dslot]),by simpa [eF] using hpe⟩
    .have hg':¬ ((outAt g Z R.sort).length:Int) < l.length:=by omega
     rw [hrs2 hg]
     simp -implicitDefEqProofs [eF,hqi,hql,hZq,hqZ,hZe,hZl,eO,hg,hg',wi,hq1]
     exact le_of (by simp [dslot])
  .simp -implicitDefEqProofs [lp1_46]
   have hfin:Y g.rules.length=g.rules.foldl (roundO g N X) (O,false):=by rw [hY,List.take_length]
   obtain ⟨m1,m2,m3⟩:=hYok g.rules.length
   refine ⟨⟨(Y g.rules.length).1,(Y g.rules.length).2⟩,?_,⟨m1,fun e=>?_⟩,le_of (by simp [dslot]),rfl⟩
   .simp only
    cases e:(Y g.rules.length).2 with
    | false=>simp; omega
    | true=>have:=m3 e; simp; omega
   .simp only at e ⊢
    rw [hfin] at e ⊢
    obtain ⟨n1,n2⟩:=roundsO_same g.rules (O,false) e
    rw [n1]; exact n2
end Go.Apx
