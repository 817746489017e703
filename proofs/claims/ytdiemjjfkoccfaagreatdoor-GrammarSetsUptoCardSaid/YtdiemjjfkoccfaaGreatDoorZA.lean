/- Walks: the reference's compare. -/
import Derived.Test.YtdiemjjfkoccfaaGreatDoorYD
set_option linter.unusedVariables false
set_option linter.unusedSimpArgs false
set_option linter.unnecessarySimpa false
section
namespace Go.Apx
open Go.Proofs
abbrev MX:=List Bool × Bool
def partR (g:Gr) (x:MX) (p:Pt):MX:=if p.sort ≠ emp /\ mkF g x.1 p.sort=false then (x.1.set (aw g.sorts p.sort).toNat true,true) else x
def ruleR (g:Gr) (x:MX) (R:Rl):MX:=if mkF g x.1 R.sort=true then R.parts.foldl (partR g) x else x
def Rch (g:Gr) (s y:ByteArray):Prop:=∀ C:ByteArray -> Prop,C s -> (∀ R ∈ g.rules,C R.sort -> ∀ p ∈ R.parts,p.sort ≠ emp -> C p.sort) -> C y
structure RInv (g:Gr) (s:ByteArray) (X:List Bool):Prop where
 len:X.length=g.sorts.length
 me:mkF g X s=true
 snd:∀ y,bU g.sorts y=true -> mkF g X y=true -> Rch g s y
section
variable {g:Gr} {s:ByteArray}
structure RStp (g:Gr) (x y:MX):Prop where
 mono:∀ t,bU g.sorts t=true -> mkF g x.1 t=true -> mkF g y.1 t=true
 flag:x.2=true -> y.2=true
 same:y.2=false -> y=x
 off:offM y.1 <= offM x.1 /\ (y.2=true -> x.2=true \/ offM y.1 < offM x.1)
theorem RStp.refl (x:MX):RStp g x x:=⟨fun _ _ h=>h,fun h=>h,fun _=>rfl,Nat.le_refl _,fun h=>.inl h⟩
theorem RStp.trans {x y z:MX} (a:RStp g x y) (b:RStp g y z):RStp g x z :=
 ⟨fun t ht h=>b.mono t ht (a.mono t ht h),fun h=>b.flag (a.flag h),fun h=>by
  have e:=b.same h
  subst e
  exact a.same h,Nat.le_trans b.off.1 a.off.1,fun h=>by
  rcases b.off.2 h with h1 | h1
  .rcases a.off.2 h1 with h2 | h2
   .exact .inl h2
   .have:=b.off.1; exact .inr (by omega)
  .have:=a.off.1; exact .inr (by omega)⟩
structure RSt (g:Gr) (s:ByteArray) (x y:MX):Prop extends RStp g x y where
 inv:RInv g s x.1 -> RInv g s y.1
theorem RSt.refl (x:MX):RSt g s x x:=⟨.refl x,fun h=>h⟩
theorem RSt.trans {x y z:MX} (a:RSt g s x y) (b:RSt g s y z):RSt g s x z:=⟨a.toRStp.trans b.toRStp,fun h=>b.inv (a.inv h)⟩
theorem partR_ok {x:MX} {R:Rl} {p:Pt} (hin:bA g) (hR:R ∈ g.rules) (hp:p ∈ R.parts) (hl:x.1.length=g.sorts.length) (hm:mkF g x.1 R.sort=true):RSt g s x (partR g x p) /\ (partR g x p).1.length=g.sorts.length /\ (p.sort ≠ emp -> mkF g (partR g x p).1 p.sort=true):=by
 unfold partR
 by_cases h:p.sort ≠ emp /\ mkF g x.1 p.sort=false
 .rw [if_pos h]
  have hs:=(hin R hR).2 p hp h.1
  have hset:∀ t,bU g.sorts t=true -> mkF g (x.1.set (aw g.sorts p.sort).toNat true) t=(mkF g x.1 t || decide (t=p.sort)):=fun t ht=>mkF_set hl hs ht
  obtain ⟨i,_,h2,h3⟩:=ai hs
  have hoff:offM (x.1.set (aw g.sorts p.sort).toNat true) < offM x.1:=by
   refine offM_set _ _ ?_
   have:=mkF_get hl h2 h3
   rw [h2]
   simp only [Int.toNat_natCast,this,h.2]
  refine ⟨⟨⟨fun t ht h1=>by rw [hset t ht,h1]; rfl,fun _=>rfl,fun e=>(by cases e),Nat.le_of_lt hoff,fun _=>.inr hoff⟩,fun hI=>⟨by simp [hl],?_,fun y hy h1=>?_⟩⟩,by simp [hl],fun _=>by rw [hset _ hs]; simp⟩
  .by_cases e:bU g.sorts s=true
   .rw [hset s e,hI.me]; rfl
   .have hme:=hI.me
    unfold mkF at hme ⊢
    rw [List.getD_eq_getElem?_getD] at hme ⊢
    rw [List.getElem?_set]
    split
    .split
     .rfl
     .rename_i h8 h9
      rw [h2] at h9; simp at h9; omega
    .exact hme
  .rw [hset y hy,Bool.or_eq_true,decide_eq_true_eq] at h1
   rcases h1 with h1 | rfl
   .exact hI.snd y hy h1
   .intro C c1 c2
    exact c2 R hR (hI.snd _ (hin R hR).1 hm C c1 c2) p hp h.1
 .rw [if_neg h]
  refine ⟨.refl x,hl,fun hne=>?_⟩
  cases e:mkF g x.1 p.sort with
  | true=>rfl
  | false=>exact (h ⟨hne,e⟩).elim
theorem partsR_ok {R:Rl} (hin:bA g) (hR:R ∈ g.rules):∀ (l:List Pt) (x:MX),(∀ p ∈ l,p ∈ R.parts) -> x.1.length=g.sorts.length -> mkF g x.1 R.sort=true ->
  RSt g s x (l.foldl (partR g) x) /\ (l.foldl (partR g) x).1.length=g.sorts.length /\ ∀ p ∈ l,p.sort ≠ emp -> mkF g (l.foldl (partR g) x).1 p.sort=true
 | [],x,_,hl,_=>⟨.refl x,hl,fun p hp=>by simp at hp⟩
 | q :: l,x,hq,hl,hm=>by
  rw [List.foldl_cons]
  obtain ⟨a1,a2,a3⟩:=partR_ok (s:=s) hin hR (hq q (by simp)) hl hm
  obtain ⟨b1,b2,b3⟩:=partsR_ok hin hR l (partR g x q) (fun p hp=>hq p (by simp [hp])) a2 (a1.mono _ (hin R hR).1 hm)
  refine ⟨a1.trans b1,b2,fun p hp hne=>?_⟩
  rcases List.mem_cons.1 hp with rfl | hp
  .exact b1.mono _ ((hin R hR).2 p (hq p (by simp)) hne) (a3 hne)
  .exact b3 p hp hne
theorem ruleR_ok {x:MX} {R:Rl} (hin:bA g) (hR:R ∈ g.rules) (hl:x.1.length=g.sorts.length):RSt g s x (ruleR g x R) /\ (ruleR g x R).1.length=g.sorts.length /\ (mkF g x.1 R.sort=true -> ∀ p ∈ R.parts,p.sort ≠ emp -> mkF g (ruleR g x R).1 p.sort=true):=by
 unfold ruleR
 by_cases hm:mkF g x.1 R.sort=true
 .rw [if_pos hm]
  obtain ⟨a,b,c⟩:=partsR_ok (s:=s) hin hR R.parts x (fun _ h=>h) hl hm
  exact ⟨a,b,fun _=>c⟩
 .rw [if_neg hm]
  exact ⟨.refl x,hl,fun h=>(hm h).elim⟩
theorem rulesR_ok (hin:bA g):∀ (l:List Rl) (x:MX),(∀ R ∈ l,R ∈ g.rules) -> x.1.length=g.sorts.length ->
  RSt g s x (l.foldl (ruleR g) x) /\ (l.foldl (ruleR g) x).1.length=g.sorts.length /\ ((l.foldl (ruleR g) x).2=false -> ∀ R ∈ l,mkF g x.1 R.sort=true -> ∀ p ∈ R.parts,p.sort ≠ emp -> mkF g x.1 p.sort=true)
 | [],x,_,hl=>⟨.refl x,hl,fun _ R hR=>by simp at hR⟩
 | Q :: l,x,hQ,hl=>by
  rw [List.foldl_cons]
  obtain ⟨a1,a2,a3⟩:=ruleR_ok (s:=s) hin (hQ Q (by simp)) hl
  obtain ⟨b1,b2,b3⟩:=rulesR_ok hin l (ruleR g x Q) (fun R hR=>hQ R (by simp [hR])) a2
  refine ⟨a1.trans b1,b2,fun e R hR hm p hp hne=>?_⟩
  have e1:=b1.same e
  rw [e1] at e
  have e2:=a1.same e
  rcases List.mem_cons.1 hR with rfl | hR
  .have:=a3 hm p hp hne
   rw [e2] at this
   exact this
  .have:=b3 (by rw [e1]; exact e) R hR (by rw [e2]; exact hm) p hp hne
   rw [e2] at this
   exact this
end
end Go.Apx
end
section
namespace Go.Apx
open Go.Proofs
set_option maxRecDepth 4000
def FixR (g:Gr) (X:List Bool):Prop:=∀ R ∈ g.rules,mkF g X R.sort=true -> ∀ p ∈ R.parts,p.sort ≠ emp -> mkF g X p.sort=true
def RchR (g:Gr) (s:ByteArray) (h:AHeap) (r:AEnd) (h':AHeap):Prop:=∃ X,RInv g s X /\ FixR g X /\ r=.ret (.rf h.length 0 0 g.sorts.length .full) /\ h'=marksH h X
set_option maxHeartbeats 4000000 in
theorem rreach_c (g:Gr) (s:ByteArray) {h:AHeap} (hin:bA g) (hs1:bU g.sorts s=true) (hs:g.sorts.length <= 2 ^ 31) (hr:g.rules.length <= 2 ^ 31) (hp:∀ R ∈ g.rules,R.parts.length <= 2 ^ 31) :
  ACalls PP Gl 55 [aM g,.sc (.string s)] h (RchR g s h):=by
 refine enter_55 (by simp) ?_
 have hml:g.sorts.length <= maxLenA:=by unfold maxLenA; omega
 obtain ⟨q,_,hq,hql⟩:=ai hs1
 have hqi:(q:Int) < g.sorts.length:=by omega
 have hq1:q+1 <= g.sorts.length:=hql
 simp -implicitDefEqProofs [code_55,res_55,ann_55,aM,hml,evW]
 refine aP (bp g.sorts g.sc s hs) rfl rfl ?_
 rw [hq]
 simp -implicitDefEqProofs [hqi,hql,hq1,evW]
 obtain ⟨X0,hX0⟩:∃ X0,X0=(List.replicate g.sorts.length false).set q true:=⟨_,rfl⟩
 have hX0l:X0.length=g.sorts.length:=by rw [hX0]; simp
 have hrl:(List.replicate g.sorts.length false).length=g.sorts.length:=by simp
 have h0m:∀ t,bU g.sorts t=true -> mkF g X0 t=decide (t=s):=fun t ht=>by
  have:=mkF_set (X:=List.replicate g.sorts.length false) hrl hs1 ht
  rw [hq] at this
  rw [hX0]
  have e:mkF g (List.replicate g.sorts.length false) t=false:=by
   unfold mkF
   rw [List.getD_eq_getElem?_getD,List.getElem?_replicate]
   split <;> rfl
  rw [e] at this
  simpa using this
 have hI0:RInv g s X0:=⟨hX0l,by rw [h0m s hs1]; simp,fun y hy h1 C c1 _=>by
  rw [h0m y hy] at h1
  have:y=s:=by simpa using h1
  rw [this]; exact c1⟩
 have hqR:q < (List.replicate g.sorts.length false).length:=by simpa using hql
 have hpe0:List.take q ((List.replicate g.sorts.length false).map bl)++bl true :: List.drop (q+1) ((List.replicate g.sorts.length false).map bl)=X0.map bl:=by
  rw [put_eq ((List.replicate g.sorts.length false).map bl) q _ (by simpa using hql),hX0,List.map_set]
 refine AWp.till (S:=MSt) ⟨X0,true⟩ (fun t=>2 * offM t.X+if t.more then 1 else 0) [1,2,5] (fun t=>[(6,.sc (.bool t.more))]) (fun t=>marksH h t.X) (fun t=>RInv g s t.X /\ (t.more=false -> FixR g t.X)) mixed ⟨hI0,fun e=>by cases e⟩ (aI (by simp [dslot])) (by simpa using hpe0) ?_
 rintro ⟨X,more⟩ ⟨hI,hfix⟩
 simp only at hI hfix
 cases more with
 | false =>
  simp -implicitDefEqProofs [lp0_55]
  exact bx (v:=.rf h.length 0 0 g.sorts.length .full) (by simp [deferred,dslot]) (by simp [aN,aK]) ⟨X,hI,hfix rfl,rfl,rfl⟩
 | true =>
  simp -implicitDefEqProofs [lp0_55]
  obtain ⟨Y,hY⟩:∃ Y:Nat -> MX,∀ i,Y i=(g.rules.take i).foldl (ruleR g) (X,false):=⟨_,fun _=>rfl⟩
  have hY0:Y 0=(X,false):=by rw [hY]; rfl
  have hYok:∀ i,(Y i).1.length=g.sorts.length:=fun i=>by rw [hY]; exact (rulesR_ok (s:=s) hin _ (X,false) (fun R hR=>List.mem_of_mem_take hR) hI.len).2.1
  refine AWp.cnt g.rules.length [1,2,5] (fun i=>[(6,.sc (.bool (Y i).2)),(7,i64 (i:Int))]) (fun i=>marksH h (Y i).1) (fun i=>True) mixed trivial (by rw [hY0]; exact aI (by simp [dslot])) (by rw [hY0]) (fun i hi hz=>?_) fun hz=>?_
  .obtain ⟨R,hR⟩:∃ R,g.rules[i]?=some R:=⟨g.rules[i],by simp [hi]⟩
   have hlt:(i:Int) < g.rules.length:=by omega
   have hne:g.rules ≠ []:=by intro e; rw [e] at hi; simp at hi
   have wi:IntKind.i64.wrap ((i:Int)+1)=(i:Int)+1:=IntWalk.i64_in _ (by omega)
   have hRm:=List.mem_of_getElem? hR
   have hYs:Y (i+1)=ruleR g (Y i) R:=by rw [hY,hY,fold_take _ _ hR]
   have hok1:=hYok i
   rw [hYs]
   generalize Y i=x at hok1
   obtain ⟨Z,b⟩:=x
   simp only at hok1
   obtain ⟨v,_,hv,hvl⟩:=ai (hin R hRm).1
   have hvi:(v:Int) < g.sorts.length:=by omega
   simp -implicitDefEqProofs [lp1_55,hlt,hne,hR,ab]
   cases hm:mkF g Z R.sort with
   | false =>
    have hrs:ruleR g (Z,b) R=(Z,b):=by unfold ruleR; rw [if_neg (by simp [hm])]
    rw [hrs]
    have hZv:=mkF_get hok1 hv hvl
    have hvZ:v < Z.length:=by omega
    have hZe:Z[v]'hvZ=mkF g Z R.sort:=(List.getElem?_eq_some_iff.1 hZv).2
    refine AWp.cnt 0 [1,2,5,6,7] (fun j=>[(8,i64 (j:Int))]) (fun _=>marksH h Z) (fun j=>True) mixed trivial (aI (by simp [dslot])) rfl (fun j hj _=>absurd hj (Nat.not_lt_zero _)) fun _=>?_
    simp -implicitDefEqProofs [lp2_55,hlt,hne,hR,ab]
    refine aP (bp g.sorts g.sc R.sort hs) rfl rfl ?_
    rw [hv]
    simp -implicitDefEqProofs [hvi,hvl,hZv,hvZ,hZe,hok1,hm,wi]
    exact aI (by simp [dslot])
   | true =>
    have hrs:ruleR g (Z,b) R=R.parts.foldl (partR g) (Z,b):=by unfold ruleR; rw [if_pos hm]
    rw [hrs]
    obtain ⟨P,hP⟩:∃ P:Nat -> MX,∀ j,P j=(R.parts.take j).foldl (partR g) (Z,b):=⟨_,fun _=>rfl⟩
    have hP0:P 0=(Z,b):=by rw [hP]; rfl
    have hPok:∀ j,(P j).1.length=g.sorts.length /\ mkF g (P j).1 R.sort=true:=fun j=>by
     obtain ⟨a1,a2,_⟩:=partsR_ok (s:=s) hin hRm (R.parts.take j) (Z,b) (fun p hp=>List.mem_of_mem_take hp) hok1 hm
     rw [hP]
     exact ⟨a2,a1.mono _ (hin R hRm).1 hm⟩
    refine AWp.cnt R.parts.length [1,2,5,7] (fun j=>[(6,.sc (.bool (P j).2)),(8,i64 (j:Int))]) (fun j=>marksH h (P j).1) (fun j=>True) mixed trivial (by rw [hP0]; exact aI (by simp [dslot])) (by rw [hP0]) (fun j hj _=>?_) fun _=>?_
    .obtain ⟨p,hpj⟩:∃ p,R.parts[j]?=some p:=⟨R.parts[j],by simp [hj]⟩
     have hlt2:(j:Int) < R.parts.length:=by omega
     have hne2:R.parts ≠ []:=by intro e; rw [e] at hj; simp at hj
     have hpl:=hp R hRm
     have wj:IntKind.i64.wrap ((j:Int)+1)=(j:Int)+1:=IntWalk.i64_in _ (by omega)
     have hPs:P (j+1)=partR g (P j) p:=by rw [hP,hP,fold_take _ _ hpj]
     have hok2:=hPok j
     rw [hPs]
     generalize P j=y at hok2
     obtain ⟨V,c⟩:=y
     simp only at hok2
     obtain ⟨hVl,hVm⟩:=hok2
     have hVv:=mkF_get hVl hv hvl
     have hvV:v < V.length:=by omega
     have hVe:V[v]'hvV=mkF g V R.sort:=(List.getElem?_eq_some_iff.1 hVv).2
     simp -implicitDefEqProofs [lp2_55,hlt,hne,hR,ab]
     refine aP (bp g.sorts g.sc R.sort hs) rfl rfl ?_
     rw [hv]
     by_cases e:p.sort=emp
     .have hpr:partR g (V,c) p=(V,c):=by unfold partR; rw [if_neg (fun h=>h.1 e)]
      rw [hpr]
      simp -implicitDefEqProofs [hvi,hvl,hVv,hvV,hVe,hVl,hVm,hlt,hne,hR,ab,hlt2,hne2,hpj,encP,e,emp,wj]
      exact aI (by simp [dslot])
     .have e':¬ p.sort=(⟨#[]⟩:ByteArray):=e
      obtain ⟨u,_,hu,hul⟩:=ai ((hin R hRm).2 p (List.mem_of_getElem? hpj) e)
      have hui:(u:Int) < g.sorts.length:=by omega
      have hVu:=mkF_get hVl hu hul
      have huV:u < V.length:=by omega
      have hVue:V[u]'huV=mkF g V p.sort:=(List.getElem?_eq_some_iff.1 hVu).2
      have hu1:u+1 <= g.sorts.length:=hul
      simp -implicitDefEqProofs [hvi,hvl,hVv,hvV,hVe,hVl,hVm,hlt,hne,hR,ab,hlt2,hne2,hpj,encP,e',wj]
      refine aP (bp g.sorts g.sc p.sort hs) rfl rfl ?_
      rw [hu]
      cases hmp:mkF g V p.sort with
      | true =>
       have hpr:partR g (V,c) p=(V,c):=by unfold partR; rw [if_neg (fun h=>by have h2:=h.2; simp only at h2; rw [hmp] at h2; cases h2)]
       rw [hpr]
       simp -implicitDefEqProofs [hui,hul,hVu,huV,hVue,hVl,hmp,wj]
       exact aI (by simp [dslot])
      | false =>
       have hpr:partR g (V,c) p=(V.set u true,true):=by unfold partR; rw [if_pos ⟨e,hmp⟩,hu]; rfl
       rw [hpr]
       simp -implicitDefEqProofs [hui,hul,hVu,huV,hVue,hVl,hmp,wj,hne2,hpj,encP,hlt,hR,ab]
       refine aP (bp g.sorts g.sc p.sort hs) rfl rfl ?_
       rw [hu]
       have hpe:List.take u (V.map bl)++bl true :: List.drop (u+1) (V.map bl)=(V.set u true).map bl:=by
        rw [put_eq (V.map bl) u _ (by simpa using huV),List.map_set]
       simp -implicitDefEqProofs [hui,hul,huV,hVl,hu1,evW,wj]
       exact ⟨aI (by simp [dslot]),by simpa using hpe⟩
    .obtain ⟨hVl,hVm⟩:=hPok R.parts.length
     have hPe:P R.parts.length=R.parts.foldl (partR g) (Z,b):=by rw [hP,List.take_length]
     rw [hPe] at hVl hVm ⊢
     generalize R.parts.foldl (partR g) (Z,b)=y at hVl hVm
     obtain ⟨V,c⟩:=y
     simp only at hVl hVm
     have hVv:=mkF_get hVl hv hvl
     have hvV:v < V.length:=by omega
     have hVe:V[v]'hvV=mkF g V R.sort:=(List.getElem?_eq_some_iff.1 hVv).2
     simp -implicitDefEqProofs [lp2_55,hlt,hne,hR,ab]
     refine aP (bp g.sorts g.sc R.sort hs) rfl rfl ?_
     rw [hv]
     simp -implicitDefEqProofs [hvi,hvl,hVv,hvV,hVe,hVl,hVm,hlt,hne,hR,ab,wi]
     exact aI (by simp [dslot])
  .simp -implicitDefEqProofs [lp1_55]
   have hfin:Y g.rules.length=g.rules.foldl (ruleR g) (X,false):=by rw [hY,List.take_length]
   obtain ⟨m1,m2,m3⟩:=rulesR_ok (s:=s) hin g.rules (X,false) (fun _ h=>h) hI.len
   rw [hfin]
   refine ⟨⟨(g.rules.foldl (ruleR g) (X,false)).1,(g.rules.foldl (ruleR g) (X,false)).2⟩,?_,⟨m1.inv hI,fun e=>?_⟩,aI (by simp [dslot]),rfl⟩
   .simp only
    have m4:=m1.off
    cases e:(g.rules.foldl (ruleR g) (X,false)).2 with
    | false=>have:=m4.1; simp at this ⊢; omega
    | true =>
     rcases m4.2 e with h9 | h9
     .cases h9
     .simp at h9 ⊢; omega
   .simp only at e ⊢
    have h9:=m1.same e
    rw [h9]
    exact m3 e
end Go.Apx
end
section
namespace Go.Apx
open Go.Proofs
set_option maxRecDepth 4000
def RReaR (g:Gr) (s:ByteArray) (h:AHeap) (r:AEnd) (h':AHeap):Prop:=h'=h /\ ((aU g s ≠ 0 /\ r=.ret (.tup [.sl 0 [] .nil,i64 (aU g s)])) \/
 (aU g s=0 /\ ∃ X,RInv g s X /\ FixR g X /\ r=.ret (.tup [aW 1 ((bY g X).map sv),i64 0])))
set_option maxHeartbeats 2000000 in
theorem rReachable_c (g:Gr) (s:ByteArray) {h:AHeap} (hs:g.sorts.length <= 2 ^ 31) (hr:g.rules.length <= 2 ^ 31):ACalls PP Gl 30 [aM g,.sc (.string s)] h (RReaR g s h):=by
 refine enter_30 (by simp) ?_
 simp -implicitDefEqProofs [code_30,res_30,ann_30,aM]
 refine aP (rsorted_c g s hs hr) (by simp [aM]) rfl ?_
 by_cases h1:aU g s=0
 case neg =>
  simp -implicitDefEqProofs [h1]
  exact bx (v:=.tup [.sl 0 [] .nil,i64 (aU g s)]) (by simp [deferred,dslot]) (by simp [aN,aK]) ⟨rfl,.inl ⟨h1,rfl⟩⟩
 obtain ⟨hck,hhs⟩:=sorted_mem h1
 have G:=gok hck
 simp -implicitDefEqProofs [h1]
 refine be (rreach_c g s G.inn hhs hs hr G.pl) (by simp [aM]) rfl ?_
 rintro r h' ⟨X,hI,hF,rfl,rfl⟩
 simp -implicitDefEqProofs
 refine aP (rpicked_c g X h.length .full G.nd hI.len (by simp) hs) (by simp [aM]) rfl ?_
 simp -implicitDefEqProofs
 have hst:(aW 1 ((bY g X).map sv)).strip=aW 1 ((bY g X).map sv):=strip_grown_sv _
 refine retCut (v:=.tup [aW 1 ((bY g X).map sv),i64 0]) h.length (by simp [deferred,dslot]) (by simp [aN,aK]) (Nat.le_refl _) (by simp) ?_ (Cl.app h _) ?_
 .simp only [AV.strip,aj,hst,AV.inb,inbL,inb_grown_sv]; rfl
 .simp only [AV.strip,aj,hst,List.take_left]
  exact ⟨rfl,.inr ⟨h1,X,hI,hF,rfl⟩⟩
end Go.Apx
end
