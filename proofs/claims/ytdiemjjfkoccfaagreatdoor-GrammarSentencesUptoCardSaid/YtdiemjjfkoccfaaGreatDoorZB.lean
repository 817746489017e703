/- Plain law: lists of expressions in strict order, with one more. -/
import Derived.Test.YtdiemjjfkoccfaaGreatDoorZA
set_option linter.unusedVariables false
set_option linter.unusedSimpArgs false
set_option linter.unnecessarySimpa false
section
namespace Go.Apx
open Go.Proofs
def StrictW (l:List W):Prop:=l.Pairwise fun a b=>cmpW a b < 0
theorem StrictW.nodup {l:List W} (h:StrictW l):l.Nodup:=List.Pairwise.imp (fun hab e=>by subst e; rw [cmpW_self] at hab; omega) h
theorem StrictW.sorted {l:List W} (h:StrictW l):SortedW l:=List.Pairwise.imp (fun {a b} hab h2=>by have:=(cmpW_anti a b).1 hab; omega) h
def addL:List W -> W -> List W
 | [],s=>[s]
 | x :: r,s=>if cmpW x s < 0 then x :: addL r s else if cmpW x s=0 then x :: r else s :: x :: r
theorem addL_at:∀ {l:List W} {s:W} {k:Nat},k <= l.length -> (∀ x ∈ l.take k,cmpW x s < 0) -> (∀ x,l[k]?=some x -> ¬ cmpW x s < 0) -> addL l s=if l[k]?=some s then l else atPut l s k
 | [],s,0,_,_,_=>by simp [addL,atPut]
 | x :: r,s,0,_,_,h=>by
  have h1:=h x rfl
  simp only [addL,if_neg h1,List.getElem?_cons_zero,Option.some.injEq]
  by_cases e:x=s
  .subst e; simp [cmpW_self]
  .have:¬ cmpW x s=0:=fun h2=>e (cmpW_zero h2)
   simp [e,this,atPut]
 | x :: r,s,k+1,hk,h1,h2=>by
  have hx:=h1 x (by simp)
  have ih:=addL_at (l:=r) (s:=s) (k:=k) (by simpa using hk) (fun y hy=>h1 y (by simp [hy])) (fun y hy=>h2 y (by simpa using hy))
  simp only [addL,if_pos hx,ih,List.getElem?_cons_succ]
  split
  .rfl
  .rfl
theorem mem_addL {l:List W} {s x:W}:x ∈ addL l s ↔ x=s \/ x ∈ l:=by
 induction l with
 | nil=>simp [addL]
 | cons a l ih =>
  unfold addL
  split
  .simp only [List.mem_cons,ih]
   constructor
   .rintro (h | h | h) <;> simp [h]
   .rintro (h | h | h) <;> simp [h]
  .split
   .rename_i e; have e:=cmpW_zero e; subst e; simp only [List.mem_cons]
    constructor
    .rintro (h | h) <;> simp [h]
    .rintro (h | h | h) <;> simp [h]
   .simp only [List.mem_cons]
theorem StrictW.add {l:List W} {s:W} (h:StrictW l):StrictW (addL l s):=by
 induction l with
 | nil=>simp [addL,StrictW]
 | cons a l ih =>
  obtain ⟨h1,h2⟩:=List.pairwise_cons.1 h
  unfold addL
  split
  .rename_i hlt
   refine List.pairwise_cons.2 ⟨fun y hy=>?_,ih h2⟩
   rcases mem_addL.1 hy with rfl | hy
   .exact hlt
   .exact h1 y hy
  .rename_i hlt
   split
   .exact h
   .rename_i hne
    have hsa:cmpW s a < 0:=by have:=cmpW_anti s a; omega
    refine List.pairwise_cons.2 ⟨fun y hy=>?_,h⟩
    rcases List.mem_cons.1 hy with rfl | hy
    .exact hsa
    .exact cmpW_trans hsa (h1 y hy)
theorem addL_len (l:List W) (s:W):(addL l s=l) \/ (addL l s).length=l.length+1:=by
 induction l with
 | nil=>simp [addL]
 | cons a l ih =>
  unfold addL
  split
  .rcases ih with h | h
   .left; rw [h]
   .right; simp [h]
  .split
   .left; rfl
   .right; simp
theorem addL_ne (l:List W) (s:W):addL l s ≠ []:=by
 cases l with
 | nil=>simp [addL]
 | cons a l =>
  unfold addL
  split
  .simp
  .split <;> simp
def newL (l:List W) (s:W):Bool:=decide (l.length < (addL l s).length)
theorem newL_false {l:List W} {s:W} (h:newL l s=false):addL l s=l:=by
 rcases addL_len l s with h1 | h1
 .exact h1
 .unfold newL at h; simp at h; omega
theorem newL_true {l:List W} {s:W} (h:newL l s=true):(addL l s).length=l.length+1:=by
 rcases addL_len l s with h1 | h1
 .unfold newL at h; rw [h1] at h; simp at h
 .exact h1
def allW (A:List ByteArray):Nat -> List W
 | 0=>[[]]
 | n+1=>[] :: A.flatMap fun a=>(allW A n).map (a :: ·)
theorem mem_allW {A:List ByteArray}:∀ {n:Nat} {w:W},(∀ x ∈ w,x ∈ A) -> w.length <= n -> w ∈ allW A n
 | 0,[],_,_=>by simp [allW]
 | 0,_ :: _,_,h=>by simp at h
 | n+1,[],_,_=>by simp [allW]
 | n+1,a :: w,h,hl=>by
  unfold allW
  refine List.mem_cons_of_mem _ (List.mem_flatMap.2 ⟨a,h a (by simp),List.mem_map.2 ⟨w,mem_allW (fun x hx=>h x (by simp [hx])) (by simpa using hl),rfl⟩⟩)
theorem allW_len (A:List ByteArray):∀ n,(allW A n).length <= (A.length+1) ^ n
 | 0=>by simp [allW]
 | n+1=>by
  have ih:=allW_len A n
  have h1:∀ B:List ByteArray,(B.flatMap fun a=>(allW A n).map (a :: ·)).length=B.length * (allW A n).length:=by
   intro B
   induction B with
   | nil=>simp
   | cons b B ihB=>simp only [List.flatMap_cons,List.length_append,List.length_map,ihB,List.length_cons]; rw [Nat.add_mul]; omega
  unfold allW
  simp only [List.length_cons,h1]
  have h2:A.length * (allW A n).length <= A.length * (A.length+1) ^ n:=Nat.mul_le_mul_left _ ih
  have h3:1 <= (A.length+1) ^ n:=Nat.one_le_pow _ _ (by omega)
  have h4:(A.length+1) ^ (n+1)=A.length * (A.length+1) ^ n+(A.length+1) ^ n:=by rw [Nat.pow_succ,Nat.mul_comm,Nat.add_mul,Nat.one_mul]
  omega
theorem few_words {A:List ByteArray} {n:Nat} {L:List W} (h:L.Nodup) (hA:∀ w ∈ L,(∀ x ∈ w,x ∈ A) /\ w.length <= n):L.length <= (A.length+1) ^ n :=
 Nat.le_trans (nodup_leW h fun w hw=>mem_allW (hA w hw).1 (hA w hw).2) (allW_len A n)
end Go.Apx
end
section
namespace Go.Apx
open Go.Proofs
def atA (g:Gr) (A:List (List W)) (s:ByteArray):List W:=A.getD (indexF g.sorts s).toNat []
def stA (g:Gr) (A:List (List W)):St:=g.sorts.zip A
theorem atA_getS {g:Gr} {A:List (List W)} (hl:A.length=g.sorts.length) {s:ByteArray} (hs:hasF g.sorts s=true):getS (stA g A) s=atA g A s:=by
 obtain ⟨i,h1,h2,h3⟩:=index_of_has hs
 unfold getS stA atA
 rw [zip_find s _ _ hl.symm,h1,h2]
 simp [List.getD_eq_getElem?_getD]
theorem atA_get {g:Gr} {A:List (List W)} (hl:A.length=g.sorts.length) {s:ByteArray} {q:Nat} (hq:indexF g.sorts s=(q:Int)) (hql:q < g.sorts.length):A[q]?=some (atA g A s):=by
 unfold atA
 rw [hq,List.getD_eq_getElem?_getD]
 have:A[q]?=some (A[q]'(by omega)):=by simp [hl,hql]
 simp only [Int.toNat_natCast,this]; rfl
theorem atA_mem {g:Gr} {A:List (List W)} {s:ByteArray}:atA g A s=[] \/ atA g A s ∈ A:=by
 unfold atA
 rw [List.getD_eq_getElem?_getD]
 cases e:A[(indexF g.sorts s).toNat]? with
 | none=>left; rfl
 | some x=>right; exact List.mem_of_getElem? e
def tailsF (g:Gr) (A:List (List W)) (p:Pt):List W:=if p.sort=emp then [[p.sym]] else atA g A p.sort
def inJ (last:Bool) (most:Int) (u:W) (N:List W) (v:W):List W :=
 if last=true /\ 2000 < N.length then N else if (u.length:Int)+v.length <= most then addL N (u++v) else N
def outJ (last:Bool) (most:Int) (ts:List W) (N:List W) (u:W):List W:=ts.foldl (inJ last most u) N
def joinL (g:Gr) (A:List (List W)) (most:Int):List Pt -> List W -> List W
 | [],out=>out
 | p :: r,out=>joinL g A most r (out.foldl (outJ r.isEmpty most (tailsF g A p)) [])
section
variable {last:Bool} {most:Int}
structure JS (last:Bool) (most:Int) (N N':List W):Prop where
 str:StrictW N -> StrictW N'
 sub:∀ x ∈ N,x ∈ N'
 len:N.length <= N'.length
theorem JS.refl (N:List W):JS last most N N:=⟨fun h=>h,fun _ h=>h,Nat.le_refl _⟩
theorem JS.trans {a b c:List W} (h:JS last most a b) (h':JS last most b c):JS last most a c:=⟨fun x=>h'.str (h.str x),fun x hx=>h'.sub x (h.sub x hx),Nat.le_trans h.len h'.len⟩
theorem inJ_ok (u:W) (N:List W) (v:W):JS last most N (inJ last most u N v) /\ (∀ x ∈ inJ last most u N v,x ∈ N \/ (x=u++v /\ (x.length:Int) <= most)) /\ (((u++v).length:Int) <= most -> u++v ∈ inJ last most u N v \/ (last=true /\ 2000 < (inJ last most u N v).length)):=by
 unfold inJ
 by_cases h1:last=true /\ 2000 < N.length
 .rw [if_pos h1]
  exact ⟨.refl _,fun x hx=>.inl hx,fun _=>.inr h1⟩
 .rw [if_neg h1]
  by_cases h2:(u.length:Int)+v.length <= most
  .rw [if_pos h2]
   refine ⟨⟨fun h=>h.add,fun x hx=>mem_addL.2 (.inr hx),?_⟩,fun x hx=>?_,fun _=>.inl (mem_addL.2 (.inl rfl))⟩
   .rcases addL_len N (u++v) with h | h
    .rw [h]; exact Nat.le_refl _
    .omega
   .rcases mem_addL.1 hx with rfl | hx
    .exact .inr ⟨rfl,by simpa using h2⟩
    .exact .inl hx
  .rw [if_neg h2]
   refine ⟨.refl _,fun x hx=>.inl hx,fun h=>?_⟩
   simp only [List.length_append] at h
   omega
theorem outJ_ok (u:W):∀ (ts:List W) (N:List W),JS last most N (outJ last most ts N u) /\ (∀ x ∈ outJ last most ts N u,x ∈ N \/ ∃ v ∈ ts,x=u++v /\ (x.length:Int) <= most) /\ (∀ v ∈ ts,((u++v).length:Int) <= most -> u++v ∈ outJ last most ts N u \/ (last=true /\ 2000 < (outJ last most ts N u).length))
 | [],N=>⟨.refl _,fun x hx=>.inl hx,fun v hv=>by simp at hv⟩
 | t :: ts,N=>by
  obtain ⟨a1,a2,a3⟩:=inJ_ok (last:=last) (most:=most) u N t
  obtain ⟨b1,b2,b3⟩:=outJ_ok u ts (inJ last most u N t)
  have e:outJ last most (t :: ts) N u=outJ last most ts (inJ last most u N t) u:=rfl
  rw [e]
  refine ⟨a1.trans b1,fun x hx=>?_,fun v hv hl=>?_⟩
  .rcases b2 x hx with h | ⟨v,h1,h2⟩
   .rcases a2 x h with h | ⟨h1,h2⟩
    .exact .inl h
    .exact .inr ⟨t,by simp,h1,h2⟩
   .exact .inr ⟨v,by simp [h1],h2⟩
  .rcases List.mem_cons.1 hv with rfl | hv
   .rcases a3 hl with h | ⟨h1,h2⟩
    .exact .inl (b1.sub _ h)
    .exact .inr ⟨h1,by have:=b1.len; omega⟩
   .exact b3 v hv hl
theorem outsJ_ok (ts:List W):∀ (out N:List W),JS last most N (out.foldl (outJ last most ts) N) /\ (∀ x ∈ out.foldl (outJ last most ts) N,x ∈ N \/ ∃ u ∈ out,∃ v ∈ ts,x=u++v /\ (x.length:Int) <= most) /\
  (∀ u ∈ out,∀ v ∈ ts,((u++v).length:Int) <= most -> u++v ∈ out.foldl (outJ last most ts) N \/ (last=true /\ 2000 < (out.foldl (outJ last most ts) N).length))
 | [],N=>⟨.refl _,fun x hx=>.inl hx,fun v hv=>by simp at hv⟩
 | t :: out,N=>by
  obtain ⟨a1,a2,a3⟩:=outJ_ok (last:=last) (most:=most) t ts N
  obtain ⟨b1,b2,b3⟩:=outsJ_ok ts out (outJ last most ts N t)
  rw [List.foldl_cons]
  refine ⟨a1.trans b1,fun x hx=>?_,fun u hu v hv hl=>?_⟩
  .rcases b2 x hx with h | ⟨u,h1,h2⟩
   .rcases a2 x h with h | ⟨v,h1,h2⟩
    .exact .inl h
    .exact .inr ⟨t,by simp,v,h1,h2⟩
   .exact .inr ⟨u,by simp [h1],h2⟩
  .rcases List.mem_cons.1 hu with rfl | hu
   .rcases a3 v hv hl with h | ⟨h1,h2⟩
    .exact .inl (b1.sub _ h)
    .exact .inr ⟨h1,by have:=b1.len; omega⟩
   .exact b3 u hu v hv hl
end
section
variable {g:Gr} {A:List (List W)} {most:Int}
theorem joinL_ok (hA:A.length=g.sorts.length):∀ (l:List Pt) (out:List W),(∀ p ∈ l,p.sort ≠ emp -> hasF g.sorts p.sort=true) -> StrictW out -> (∀ x ∈ out,(x.length:Int) <= most) ->
  StrictW (joinL g A most l out) /\ (∀ x ∈ joinL g A most l out,∃ u ∈ out,∃ w,Cat (stA g A) l w /\ x=u++w /\ (x.length:Int) <= most) /\
  (∀ u ∈ out,∀ w,Cat (stA g A) l w -> ((u++w).length:Int) <= most -> u++w ∈ joinL g A most l out \/ 2000 < (joinL g A most l out).length)
 | [],out,_,hs,ho=>⟨hs,fun x hx=>⟨x,hx,[],.nil,by simp,ho x hx⟩,fun u hu w hw _=>by cases hw; left; simpa [joinL] using hu⟩
 | p :: r,out,hin,hs,ho=>by
  have hmt:∀ v,v ∈ tailsF g A p ↔ ((p.sort=emp /\ v=[p.sym]) \/ (p.sort ≠ emp /\ v ∈ getS (stA g A) p.sort)):=fun v=>by
   unfold tailsF
   by_cases e:p.sort=emp
   .simp [e]
   .rw [if_neg e,atA_getS hA (hin p (by simp) e)]; simp [e]
  obtain ⟨a1,a2,a3⟩:=outsJ_ok (last:=r.isEmpty) (most:=most) (tailsF g A p) out []
  have ih:=joinL_ok hA r (out.foldl (outJ r.isEmpty most (tailsF g A p)) []) (fun q hq=>hin q (by simp [hq])) (a1.str (by simp [StrictW])) (fun x hx=>by
   rcases a2 x hx with h | ⟨_,_,_,_,_,h⟩
   .simp at h
   .exact h)
  unfold joinL
  obtain ⟨b1,b2,b3⟩:=ih
  refine ⟨b1,fun x hx=>?_,fun u hu w hw hl=>?_⟩
  .obtain ⟨y,hy,w,hw,rfl,hl⟩:=b2 x hx
   rcases a2 y hy with h | ⟨u,hu,v,hv,rfl,_⟩
   .simp at h
   .refine ⟨u,hu,v++w,?_,by simp,hl⟩
    rcases (hmt v).1 hv with ⟨e,rfl⟩ | ⟨e,hv⟩
    .exact .sym p r w e hw
    .exact .srt p r v w e hv hw
  .have key:∀ v w',v ∈ tailsF g A p -> Cat (stA g A) r w' -> w=v++w' -> u++w ∈ joinL g A most r (out.foldl (outJ r.isEmpty most (tailsF g A p)) []) \/ 2000 < (joinL g A most r (out.foldl (outJ r.isEmpty most (tailsF g A p)) [])).length:=by
    rintro v w' hv hw' rfl
    have hl2:((u++v).length:Int) <= most:=by simp only [List.length_append] at hl ⊢; omega
    rcases a3 u hu v hv hl2 with h | ⟨h1,h2⟩
    .have:=b3 (u++v) h w' hw' (by simpa [Nat.add_assoc,Int.add_assoc] using hl)
     simpa using this
    .cases r with
     | nil=>right; exact h2
     | cons _ _=>simp at h1
   cases hw with
   | sym _ _ w' e hw'=>exact key [p.sym] w' ((hmt _).2 (.inl ⟨e,rfl⟩)) hw' (by simp)
   | srt _ _ v w' e hv hw'=>exact key v w' ((hmt v).2 (.inr ⟨e,hv⟩)) hw' rfl
end
end Go.Apx
end
section
namespace Go.Apx
open Go.Proofs
abbrev WB:=List W × Bool
def addB (x:WB) (w:W):WB:=(addL x.1 w,x.2 || newL x.1 w)
theorem addB_ok:∀ (l:List W) (x:WB),(StrictW x.1 -> StrictW (l.foldl addB x).1) /\ (∀ w,w ∈ (l.foldl addB x).1 ↔ w ∈ x.1 \/ w ∈ l) /\ (x.2=true -> (l.foldl addB x).2=true) /\ ((l.foldl addB x).2=false -> (l.foldl addB x)=x) /\
  x.1.length <= (l.foldl addB x).1.length /\ ((l.foldl addB x).2=true -> x.2=true \/ x.1.length < (l.foldl addB x).1.length)
 | [],x=>⟨fun h=>h,fun w=>by simp,fun h=>h,fun _=>rfl,Nat.le_refl _,fun h=>.inl h⟩
 | a :: l,x=>by
  obtain ⟨h1,h2,h3,h4,h5,h6⟩:=addB_ok l (addB x a)
  rw [List.foldl_cons]
  have e0:(addB x a).1=addL x.1 a:=rfl
  have hl:x.1.length <= (addB x a).1.length:=by
   rw [e0]
   rcases addL_len x.1 a with h | h
   .rw [h]; exact Nat.le_refl _
   .omega
  refine ⟨fun h=>h1 h.add,fun w=>?_,fun h=>h3 (by simp [addB,h]),fun h=>?_,Nat.le_trans hl h5,fun h=>?_⟩
  .rw [h2]
   simp only [addB,mem_addL,List.mem_cons]
   constructor
   .rintro ((h | h) | h) <;> simp [h]
   .rintro (h | h | h) <;> simp [h]
  .have e:=h4 h
   rw [e] at h ⊢
   simp only [addB,Bool.or_eq_false_iff] at h
   unfold addB
   rw [newL_false h.2,h.2,h.1]
   obtain ⟨y,b⟩:=x
   simp only at h
   rw [h.1]; rfl
  .rcases h6 h with h7 | h7
   .simp only [addB,Bool.or_eq_true] at h7
    rcases h7 with h7 | h7
    .exact .inl h7
    .have:=newL_true h7
     right
     rw [<- e0] at this
     omega
   .right
    omega
abbrev ASt:=List (List W) × Bool
def joinR (g:Gr) (most:Int) (A:List (List W)) (R:Rl):List W:=joinL g A most R.parts [[]]
def roundJ (g:Gr) (X:List Bool) (most:Int) (x:ASt) (R:Rl):ASt :=
 if mkF g X R.sort=true then (x.1.set (indexF g.sorts R.sort).toNat ((joinR g most x.1 R).foldl addB (atA g x.1 R.sort,x.2)).1,((joinR g most x.1 R).foldl addB (atA g x.1 R.sort,x.2)).2) else x
def offA (m:Nat) (A:List (List W)):Nat:=(A.map fun l=>m - l.length).sum
def bigA (g:Gr) (A:List (List W)) (s:ByteArray):Bool:=decide (2000 < (atA g A s).length)
structure JSt where
 A:List (List W)
 more:Bool
 ok:Bool
def stepJ (g:Gr) (X:List Bool) (most:Int) (x:JSt) (R:Rl):JSt :=
 if x.ok=true then ⟨(roundJ g X most (x.A,x.more) R).1,(roundJ g X most (x.A,x.more) R).2,!(mkF g X R.sort && bigA g (roundJ g X most (x.A,x.more) R).1 R.sort)⟩ else x
structure AInv (g:Gr) (most:Int) (A:List (List W)):Prop where
 len:A.length=g.sorts.length
 str:∀ l ∈ A,StrictW l
 snd:∀ s,hasF g.sorts s=true -> ∀ w ∈ atA g A s,Gn g s w /\ (w.length:Int) <= most
section
variable {g:Gr} {X:List Bool} {most:Int} {m:Nat}
theorem AInv.strAt {A:List (List W)} (h:AInv g most A) (s:ByteArray):StrictW (atA g A s):=by
 rcases atA_mem (g:=g) (A:=A) (s:=s) with e | e
 .rw [e]; simp [StrictW]
 .exact h.str _ e
theorem atA_set {A:List (List W)} (hl:A.length=g.sorts.length) {s t:ByteArray} (hs:hasF g.sorts s=true) (ht:hasF g.sorts t=true) (l:List W):atA g (A.set (indexF g.sorts s).toNat l) t=if t=s then l else atA g A t:=by
 have h1:=atA_getS (g:=g) (A:=A.set (indexF g.sorts s).toNat l) (by simpa using hl) ht
 have h2:=atA_getS hl ht
 obtain ⟨i,j1,j2,j3⟩:=index_of_has hs
 rw [<- h1,<- h2]
 unfold stA
 rw [j2,Int.toNat_natCast,<- zip_set s l _ _ hl.symm i j1]
 exact getS_sset _ _ _ _
theorem cat_sound {A:List (List W)} (hA:AInv g most A) (hin:SortsIn g) {l:List Pt} {w:W} (hw:Cat (stA g A) l w):(∀ p ∈ l,p.sort ≠ emp -> hasF g.sorts p.sort=true) -> GnP g l w:=by
 induction hw with
 | nil=>intro _; exact .nil
 | sym p r w e _ ih=>intro h; exact .sym p r w e (ih fun q hq=>h q (by simp [hq]))
 | srt p r u w e hu _ ih =>
  intro h
  have hp:=h p (by simp) e
  rw [atA_getS hA.len hp] at hu
  obtain ⟨⟨R,hR,e2,hg⟩,_⟩:=hA.snd _ hp u hu
  exact .srt p r R u w e hR e2 hg (ih fun q hq=>h q (by simp [hq]))
theorem offA_set (m:Nat):∀ (A:List (List W)) (q:Nat) (l0 l:List W),A[q]?=some l0 -> l0.length <= l.length -> l.length <= m -> offA m (A.set q l) <= offA m A /\ (l0.length < l.length -> offA m (A.set q l) < offA m A)
 | [],q,l0,l,h,_,_=>by simp at h
 | a :: A,0,l0,l,h,h1,h2=>by
  simp only [List.getElem?_cons_zero,Option.some.injEq] at h; subst h
  simp only [offA,List.set_cons_zero,List.map_cons,List.sum_cons]
  omega
 | a :: A,q+1,l0,l,h,h1,h2=>by
  have ih:=offA_set m A q l0 l (by simpa using h) h1 h2
  simp only [offA,List.set_cons_succ,List.map_cons,List.sum_cons] at ih ⊢
  omega
theorem roundJ_ok (hin:SortsIn g) (hmo:0 <= most) (hB:∀ L:List W,L.Nodup -> (∀ w ∈ L,(∃ s,Gn g s w) /\ (w.length:Int) <= most) -> L.length <= m) {x:ASt} (hI:AInv g most x.1) {R:Rl} (hR:R ∈ g.rules) :
  AInv g most (roundJ g X most x R).1 /\ ((roundJ g X most x R).2=false -> roundJ g X most x R=x) /\ offA m (roundJ g X most x R).1 <= offA m x.1 /\ ((roundJ g X most x R).2=true -> x.2=true \/ offA m (roundJ g X most x R).1 < offA m x.1) /\
  (mkF g X R.sort=true -> ∀ w ∈ joinR g most x.1 R,w ∈ atA g (roundJ g X most x R).1 R.sort) /\ (∀ t,hasF g.sorts t=true -> (mkF g X R.sort=true -> t ≠ R.sort) -> atA g (roundJ g X most x R).1 t=atA g x.1 t):=by
 obtain ⟨hRs,hRp⟩:=hin R hR
 unfold roundJ
 by_cases hm:mkF g X R.sort=true
 .rw [if_pos hm]
  obtain ⟨j1,j2,j3⟩:=joinL_ok (g:=g) (A:=x.1) (most:=most) hI.len R.parts [[]] hRp (by simp [StrictW]) (by simp [hmo])
  obtain ⟨b1,b2,b3,b4,b5,b6⟩:=addB_ok (joinR g most x.1 R) (atA g x.1 R.sort,x.2)
  simp only at b1 b2 b3 b4 b5 b6
  have hsn:∀ w ∈ ((joinR g most x.1 R).foldl addB (atA g x.1 R.sort,x.2)).1,Gn g R.sort w /\ (w.length:Int) <= most:=fun w hw=>by
   rcases (b2 w).1 hw with h | h
   .exact hI.snd _ hRs w h
   .obtain ⟨u,hu,v,hv,rfl,hl⟩:=j2 w h
    simp at hu; subst hu
    exact ⟨⟨R,hR,rfl,by simpa using cat_sound hI hin hv hRp⟩,hl⟩
  have hst:=b1 (hI.strAt R.sort)
  have hlm:=hB _ hst.nodup fun w hw=>⟨⟨_,(hsn w hw).1⟩,(hsn w hw).2⟩
  have hget:x.1[(indexF g.sorts R.sort).toNat]?=some (atA g x.1 R.sort):=by
   obtain ⟨i,_,h2,h3⟩:=index_of_has hRs
   rw [h2]
   exact atA_get hI.len h2 h3
  have hoff:=offA_set m x.1 _ _ _ hget b5 hlm
  refine ⟨⟨by simpa using hI.len,fun l hl=>?_,fun t ht w hw=>?_⟩,fun e=>?_,hoff.1,fun e=>?_,fun _ w hw=>?_,fun t ht hne=>?_⟩
  .rcases List.mem_or_eq_of_mem_set hl with h | h
   .exact hI.str l h
   .rw [h]; exact hst
  .simp only at hw
   rw [atA_set hI.len hRs ht] at hw
   split at hw
   .rename_i e; subst e; exact hsn w hw
   .exact hI.snd t ht w hw
  .simp only at e
   have e2:=b4 e
   rw [e2]
   simp only
   obtain ⟨A,b⟩:=x
   simp only at hget ⊢
   rw [set_same hget]
  .simp only at e
   rcases b6 e with h | h
   .exact .inl h
   .exact .inr (hoff.2 h)
  .simp only
   rw [atA_set hI.len hRs hRs,if_pos rfl]
   exact (b2 w).2 (.inr hw)
  .simp only
   rw [atA_set hI.len hRs ht,if_neg (hne hm)]
 .rw [if_neg hm]
  exact ⟨hI,fun _=>rfl,Nat.le_refl _,fun h=>.inl h,fun h=>(hm h).elim,fun _ _ _=>rfl⟩
structure JInv (g:Gr) (most:Int) (m:Nat) (x:JSt):Prop extends AInv g most x.A where
 cap:x.ok=true -> ∀ s,hasF g.sorts s=true -> (atA g x.A s).length <= 2000
theorem stepJ_ok (hin:SortsIn g) (hmo:0 <= most) (hB:∀ L:List W,L.Nodup -> (∀ w ∈ L,(∃ s,Gn g s w) /\ (w.length:Int) <= most) -> L.length <= m) {x:JSt} (hI:JInv g most m x) {R:Rl} (hR:R ∈ g.rules) :
  JInv g most m (stepJ g X most x R) /\ ((stepJ g X most x R).more=false -> (stepJ g X most x R).ok=true -> stepJ g X most x R=x) /\ offA m (stepJ g X most x R).A <= offA m x.A /\ ((stepJ g X most x R).more=true -> x.more=true \/ offA m (stepJ g X most x R).A < offA m x.A) /\
  ((stepJ g X most x R).ok=true -> x.ok=true) /\ ((stepJ g X most x R).ok=true -> (stepJ g X most x R).more=false -> mkF g X R.sort=true -> ∀ w,Cat (stA g x.A) R.parts w -> (w.length:Int) <= most -> w ∈ atA g x.A R.sort):=by
 obtain ⟨hRs,hRp⟩:=hin R hR
 unfold stepJ
 by_cases hk:x.ok=true
 .rw [if_pos hk]
  obtain ⟨a1,a2,a3,a4,a5,a6⟩:=roundJ_ok (X:=X) hin hmo hB (x:=(x.A,x.more)) hI.toAInv hR
  refine ⟨⟨a1,fun h s hs=>?_⟩,fun h h2=>?_,a3,a4,fun _=>hk,fun h h2 hm w hw hl=>?_⟩
  .simp only [Bool.not_eq_true',Bool.and_eq_false_iff] at h
   by_cases e:mkF g X R.sort=true /\ s=R.sort
   .obtain ⟨e1,rfl⟩:=e
    rcases h with h | h
    .rw [e1] at h; cases h
    .unfold bigA at h; simp at h; exact h
   .have:=a6 s hs (fun h1 h2=>e ⟨h1,h2⟩)
    rw [this]
    exact hI.cap hk s hs
  .simp only at h h2
   have e:=a2 h
   rw [h2]
   obtain ⟨A,mo,ok⟩:=x
   simp only at e hk ⊢
   rw [e,hk]
  .simp only at h h2
   have e:=a2 h2
   obtain ⟨j1,j2,j3⟩:=joinL_ok (g:=g) (A:=x.A) (most:=most) hI.len R.parts [[]] hRp (by simp [StrictW]) (by simp [hmo])
   have a5':=a5 hm
   rw [e] at a5'
   simp only at a5'
   have hlen:(joinR g most x.A R).length <= 2000:=Nat.le_trans (nodup_leW j1.nodup a5') (hI.cap hk _ hRs)
   rcases j3 [] (by simp) w hw (by simpa using hl) with h3 | h3
   .exact a5' w (by simpa [joinR] using h3)
   .unfold joinR at hlen; omega
 .rw [if_neg hk]
  exact ⟨hI,fun _ _=>rfl,Nat.le_refl _,fun h=>.inl h,fun h=>h,fun h=>(hk h).elim⟩
theorem stepsJ_ok (hin:SortsIn g) (hmo:0 <= most) (hB:∀ L:List W,L.Nodup -> (∀ w ∈ L,(∃ s,Gn g s w) /\ (w.length:Int) <= most) -> L.length <= m):∀ (l:List Rl) (x:JSt),(∀ R ∈ l,R ∈ g.rules) -> JInv g most m x ->
  JInv g most m (l.foldl (stepJ g X most) x) /\ ((l.foldl (stepJ g X most) x).more=false -> (l.foldl (stepJ g X most) x).ok=true -> l.foldl (stepJ g X most) x=x) /\ offA m (l.foldl (stepJ g X most) x).A <= offA m x.A /\ ((l.foldl (stepJ g X most) x).more=true -> x.more=true \/ offA m (l.foldl (stepJ g X most) x).A < offA m x.A) /\
  ((l.foldl (stepJ g X most) x).ok=true -> x.ok=true) /\ ((l.foldl (stepJ g X most) x).ok=true -> (l.foldl (stepJ g X most) x).more=false -> ∀ R ∈ l,mkF g X R.sort=true -> ∀ w,Cat (stA g x.A) R.parts w -> (w.length:Int) <= most -> w ∈ atA g x.A R.sort)
 | [],x,_,hI=>⟨hI,fun _ _=>rfl,Nat.le_refl _,fun h=>.inl h,fun h=>h,fun _ _ R hR=>by simp at hR⟩
 | Q :: l,x,hl,hI=>by
  obtain ⟨a1,a2,a3,a4,a5,a6⟩:=stepJ_ok (X:=X) hin hmo hB hI (hl Q (by simp))
  obtain ⟨b1,b2,b3,b4,b5,b6⟩:=stepsJ_ok hin hmo hB l (stepJ g X most x Q) (fun R hR=>hl R (by simp [hR])) a1
  rw [List.foldl_cons]
  refine ⟨b1,fun h h2=>?_,Nat.le_trans b3 a3,fun h=>?_,fun h=>a5 (b5 h),fun h h2 R hR=>?_⟩
  .have e:=b2 h h2
   rw [e] at h h2 ⊢
   exact a2 h h2
  .rcases b4 h with h1 | h1
   .rcases a4 h1 with h2 | h2
    .exact .inl h2
    .exact .inr (by omega)
   .exact .inr (by omega)
  .have e:=b2 h2 h
   have b6':=b6 h h2
   rw [e] at h h2
   rcases List.mem_cons.1 hR with rfl | hR
   .exact a6 h h2
   .have e2:=a2 h2 h
    rw [e2] at b6'
    exact b6' R hR
end
theorem rsent_end {g:Gr} {s:ByteArray} {X:List Bool} {most:Int} {A:List (List W)} (hin:SortsIn g) (hs:hasF g.sorts s=true) (hI:RInv g s X) (hF:FixR g X) (hA:AInv g most A) (hcap:∀ s,hasF g.sorts s=true -> (atA g A s).length <= 2000)
  (hc:∀ R ∈ g.rules,mkF g X R.sort=true -> ∀ w,Cat (stA g A) R.parts w -> (w.length:Int) <= most -> w ∈ atA g A R.sort) :
  ¬ Over g (marked g X) most /\ ∀ w,w ∈ atA g A s ↔ Gn g s w /\ (w.length:Int) <= most:=by
 have hm:∀ t,t ∈ marked g X ↔ hasF g.sorts t=true /\ mkF g X t=true:=fun t=>by
  unfold marked
  rw [List.mem_filter]
  constructor
  .rintro ⟨h1,h2⟩; exact ⟨mem_has h1,h2⟩
  .rintro ⟨h1,h2⟩; exact ⟨has_mem h1,h2⟩
 have hS:∀ R ∈ g.rules,R.sort ∈ marked g X -> ∀ p ∈ R.parts,p.sort ≠ emp -> p.sort ∈ marked g X:=fun R hR h p hp hne=>(hm _).2 ⟨(hin R hR).2 p hp hne,hF R hR ((hm _).1 h).2 p hp hne⟩
 have hc':∀ R ∈ g.rules,R.sort ∈ marked g X -> ∀ w,Cat (stA g A) R.parts w -> (w.length:Int) <= most -> w ∈ getS (stA g A) R.sort:=fun R hR h w hw hl=>by
  rw [atA_getS hA.len (hin R hR).1]
  exact hc R hR ((hm _).1 h).2 w hw hl
 have all:∀ t ∈ marked g X,∀ w,Gn g t w /\ (w.length:Int) <= most -> w ∈ atA g A t:=by
  rintro t ht w ⟨⟨R,hR,rfl,hw⟩,hl⟩
  exact hc R hR ((hm _).1 ht).2 w (gn_in hS hc' hw (hS R hR ht) hl) hl
 refine ⟨?_,fun w=>⟨hA.snd s hs w,all s ((hm s).2 ⟨hs,hI.me⟩) w⟩⟩
 rintro ⟨t,ht,L,h1,h2,h3⟩
 have:=nodup_leW h1 fun w hw=>all t ht w (h3 w hw)
 have:=hcap t ((hm t).1 ht).1
 omega
end Go.Apx
end
section
namespace Go.Apx
open Go.Proofs
set_option maxRecDepth 4000
def encVc (c:Cap) (w:W):AV:=.sl 1 (w.map sv) c
abbrev encV (w:W):AV:=encVc .any w
def encL (l:List W):AV:=grown 1 (l.map encV)
@[simp] theorem one_encVc (c:Cap) (w:W):(encVc c w).one=true:=rfl
@[simp] theorem isPend_encVc (c:Cap) (w:W):(encVc c w).isPend=false:=rfl
@[simp] theorem cells_encVc (c:Cap) (w:W):(encVc c w).cells=[encVc c w]:=rfl
@[simp] theorem one_encL (l:List W):(encL l).one=true:=one_grown _ _
@[simp] theorem isPend_encL (l:List W):(encL l).isPend=false:=isPend_grown _ _
@[simp] theorem cells_encL (l:List W):(encL l).cells=[encL l]:=cells_grown _ _
theorem flat_encV (c:Cap) (l:List W):(l.map (encVc c)).flatMap AV.cells=l.map (encVc c):=by
 induction l with
 | nil=>rfl
 | cons a r ih=>simp only [List.map_cons,List.flatMap_cons,cells_encVc,ih]; rfl
theorem rows_encV (c:Cap):∀ (l:List W) (rest:List AV),rows 1 l.length (l.map (encVc c)++rest)=l.map (encVc c)
 | [],_=>rfl
 | a :: l,rest=>by
  simp only [List.length_cons,List.map_cons,List.cons_append,rows,if_true,List.headD_cons,List.drop_succ_cons,List.drop_zero,rows_encV c l rest]
theorem rows_encV0 (c:Cap) (l:List W):rows 1 l.length (l.map (encVc c))=l.map (encVc c):=by simpa using rows_encV c l []
theorem inb_encV (n:Nat) (w:W):(encV w).inb n=true:=by
 have:∀ l:W,inbL n (l.map sv)=true:=fun l=>by
  induction l with
  | nil=>rfl
  | cons a l ih=>simp only [List.map_cons,inbL,ih]; rfl
 simp only [encV,encVc,AV.inb,this]; rfl
theorem inb_encL (n:Nat) (l:List W):(encL l).inb n=true:=by
 have:∀ l:List W,inbL n (l.map encV)=true:=fun l=>by
  induction l with
  | nil=>rfl
  | cons a l ih=>simp only [List.map_cons,inbL,ih,inb_encV]; rfl
 unfold encL grown
 split
 .rename_i e; rw [e]; rfl
 .simp only [AV.inb,this]; rfl
theorem encL_sl (l:List W):∃ k c,encL l=.sl k (l.map encV) c /\ (l ≠ [] -> k=1):=by
 cases l with
 | nil=>exact ⟨0,.nil,rfl,fun h=>(h rfl).elim⟩
 | cons a r=>exact ⟨1,.any,rfl,fun _=>rfl⟩
def AddR0 (l:List W) (s:W) (h:AHeap) (r:AEnd) (h':AHeap):Prop:=Low h.length h h' /\ ((addL l s=l /\ newL l s=false /\ r=.ret (.tup [encL l,bl false])) \/
 ∃ o g,h.length <= o /\ newL l s=true /\ h'[o]?=some (.cells g ((addL l s).map encV)) /\ r=.ret (.tup [.rf o g 0 (addL l s).length (.own 1),bl true]))
theorem atPut_map {α β:Type} (f:α -> β) (l:List α) (s:α) (k:Nat):atPut (l.map f) (f s) k=(atPut l s k).map f:=by
 simp [atPut]
set_option maxHeartbeats 4000000 in
theorem radd_tail (l:List W) (s:W) (i:Nat) (hl:l.length <= 100000000) (hi:i <= l.length) (gg:Nat) (R:AEnd -> AHeap -> Prop) {h:AHeap} (hR:R (.ret (.tup [.rf h.length gg 0 (l.length+1) (.own 1),bl true])) (h++[.cells gg ((atPut l s i).map encV)])) :
  AWp ⟨PP,Gl,63,[39,41],h.length,none⟩ (.loop lp1_57) (blockP 2 (thenP (codeK ⟨PP,Gl,63,[39,41],h.length,none⟩
     ((ACode.reg
         [{ dst:=some 58,op:=AOp.mv (Opd.t 0),guard:=none,after:=[] },
          {dst:=some 59,op:=AOp.mv (Opd.t 6),guard:=none,after:=[] },
          {dst:=some 60,op:=AOp.mv (Opd.t 1),guard:=none,after:=[] },
          {dst:=some 61,op:=AOp.iaddr 1 (Opd.t 58) (Opd.t 59),guard:=none,
           after:=[0,1,0,1,2] },
          {dst:=none,op:=AOp.store 1 (Opd.t 61) (Opd.t 60),guard:=none,
           after:=[3,2,0,1,2] }]).seq
       ((ACode.reg
          [{ dst:=some 62,op:=AOp.mv (Opd.t 0),guard:=none,after:=[] },
           {dst:=some 4,op:=AOp.mv (Opd.t 62),guard:=none,after:=[0,0] },
           {dst:=some 5,op:=AOp.mv (Opd.c (AV.sc (Value.bool true))),guard:=none,
            after:=[1,0,1] }]).seq
        ACode.ret)) (retPost PP Gl h [.t 4,.t 5] R)) (retPost PP Gl h [.t 4,.t 5] R)))
   [(0,.rf h.length gg 0 (l.length+1) (.own 1)),(1,encV s),(6,i64 (i:Int)),(7,i64 (l.length:Int))] (h++[.cells gg (l.map encV++[.sl 0 [] .nil])]):=by
 obtain ⟨E,hE⟩:∃ E,E=l.map encV:=⟨_,rfl⟩
 have hEl:E.length=l.length:=by rw [hE]; simp
 rw [<- hE]
 refine AWp.till (S:=Nat × AV) (l.length,.sl 0 [] .nil) (fun st=>st.1 - i) [0,1,6] (fun st=>[(7,i64 (st.1:Int))]) (fun st=>h++[.cells gg (atPut E st.2 st.1)]) (fun st=>i <= st.1 /\ st.1 <= l.length) mixed ⟨hi,Nat.le_refl _⟩ (le_of (by simp [dslot])) (by simp only [<- hEl,atPut_end]) ?_
 rintro ⟨k,x⟩ ⟨z1,z2⟩
 simp only at z1 z2
 have hal:=atPut_len (l:=E) (s:=x) (k:=k)
 by_cases hk:i < k
 .obtain ⟨k',rfl⟩:∃ k',k=k'+1:=⟨k - 1,by omega⟩
  obtain ⟨u,hu⟩:∃ u,l[k']?=some u:=⟨l[k']'(by omega),by simp⟩
  obtain ⟨y,hyu⟩:∃ y,y=encV u:=⟨_,rfl⟩
  have hy:E[k']?=some y:=by rw [hE,List.getElem?_map,hu,hyu]; rfl
  have y1:y.one=true:=by rw [hyu]; rfl
  have y2:y.isPend=false:=by rw [hyu]; rfl
  have y3:y.cells=[y]:=by rw [hyu]; rfl
  have hik:(i:Int) < (k':Int)+1:=by omega
  have hbf:(atPut E x (k'+1))[k']?=some y:=by rw [atPut_before (by omega) (by omega),hy]
  have hmv:=atPut_move (s:=x) (show k'+1 <= E.length by omega) hy
  have wk:IntKind.i64.wrap (k':Int)=(k':Int):=IntWalk.i64_in _ (by omega)
  have q1:k'+1 < (atPut E x (k'+1)).length:=by omega
  have q2:k' < (atPut E x (k'+1)).length:=by omega
  have q3:k' < l.length+1:=by omega
  have q4:k'+1 < l.length+1:=by omega
  have q7:((k':Int)+1).toNat=k'+1:=by omega
  have q8:(0:Int) <= (k':Int)+1:=by omega
  have hbf2:(atPut E x (k'+1))[k']'q2=y:=(List.getElem?_eq_some_iff.1 hbf).2
  have hset:List.take (k'+1) (atPut E x (k'+1))++y :: List.drop (k'+1+1) (atPut E x (k'+1))=atPut E y k':=by
   rw [put_eq (atPut E x (k'+1)) (k'+1) y (by omega),hmv]
  simp -implicitDefEqProofs [lp1_57,hik,q1,q2,q3,q4,q7,q8,hal,hEl,hbf,hbf2,wk,z2,hset,y1,y2,y3]
  exact ⟨k',by omega,⟨by omega,by omega⟩,le_of (by simp [dslot]),y,rfl⟩
 .have hki:k=i:=by omega
  subst hki
  have k3:k < l.length+1:=by omega
  have hset:List.take k (atPut E x k)++encV s :: List.drop (k+1) (atPut E x k)=(atPut l s k).map encV:=by
   rw [put_eq (atPut E x k) k _ (by omega),atPut_set (by omega),hE]
   exact atPut_map encV l s k
  simp -implicitDefEqProofs [lp1_57,hal,hEl,k3,z2,hset]
  exact ret1 (v:=.tup [.rf h.length gg 0 (l.length+1) (.own 1),bl true]) (by simp [deferred,dslot]) (by simp [evalRes,evalRes1]) hR
set_option maxHeartbeats 4000000 in
theorem radd0_c (l:List W) (s:W) (hl:l.length <= 100000000) (hw:∀ x ∈ l,x.length <= 2 ^ 31) (hsl:s.length <= 2 ^ 31) {h:AHeap}:ACalls PP Gl 57 [encL l,encV s] h (AddR0 l s h):=by
 obtain ⟨kl,cl,el,hkl⟩:=encL_sl l
 rw [el]
 refine enter_57 (by simp) ?_
 simp -implicitDefEqProofs [code_57,res_57,ann_57]
 have hmx:l.length <= 4294967296:=by omega
 have hmx1:l.length+1 <= 4294967296:=by omega
 have htk:List.take l.length (List.map encV l)=List.map encV l:=List.take_of_length_le (by simp)
 have wl:IntKind.i64.wrap (l.length:Int)=(l.length:Int):=IntWalk.i64_in _ (by omega)
 have hend:∀ (k g:Nat),k <= l.length -> (∀ x ∈ l.take k,cmpW x s < 0) -> (∀ x,l[k]?=some x -> ¬ cmpW x s < 0) -> l[k]? ≠ some s -> AddR0 l s h (.ret (.tup [.rf h.length g 0 (l.length+1) (.own 1),bl true])) (h++[.cells g ((atPut l s k).map encV)]):=fun k g h1 h2 h3 h4=>by
  have hin:=addL_at h1 h2 h3
  rw [if_neg h4] at hin
  have hlen:(addL l s).length=l.length+1:=by rw [hin]; exact atPut_len
  exact ⟨Low.app _ _ _,.inr ⟨h.length,g,Nat.le_refl _,by unfold newL; simp [hlen],by rw [hin]; simp,by rw [hlen]⟩⟩
 refine AWp.till (S:=Nat) 0 (fun i=>l.length - i) [0,1] (fun i=>[(6,i64 (i:Int))]) (fun _=>h) (fun i=>i <= l.length /\ ∀ x ∈ l.take i,cmpW x s < 0) mixed ⟨by simp,by simp⟩ (le_of (by simp [dslot])) rfl ?_
 rintro i ⟨z1,z2⟩
 by_cases hi:i < l.length
 .obtain ⟨x,hx⟩:∃ x,l[i]?=some x:=⟨l[i],by simp [hi]⟩
  have hlt:(i:Int) < l.length:=by omega
  have hne:l ≠ []:=by intro e; rw [e] at hi; simp at hi
  have k1:=hkl hne
  subst k1
  have wi:IntKind.i64.wrap ((i:Int)+1)=(i:Int)+1:=IntWalk.i64_in _ (by omega)
  have hcm:AEx PP Gl 94 [encV x,encV s] h (.ret (i64 (cmpW x s))) h:=rcompare0_c x s 1 1 .any .any (fun _=>rfl) (fun _=>rfl) (hw x (List.mem_of_getElem? hx)) hsl
  simp -implicitDefEqProofs [lp0_57,hlt,hx,hne,wi]
  refine callk hcm rfl rfl ?_
  by_cases hxs:cmpW x s < 0
  .simp -implicitDefEqProofs [hxs,wi]
   refine ⟨i+1,by omega,⟨by omega,fun y hy=>?_⟩,le_of (by simp [dslot])⟩
   rw [List.take_add_one,hx] at hy
   rcases List.mem_append.1 hy with hy | hy
   .exact z2 y hy
   .simp at hy; subst hy; exact hxs
  .have hge:∀ y,l[i]?=some y -> ¬ cmpW y s < 0:=fun y hy=>by rw [hx] at hy; cases hy; exact hxs
   simp -implicitDefEqProofs [hxs,hlt,hx,hne]
   refine callk hcm rfl rfl ?_
   by_cases hxe:cmpW x s=0
   .have hxe2:=cmpW_zero hxe
    have hin:=addL_at z1 z2 hge
    rw [hx,if_pos (by rw [hxe2])] at hin
    simp -implicitDefEqProofs [hxs,hxe]
    exact ret1 (v:=.tup [encL l,bl false]) (by simp [deferred,dslot]) (by simp [evalRes,evalRes1,el]) ⟨fun _ _ _ h=>h,.inl ⟨hin,by unfold newL; rw [hin]; simp,rfl⟩⟩
   .have hne3:l[i]? ≠ some s:=fun e=>by rw [hx] at e; cases e; exact hxe (cmpW_self s)
    simp -implicitDefEqProofs [hxs,hxe,hne,hmx,hmx1,flat_encV,rows_encV,maxLenA,htk]
    refine AWp.weaken (radd_tail l s i hl z1 1 (AddR0 l s h) (h:=h) (hend i 1 z1 z2 hge hne3)) (le_of ?_)
    simp [dslot,wl]
 .have hie:i=l.length:=by omega
  subst hie
  have hno:l[l.length]?=none:=List.getElem?_eq_none (Nat.le_refl _)
  have hge:∀ y,l[l.length]?=some y -> ¬ cmpW y s < 0:=fun y hy=>by rw [hno] at hy; cases hy
  have hne3:l[l.length]? ≠ some s:=by rw [hno]; simp
  by_cases hne:l=[]
  .subst hne
   simp -implicitDefEqProofs [lp0_57,maxLenA]
   exact (radd_tail [] s 0 (by simp) (by simp) 0 (AddR0 [] s h) (h:=h) (hend 0 0 (by simp) (by simp) (by simp) (by simp))).weaken (le_of (by simp [dslot]))
  .have k1:=hkl hne
   subst k1
   simp -implicitDefEqProofs [lp0_57,hne,hmx,hmx1,flat_encV,rows_encV,maxLenA,htk]
   refine AWp.weaken (radd_tail l s l.length hl z1 1 (AddR0 l s h) (h:=h) (hend _ 1 z1 z2 hge hne3)) (le_of ?_)
   simp [dslot,wl]
theorem radd_c (l:List W) (s:W) (hl:l.length <= 100000000) (hw:∀ x ∈ l,x.length <= 2 ^ 31) (hsl:s.length <= 2 ^ 31) {h:AHeap}:AEx PP Gl 57 [encL l,encV s] h (.ret (.tup [encL (addL l s),bl (newL l s)])) h:=by
 have h0:=(radd0_c l s hl hw hsl (h:=h)).freezeO (R':=fun r H=>Low h.length h H /\ r=.ret (.tup [encL (addL l s),bl (newL l s)])) ?_
 .exact h0.dropR fun r H ⟨hl,e⟩=>⟨_,e,by simp only [AV.inb,inbL,inb_encL]; rfl,hl,rfl,rfl⟩
 rintro r H ⟨hl,⟨e,e2,rfl⟩ | ⟨o,g,q1,q2,q3,rfl⟩⟩
 .exact .inl ⟨hl,by rw [e,e2]⟩
 .right
  refine ⟨_,o,g,1,(addL l s).map encV,rfl,q3,hl.trans (Low.set q1),?_⟩
  have hne2:(addL l s).map encV ≠ []:=by simpa using addL_ne l s
  simp only [AV.frz,frzL,frz1,List.drop_zero,encL,grown,if_neg hne2]
  rw [if_pos (by simp),rows_encV0,q2]
end Go.Apx
end
