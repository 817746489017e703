/- Plain law: the marks of the reference (grown). -/
import Derived.Test.YtdiemjjfkoccfaaGreatDoorGB
set_option linter.unusedVariables false
set_option linter.unusedSimpArgs false
set_option linter.unnecessarySimpa false
section
namespace Go.Apx
open Go.Proofs
set_option maxRecDepth 4000
def mkF (g:Gr) (X:List Bool) (s:ByteArray):Bool:=X.getD (indexF g.sorts s).toNat false
def marked (g:Gr) (X:List Bool):List ByteArray:=g.sorts.filter (mkF g X)
theorem has_mem {l:List ByteArray} {s:ByteArray} (h:hasF l s=true):s ∈ l:=by
 obtain ⟨i,h1,_,h3⟩:=index_of_has h
 obtain ⟨h4,h5,_⟩:=List.findIdx?_eq_some_iff_getElem.1 h1
 have:l[i]=s:=by simpa using h5
 rw [<- this]
 exact List.getElem_mem h4
theorem mkF_set {g:Gr} {X:List Bool} {s t:ByteArray} (hl:X.length=g.sorts.length) (hs:hasF g.sorts s=true) (ht:hasF g.sorts t=true):mkF g (X.set (indexF g.sorts s).toNat true) t=(mkF g X t || decide (t=s)):=by
 obtain ⟨i,h1,h2,h3⟩:=index_of_has hs
 obtain ⟨j,g1,g2,g3⟩:=index_of_has ht
 unfold mkF
 rw [h2,g2]
 have ei:g.sorts[i]=s:=by simpa using (List.findIdx?_eq_some_iff_getElem.1 h1).2.1
 have ej:g.sorts[j]=t:=by simpa using (List.findIdx?_eq_some_iff_getElem.1 g1).2.1
 simp only [Int.toNat_natCast,List.getD_eq_getElem?_getD,List.getElem?_set]
 by_cases e:i=j
 .subst e
  have:t=s:=ej.symm.trans ei
  simp [this,hl,h3]
 .have hne:¬ t=s:=by
   intro h4
   subst h4
   rw [h1] at g1
   exact e (Option.some.inj g1)
  simp [e,hne]
theorem mem_has {l:List ByteArray} {s:ByteArray} (h:s ∈ l):hasF l s=true:=by
 unfold hasF indexF placeF
 cases e:l.findIdx? (fun x=>decide (x=s)) with
 | none =>
  have:=List.findIdx?_eq_none_iff.1 e s h
  simp at this
 | some i=>simp
def offM:List Bool -> Nat
 | []=>0
 | b :: X=>(if b=true then 0 else 1)+offM X
theorem offM_set:∀ (X:List Bool) (i:Nat),X[i]?=some false -> offM (X.set i true) < offM X
 | [],i,h=>by simp at h
 | b :: X,0,h=>by simp at h; subst h; simp [offM]
 | b :: X,i+1,h=>by
  have:=offM_set X i (by simpa using h)
  simp only [List.set_cons_succ,offM]
  omega
end Go.Apx
end
section
namespace Go.Apx
open Go.Proofs
set_option maxRecDepth 4000
structure MSt where
 X:List Bool
 more:Bool
abbrev marksH (h:AHeap) (X:List Bool):AHeap:=h++[.cells 0 (X.map bl)]
end Go.Apx
end
section
namespace Go.Apx
open Go.Proofs
set_option maxRecDepth 4000
theorem leave_its {P:Program} {G:Globs} {h0:AHeap} {rs:List ResA} {R:AEnd -> AHeap -> Prop} {env:Env}:∀ (its:List Nat) (H:AHeap),(∀ z ∈ its,H[z]?=some .queue) -> its.Nodup ->
  (∀ H',(∀ z,z ∉ its -> H'[z]?=H[z]?) -> H'.length=H.length -> ∃ v,evalRes G env H' rs=some v /\ endP h0 R (.ret v) H') -> leaveP P G h0 rs R env (its.map .it) .ret H
 | [],H,_,_,he=>he H (fun _ _=>rfl) rfl
 | z :: its,H,hq,hn,he=>by
  rw [List.nodup_cons] at hn
  refine leaveIt (by simp [isQueue,hq z (by simp)]) (leave_its its (H.set z .dead) (fun y hy=>?_) hn.2 (fun H' h1 h2=>he H' (fun y hy=>?_) (by simpa using h2)))
  .rw [List.getElem?_set_ne (by rintro rfl; exact hn.1 hy)]; exact hq y (by simp [hy])
  .simp only [List.mem_cons,not_or] at hy
   rw [h1 y hy.2,List.getElem?_set_ne (fun e=>hy.1 e.symm)]
def dsl (its:List Nat):Env:=if its=[] then [] else [(dslot,.tup (its.map .it))]
theorem dsl_get (its:List Nat) (t:Nat) (ht:t ≠ dslot):(dsl its).get t=none:=by
 unfold dsl
 split
 .rfl
 .simp [Env.get,Ne.symm ht]; exact ht
theorem put_app (a e:Env) (t:Nat) (v:AV) (h:a.get t=none):Env.put (a++e) t v=a++e.put t v:=by
 induction a with
 | nil=>rfl
 | cons p a ih =>
  obtain ⟨u,w⟩:=p
  simp only [Env.get] at h
  split at h
  .cases h
  .rename_i hu
   simp only [List.cons_append,Env.put,if_neg hu,ih h]
theorem get_app (a e:Env) (t:Nat):Env.get (a++e) t=(a.get t).or (e.get t):=by
 induction a with
 | nil=>simp
 | cons p a ih =>
  obtain ⟨u,w⟩:=p
  simp only [List.cons_append,Env.get,ih]
  split <;> simp
@[simp] theorem put_dsl (its:List Nat) (e:Env) (t:Nat) (v:AV) (ht:t < 1000000):Env.put (dsl its++e) t v=dsl its++e.put t v:=put_app _ _ _ _ (dsl_get its t (by unfold dslot; omega))
@[simp] theorem get_dsl (its:List Nat) (e:Env) (t:Nat) (ht:t < 1000000):Env.get (dsl its++e) t=e.get t:=by
 rw [get_app,dsl_get its t (by unfold dslot; omega)]; simp
theorem get_dsl_slot (its:List Nat) (e:Env) (he:e.get dslot=none):Env.get (dsl its++e) dslot=if its=[] then none else some (.tup (its.map .it)):=by
 rw [get_app]
 unfold dsl
 by_cases h:its=[]
 .rw [if_pos h,if_pos h,he]; rfl
 .rw [if_neg h,if_neg h]; simp [Env.get]
theorem deferred_dsl (its:List Nat) (e:Env) (he:e.get dslot=none):deferred (dsl its++e)=some (its.map .it):=by
 unfold deferred
 rw [get_dsl_slot its e he]
 by_cases h:its=[]
 .subst h; rfl
 .rw [if_neg h]
@[simp] theorem noPend_dsl (its:List Nat) (e:Env):noPend (dsl its++e)=noPend e:=by
 unfold noPend dsl
 split
 .rfl
 .simp
theorem leOk_dsl {its:List Nat} {a b:Env} (hb:b.get dslot=none) (h:leOk a (dsl its++b)):leOk (dsl its++a) (dsl its++b):=by
 have h1:=get_dsl_slot its b hb
 by_cases hi:its=[]
 .subst hi; exact h
 .rw [if_neg hi] at h1
  have:dsl its++a=(dslot,.tup (its.map .it)) :: a:=by unfold dsl; rw [if_neg hi]; rfl
  rw [this]
  exact ⟨h1,h⟩
theorem le_dsl {its:List Nat} {a b:Env} (ha:a.get dslot=none) (hb:b.get dslot=none) (h:leOk a (dsl its++b)):EnvLe (dsl its++a) (dsl its++b) :=
 EnvLe.of (leOk_dsl hb h) (by rw [get_dsl_slot its a ha,get_dsl_slot its b hb])
def jkQ:Nat -> AHeap
 | 0=>[]
 | k+1=>jkQ k++[.queue,.dead]
def itsQ (n:Nat):Nat -> List Nat
 | 0=>[]
 | k+1=>(n+2 * k) :: itsQ n k
theorem jkQ_length:∀ k,(jkQ k).length=2 * k
 | 0=>rfl
 | k+1=>by simp [jkQ,jkQ_length k]; omega
theorem itsQ_lt {n:Nat}:∀ {k z:Nat},z ∈ itsQ n k -> n <= z /\ z < n+2 * k
 | 0,z,h=>by simp [itsQ] at h
 | k+1,z,h=>by
  simp only [itsQ,List.mem_cons] at h
  rcases h with rfl | h
  .omega
  .have:=itsQ_lt h; omega
theorem itsQ_nodup (n:Nat):∀ k,(itsQ n k).Nodup
 | 0=>by simp [itsQ]
 | k+1=>by
  simp only [itsQ,List.nodup_cons]
  refine ⟨fun h=>?_,itsQ_nodup n k⟩
  have:=itsQ_lt h; omega
theorem itsQ_get {B:AHeap}:∀ {k z:Nat},z ∈ itsQ B.length k -> (B++jkQ k)[z]?=some .queue
 | 0,z,h=>by simp [itsQ] at h
 | k+1,z,h=>by
  simp only [itsQ,List.mem_cons] at h
  have hl:=jkQ_length k
  rcases h with rfl | h
  .simp only [jkQ,<- List.append_assoc]
   rw [List.getElem?_append_right (by simp [hl])]
   simp [hl]
  .have h2:=itsQ_get h
   have h3:=itsQ_lt h
   simp only [jkQ,<- List.append_assoc]
   rw [List.getElem?_append_left (by simp [hl]; omega)]
   exact h2
theorem leaveQ {P:Program} {G:Globs} {h0 B:AHeap} {rs:List ResA} {R:AEnd -> AHeap -> Prop} {env:Env} {v:AV} (k:Nat) (hl:h0.length=B.length) (hv:∀ H,evalRes G env H rs=some v) (hin:v.strip.inb B.length=true)
  (hc:Cl h0 B B.length) (hR:R (.ret v.strip) B):leaveP P G h0 rs R env ((itsQ B.length k).map .it) .ret (B++jkQ k):=by
 refine leave_its _ _ (fun z hz=>itsQ_get hz) (itsQ_nodup _ _) (fun H' h1 h2=>⟨v,hv H',.inr ⟨B.length,by omega,by rw [h2]; simp,hin,?_,?_⟩⟩)
 .intro i o hi ho
  rw [h1 i (fun hm=>by have:=itsQ_lt hm; omega),List.getElem?_append_left hi] at ho
  exact hc i o hi ho
 .have:H'.take B.length=B:=by
   refine List.ext_getElem? fun i=>?_
   by_cases hi:i < B.length
   .rw [List.getElem?_take,if_pos hi,h1 i (fun hm=>by have:=itsQ_lt hm; omega),List.getElem?_append_left hi]
   .rw [List.getElem?_take,if_neg hi,List.getElem?_eq_none (by omega)]
  rw [this]
  exact hR
def lpJ (k:Nat) (E:Env) (X:LoopX) (st:LoopState):AHeap:=jkQ k++[.queue,.loop E X st none]
theorem lpJ_get {B:AHeap} {n:Nat} (hB:B.length=n) (k:Nat) (E:Env) (X:LoopX) (st:LoopState):(B++lpJ k E X st)[n+2 * k+1]?=some (.loop E X st none):=by
 subst hB
 have:=jkQ_length k
 rw [List.getElem?_append_right (by omega),lpJ,List.getElem?_append_right (by omega),show B.length+2 * k+1 - B.length - (jkQ k).length=1 by omega]
 rfl
theorem lpJ_set {B:AHeap} {n:Nat} (hB:B.length=n) (k:Nat) (E:Env) (X:LoopX) (st st':LoopState):(B++lpJ k E X st).set (n+2 * k+1) (.loop E X st' none)=B++lpJ k E X st':=by
 subst hB
 have:=jkQ_length k
 rw [List.set_append_right _ _ (by omega),lpJ,List.set_append_right _ _ (by omega),show B.length+2 * k+1 - B.length - (jkQ k).length=1 by omega]
 rfl
theorem lpJ_dead {B:AHeap} {n:Nat} (hB:B.length=n) (k:Nat) (E:Env) (X:LoopX) (st:LoopState):(B++lpJ k E X st).set (n+2 * k+1) .dead=B++jkQ (k+1):=by
 subst hB
 have:=jkQ_length k
 rw [List.set_append_right _ _ (by omega),lpJ,List.set_append_right _ _ (by omega),show B.length+2 * k+1 - B.length - (jkQ k).length=1 by omega]
 rfl
theorem lpJ_loop {B:AHeap} {n:Nat} (hB:B.length=n) (k:Nat) (E:Env) (X:LoopX) (st:LoopState):isLoop (B++lpJ k E X st) (n+2 * k+1)=true:=by
 unfold isLoop
 rw [lpJ_get hB]
theorem lpJ_eq (B:AHeap) (k:Nat) (E:Env) (X:LoopX) (st:LoopState):B++jkQ k++[.queue]++[.loop E X st none]=B++lpJ k E X st:=by simp [lpJ]
theorem lpJ_get2 {B:AHeap} {n:Nat} (hB:B.length=n) (k:Nat) (E:Env) (X:LoopX) (st:LoopState) (J:AHeap):(B++(lpJ k E X st++J))[n+2 * k+1]?=some (.loop E X st none):=by
 have h:=lpJ_get hB k E X st
 rw [<- List.append_assoc,List.getElem?_append_left (lt_of h)]
 exact h
theorem lpJ_set2 {B:AHeap} {n:Nat} (hB:B.length=n) (k:Nat) (E:Env) (X:LoopX) (st st':LoopState) (J:AHeap):(B++(lpJ k E X st++J)).set (n+2 * k+1) (.loop E X st' none)=B++(lpJ k E X st'++J):=by
 have h:=lpJ_get hB k E X st
 rw [<- List.append_assoc,List.set_append_left _ _ (lt_of h),lpJ_set hB,List.append_assoc]
def Cq (A B:AHeap):Prop:=∀ (i:Nat) (o:AObj),B[i]?=some o -> A[i]?=some o \/ ∀ n,o.inb n=true
theorem Cq.cl {A B:AHeap} (h:Cq A B) (n:Nat):Cl A B n:=fun i o _ ho=>(h i o ho).imp id fun h=>h n
theorem Cq.tail {A B:AHeap} (h:Cq A B) (hl:A.length=B.length) (J:AHeap):Cq (A++J) (B++J):=by
 intro i o ho
 by_cases hin:i < A.length
 .rw [List.getElem?_append_left (by omega)] at ho ⊢
  exact h i o ho
 .left
  rw [List.getElem?_append_right (by omega)] at ho ⊢
  rw [hl]; exact ho
theorem dslQ (n c:Nat):dsl (itsQ n (c+1))=[(dslot,.tup (.it (n+2 * c) :: (itsQ n c).map .it))]:=by simp [dsl,itsQ]
abbrev Evs:=List (Bool × ByteArray)
structure CSt where
 S:List ByteArray
 u:List ByteArray
def insU (s:ByteArray) (u:List ByteArray):List ByteArray:=if s ∈ u then u else u++[s]
theorem mem_insU {s t:ByteArray} {u:List ByteArray}:t ∈ insU s u ↔ t ∈ u \/ t=s:=by
 unfold insU
 split
 .rename_i h; exact ⟨.inl,fun h2=>h2.elim id fun e=>e ▸ h⟩
 .simp
theorem insU_nodup {s:ByteArray} {u:List ByteArray} (h:u.Nodup):(insU s u).Nodup:=by
 unfold insU
 split
 .exact h
 .rename_i hs
  rw [List.nodup_append]
  exact ⟨h,by simp,fun a ha b hb e=>by simp at hb; subst hb e; exact hs ha⟩
theorem metOf_ins (u:List ByteArray) (s:ByteArray):sset (metOf u) s true=metOf (insU s u):=by
 unfold insU
 split
 .rename_i h
  induction u with
  | nil=>simp at h
  | cons v r ih =>
   simp only [metOf,List.map_cons,sset] at ih ⊢
   by_cases e:s=v
   .rw [if_pos e,e]
   .rw [if_neg e,ih (by simpa [e] using h)]
 .rename_i h; exact metOf_set u s h
structure VRt (nx:ByteArray -> Evs) (l:Evs) (a b:CSt):Prop where
 mono:∀ s ∈ a.S,s ∈ b.S
 umono:∀ s ∈ a.u,s ∈ b.u
 nd:a.S.Nodup -> b.S.Nodup
 und:a.u.Nodup -> b.u.Nodup
 cl:∀ y,(true,y) ∈ l -> y ∈ b.S
 nt:∀ s,(false,s) ∈ l -> s ∈ b.u
 new:∀ z ∈ b.S,z ∉ a.S -> (∀ y,(true,y) ∈ nx z -> y ∈ b.S) /\ ∀ s,(false,s) ∈ nx z -> s ∈ b.u
 snd:∀ C:ByteArray -> Prop,(∀ y,(true,y) ∈ l -> C y) -> (∀ z,C z -> ∀ y,(true,y) ∈ nx z -> C y) -> ∀ z ∈ b.S,z ∉ a.S -> C z
 usnd:∀ s ∈ b.u,s ∉ a.u -> (false,s) ∈ l \/ ∃ z ∈ b.S,z ∉ a.S /\ (false,s) ∈ nx z
section
variable {nx:ByteArray -> Evs} {l:Evs} {a b c:CSt}
theorem VRt.refl (a:CSt):VRt nx [] a a:=⟨fun _ h=>h,fun _ h=>h,fun h=>h,fun h=>h,fun _ h=>by simp at h,fun _ h=>by simp at h,fun z h h'=>(h' h).elim,fun _ _ _ z h h'=>(h' h).elim,fun s h h'=>(h' h).elim⟩
theorem VRt.note (h:VRt nx l a b) (s:ByteArray):VRt nx (l++[(false,s)]) a ⟨b.S,insU s b.u⟩:=by
 refine ⟨h.mono,fun t ht=>mem_insU.2 (.inl (h.umono t ht)),h.nd,fun hn=>insU_nodup (h.und hn),fun y hy=>h.cl y (by simpa using hy),fun t ht=>?_,fun z hz hz'=>?_,fun C h1 h2=>h.snd C (fun y hy=>h1 y (by simp [hy])) h2,fun t ht ht'=>?_⟩
 .refine mem_insU.2 ?_
  rcases List.mem_append.1 ht with ht | ht
  .exact .inl (h.nt t ht)
  .simp at ht; exact .inr ht
 .obtain ⟨h1,h2⟩:=h.new z hz hz'
  exact ⟨h1,fun t ht=>mem_insU.2 (.inl (h2 t ht))⟩
 .rcases mem_insU.1 ht with ht | rfl
  .rcases h.usnd t ht ht' with h1 | h1
   .exact .inl (by simp [h1])
   .exact .inr h1
  .exact .inl (by simp)
theorem VRt.old (h:VRt nx l a b) {y:ByteArray} (hy:y ∈ b.S):VRt nx (l++[(true,y)]) a b:=by
 refine ⟨h.mono,h.umono,h.nd,h.und,fun t ht=>?_,fun t ht=>h.nt t (by simpa using ht),h.new,fun C h1 h2=>h.snd C (fun y hy=>h1 y (by simp [hy])) h2,fun t ht ht'=>?_⟩
 .rcases List.mem_append.1 ht with ht | ht
  .exact h.cl t ht
  .simp at ht; subst ht; exact hy
 .rcases h.usnd t ht ht' with h1 | h1
  .exact .inl (by simp [h1])
  .exact .inr h1
theorem VRt.visit (h:VRt nx l a b) {y:ByteArray} (hy:y ∉ b.S) (h':VRt nx (nx y) ⟨b.S++[y],b.u⟩ c):VRt nx (l++[(true,y)]) a c:=by
 have hyc:y ∈ c.S:=h'.mono y (by simp)
 have hbc:∀ s ∈ b.S,s ∈ c.S:=fun s hs=>h'.mono s (by simp [hs])
 refine ⟨fun s hs=>hbc s (h.mono s hs),fun s hs=>h'.umono s (h.umono s hs),fun hn=>h'.nd ?_,fun hn=>h'.und (h.und hn),fun t ht=>?_,fun t ht=>h'.umono t (h.nt t (by simpa using ht)),fun z hz hz'=>?_,fun C h1 h2 z hz hz'=>?_,fun t ht ht'=>?_⟩
 .rw [List.nodup_append]
  exact ⟨h.nd hn,by simp,fun p hp q hq e=>by simp at hq; subst hq e; exact hy hp⟩
 .rcases List.mem_append.1 ht with ht | ht
  .exact hbc t (h.cl t ht)
  .simp at ht; subst ht; exact hyc
 .by_cases hzb:z ∈ b.S
  .obtain ⟨h1,h2⟩:=h.new z hzb hz'
   exact ⟨fun y hy=>hbc y (h1 y hy),fun s hs=>h'.umono s (h2 s hs)⟩
  .by_cases hzy:z=y
   .subst hzy
    exact ⟨h'.cl,h'.nt⟩
   .exact h'.new z hz (by simp [hzb,hzy])
 .have hCy:C y:=h1 y (by simp)
  by_cases hzb:z ∈ b.S
  .exact h.snd C (fun y hy=>h1 y (by simp [hy])) h2 z hzb hz'
  .by_cases hzy:z=y
   .subst hzy; exact hCy
   .exact h'.snd C (h2 y hCy) h2 z hz (by simp [hzb,hzy])
 .by_cases htb:t ∈ b.u
  .rcases h.usnd t htb ht' with h1 | ⟨z,hz,hz',h1⟩
   .exact .inl (by simp [h1])
   .exact .inr ⟨z,hbc z hz,hz',h1⟩
  .rcases h'.usnd t ht htb with h1 | ⟨z,hz,hz',h1⟩
   .exact .inr ⟨y,hyc,fun e=>hy (h.mono y e),h1⟩
   .exact .inr ⟨z,hz,fun e=>hz' (by simp [h.mono z e]),h1⟩
end
structure CloS (nx:ByteArray -> Evs) (from':ByteArray) (slf:Bool) (u0:List ByteArray) (b:CSt):Prop where
 nd:b.S.Nodup
 und:u0.Nodup -> b.u.Nodup
 umono:∀ s ∈ u0,s ∈ b.u
 me:slf=true -> from' ∈ b.S
 cl:∀ z,z ∈ b.S \/ z=from' -> ∀ y,(true,y) ∈ nx z -> y ∈ b.S
 nt:∀ z,z ∈ b.S \/ z=from' -> ∀ s,(false,s) ∈ nx z -> s ∈ b.u
 snd:∀ C:ByteArray -> Prop,(slf=true -> C from') -> (∀ y,(true,y) ∈ nx from' -> C y) -> (∀ z,C z -> ∀ y,(true,y) ∈ nx z -> C y) -> ∀ z ∈ b.S,C z
 usnd:∀ s ∈ b.u,s ∉ u0 -> ∃ z,(z ∈ b.S \/ z=from') /\ (false,s) ∈ nx z
theorem VRt.closure {nx:ByteArray -> Evs} {x:ByteArray} {self:Bool} {u0:List ByteArray} {b:CSt} (h:VRt nx (nx x) ⟨if self=true then [x] else [],u0⟩ b):CloS nx x self u0 b:=by
 have ha:∀ z,z ∈ (if self=true then [x] else []:List ByteArray) -> z=x /\ self=true:=fun z hz=>by
  split at hz
  .rename_i hs; exact ⟨by simpa using hz,hs⟩
  .simp at hz
 refine ⟨h.nd (by split <;> simp),h.und,h.umono,fun hs=>h.mono x (by simp [hs]),fun z hz=>?_,fun z hz=>?_,fun C h0 h1 h2 z hz=>?_,fun s hs hs'=>?_⟩
 .rcases hz with hz | rfl
  .by_cases hm:z ∈ (if self=true then [x] else []:List ByteArray)
   .rw [(ha z hm).1]; exact h.cl
   .exact (h.new z hz hm).1
  .exact h.cl
 .rcases hz with hz | rfl
  .by_cases hm:z ∈ (if self=true then [x] else []:List ByteArray)
   .rw [(ha z hm).1]; exact h.nt
   .exact (h.new z hz hm).2
  .exact h.nt
 .by_cases hm:z ∈ (if self=true then [x] else []:List ByteArray)
  .obtain ⟨e,hs⟩:=ha z hm
   rw [e]; exact h0 hs
  .exact h.snd C h1 h2 z hz hm
 .rcases h.usnd s hs hs' with h1 | ⟨z,hz,_,h1⟩
  .exact ⟨x,.inr rfl,h1⟩
  .exact ⟨z,.inl hz,h1⟩
def offU (univ S:List ByteArray):Nat:=(univ.filter fun s=>!decide (s ∈ S)).length
theorem offU_mono {univ S S':List ByteArray} (h:∀ s ∈ S,s ∈ S'):offU univ S' <= offU univ S:=by
 unfold offU
 induction univ with
 | nil=>simp
 | cons x l ih =>
  by_cases h1:x ∈ S
  .simp [List.filter_cons,h1,h x h1]; simpa using ih
  .by_cases h2:x ∈ S'
   .simp only [List.filter_cons,h1,h2,decide_true,decide_false,Bool.not_true,Bool.not_false,if_true,Bool.false_eq_true,if_false,List.length_cons]; omega
   .simp [List.filter_cons,h1,h2]; simpa using ih
theorem offU_lt {univ S:List ByteArray} {y:ByteArray} (hy:y ∈ univ) (hS:y ∉ S):offU univ (S++[y]) < offU univ S:=by
 induction univ with
 | nil=>simp at hy
 | cons x l ih =>
  have hle:=offU_mono (univ:=l) (S:=S) (S':=S++[y]) (fun s hs=>by simp [hs])
  unfold offU at ih hle ⊢
  by_cases h2:x=y
  .subst h2
   simp only [List.filter_cons,hS,List.mem_append,List.mem_singleton,or_true,decide_true,Bool.not_true,decide_false,Bool.not_false,if_true,List.length_cons]
   simp at hle ⊢
   omega
  .have ih':=ih (by simpa [Ne.symm h2] using hy)
   by_cases h1:x ∈ S
   .simp [List.filter_cons,h1]; simpa using ih'
   .simp only [List.filter_cons,h1,h2,List.mem_append,List.mem_singleton,or_self,decide_false,Bool.not_false,if_true,List.length_cons]
    simp at ih' ⊢
    omega
end Go.Apx
end
section
namespace Go.Apx
open Go.Proofs
set_option maxRecDepth 4000
structure AS1 where
 i:Nat
 H:AHeap
theorem arguments1_r (r:Rl) (o:Nat) (Z:Nat -> AHeap -> Prop) (hlen:r.parts.length <= 2 ^ 31) (hloop:∀ i H,Z i H -> isLoop H o=true)
  (hn:∀ (i:Nat) p H,r.parts[i]?=some p -> p.sort=emp -> Z i H -> Z (i+1) H)
  (hy:∀ (i:Nat) p H,r.parts[i]?=some p -> p.sort ≠ emp -> Z i H -> AYields PP Gl o [encP p] H (fun e h'=>e=.ret (.sc (.bool true)) /\ Z (i+1) h')) {H:AHeap} (h0:Z 0 H) :
  ACalls PP Gl 103 [.yld o,.ip (encR r)] H (fun e h'=>e=.ret (.tup []) /\ Z r.parts.length h'):=by
 refine enter_103 (by simp) ?_
 simp [code_103,res_103,ann_103,encR]
 refine AWp.till (S:=AS1) ⟨0,H⟩ (fun st=>r.parts.length - st.i) [0,6,7] (fun st=>[(8,i64 (st.i:Int))]) (fun st=>st.H) (fun st=>st.i <= r.parts.length /\ Z st.i st.H) mixed ⟨Nat.zero_le _,h0⟩ (le_of (by simp [dslot])) rfl ?_
 rintro ⟨i,H1⟩ ⟨z0,z1⟩
 simp only at z0 z1
 by_cases hi:i < r.parts.length
 .obtain ⟨k,hki⟩:∃ k,r.parts[i]?=some k:=⟨r.parts[i],by simp [hi]⟩
  have hlt:(i:Int) < r.parts.length:=by omega
  have hne:r.parts ≠ []:=by intro e; rw [e] at hi; simp at hi
  have wi:IntKind.i64.wrap ((i:Int)+1)=(i:Int)+1:=IntWalk.i64_in _ (by omega)
  by_cases hk:k.sort=⟨#[]⟩
  .simp [lp0_103,hlt,hki,encP,hk,wi]
   exact ⟨⟨i+1,H1⟩,by simp; omega,⟨by simp; omega,hn i k H1 hki hk z1⟩,le_of (by simp [dslot]),rfl⟩
  .simp [lp0_103,hlt,hki,encP,hk,hloop i H1 z1]
   refine yieldk (by simpa [encP] using hy i k H1 hki hk z1) ?_
   rintro e h' ⟨rfl,hz⟩
   simp [wi]
   exact ⟨⟨i+1,h'⟩,by simp; omega,⟨by simp; omega,hz⟩,le_of (by simp [dslot]),rfl⟩
 .have hlt:¬ (i:Int) < r.parts.length:=by omega
  simp [lp0_103,hlt]
  have:i=r.parts.length:=by omega
  subst this
  exact ret1 (v:=.tup []) (by simp [deferred,dslot]) rfl ⟨rfl,z1⟩
def IterC (NT:(CSt -> AHeap) -> Prop) (nx:ByteArray -> Evs) (x:ByteArray) (itf:FuncId) (ga gb:List AV):Prop :=
 ∀ (B:CSt -> AHeap) (n o:Nat) (P:Nat -> CSt -> Prop) (a:CSt),(∀ st,(B st).length=n) -> (∀ st st',Cq (B st) (B st')) -> NT B -> (∀ (st:CSt) (J:AHeap),isLoop (B st++J) o=true) ->
  (∀ (i:Nat) (y:ByteArray) (st:CSt) (J:AHeap),(nx x)[i]?=some (true,y) -> P i st -> AYields PP Gl o [sv y] (B st++J) (fun e h'=>e=.ret (bl true) /\ ∃ st',P (i+1) st' /\ h'=B st'++J)) ->
  (∀ (i:Nat) (s:ByteArray) (st:CSt),(nx x)[i]?=some (false,s) -> P i st -> P (i+1) ⟨st.S,insU s st.u⟩) -> P 0 a ->
  ACalls PP Gl itf (ga++[.yld o]++gb) (B a) (fun e h'=>e=.ret (.tup []) /\ ∃ st',P (nx x).length st' /\ h'=B st')
def evP (l:List Pt):Evs:=(l.filter fun p=>!decide (p.sort=emp)).map fun p=>(true,p.sort)
theorem evP_take {l:List Pt} {i:Nat} {p:Pt} (h:l[i]?=some p):evP (l.take (i+1))=evP (l.take i)++(if p.sort=emp then [] else [(true,p.sort)]):=by
 unfold evP
 rw [List.take_add_one,h,List.filter_append,List.map_append]
 by_cases e:p.sort=emp <;> simp [e]
def contL (x:ByteArray) (l:List Rl):Evs:=(l.filter fun R=>decide (R.sort=x)).flatMap fun R=>evP R.parts
def contE (g:Gr) (x:ByteArray):Evs:=contL x g.rules
theorem contL_take {x:ByteArray} {l:List Rl} {i:Nat} {R:Rl} (h:l[i]?=some R):contL x (l.take (i+1))=contL x (l.take i)++(if R.sort=x then evP R.parts else []):=by
 unfold contL
 rw [List.take_add_one,h,List.filter_append,List.flatMap_append]
 by_cases e:R.sort=x <;> simp [e]
theorem contL_pre {x:ByteArray} {l:List Rl} {i:Nat} {R:Rl} (h:l[i]?=some R) (e:R.sort=x) {j:Nat} {p:Pt} (hj:R.parts[j]?=some p) (hp:p.sort ≠ emp) :
  (contL x l)[(contL x (l.take i)).length+(evP (R.parts.take j)).length]?=some (true,p.sort):=by
 have h1:contL x l=contL x (l.take (i+1))++contL x (l.drop (i+1)):=by
  unfold contL
  rw [<- List.flatMap_append,<- List.filter_append,List.take_append_drop]
 have h2:evP R.parts=evP (R.parts.take (j+1))++evP (R.parts.drop (j+1)):=by
  unfold evP
  rw [<- List.map_append,<- List.filter_append,List.take_append_drop]
 rw [h1,contL_take h,if_pos e,h2,evP_take hj,if_neg hp]
 simp
theorem contained_c (g:Gr) (x:ByteArray) {h:AHeap}:AEx PP Gl 50 [encG g,.sc (.string x)] h (.ret (.fn (.func 84) [] [.ip (encG g),.ip (sv x)])) h:=by
 refine enter_50 (by simp) ?_
 simp [code_50,res_50,ann_50,encG]
 exact retE (by simp [deferred,dslot]) rfl (by simp [encG,sv]) rfl
structure CT1 where
 i:Nat
 c:Nat
 st:CSt
set_option maxHeartbeats 4000000 in
theorem contained1_c (g:Gr) (x:ByteArray) (hr:g.rules.length <= 2 ^ 31) (hps:∀ R ∈ g.rules,R.parts.length <= 2 ^ 31) :
  IterC (fun _=>True) (contE g) x 84 [] [.ip (encG g),.ip (sv x)]:=by
 intro B n o P a hB hcl _ hloop hy hn h0
 refine enter_84 (by simp) ?_
 simp -implicitDefEqProofs [code_84,res_84,ann_84,encG]
 refine AWp.till (S:=CT1) ⟨0,0,a⟩ (fun s=>g.rules.length - s.i) [2,3,8,9] (fun s=>dsl (itsQ n s.c)++[(10,i64 (s.i:Int))]) (fun s=>B s.st++jkQ s.c)
  (fun s=>s.i <= g.rules.length /\ P (contL x (g.rules.take s.i)).length s.st) mixed ⟨by simp,by simpa [contL] using h0⟩ (le_of (by simp [dslot,dsl,itsQ])) (by simp [jkQ]) ?_
 rintro ⟨i,c,st⟩ ⟨z0,z1⟩
 simp only at z0 z1
 by_cases hi:i < g.rules.length
 case neg =>
  have hlt:¬ (i:Int) < g.rules.length:=by omega
  simp -implicitDefEqProofs [lp0_84,hlt]
  have:i=g.rules.length:=by omega
  subst this
  rw [List.take_length] at z1
  refine retDefer ((itsQ n c).map .it) (deferred_dsl _ _ (by simp [dslot])) ?_
  rw [<- hB st]
  exact leaveQ (v:=.tup []) c (by rw [hB,hB]) (fun H=>by simp [evalRes]) rfl ((hcl a st).cl _) ⟨rfl,st,z1,rfl⟩
 obtain ⟨R,hR⟩:∃ R,g.rules[i]?=some R:=⟨g.rules[i],by simp [hi]⟩
 have hlt:(i:Int) < g.rules.length:=by omega
 have hne:g.rules ≠ []:=by intro e; rw [e] at hi; simp at hi
 have wi:IntKind.i64.wrap ((i:Int)+1)=(i:Int)+1:=IntWalk.i64_in _ (by omega)
 by_cases hx:R.sort=x
 case neg =>
  simp -implicitDefEqProofs [lp0_84,hlt,hne,hR,encR,sv,hx,wi]
  refine ⟨⟨i+1,c,st⟩,by simp; omega,⟨by simp; omega,by simp only; rw [contL_take hR,if_neg hx,List.append_nil]; exact z1⟩,?_,rfl⟩
  exact le_dsl (by simp [dslot]) (by simp [dslot]) (by simp)
 simp -implicitDefEqProofs [lp0_84,hlt,hne,hR,encR,sv,hx]
 refine callk (arguments_c R) (by simp [encR,hx]) rfl ?_
 simp -implicitDefEqProofs
 refine AWp.weaken (env':=dsl (itsQ n c)++[(10,i64 (i:Int)),(2,.ip (sv x)),(3,.ip (.yld o)),(8,.sl 4 (g.rules.map encR) g.rc),(9,i64 (g.rules.length:Int)),(19,.fn (.func 103) [] [.ip (encR R)])]) ?_ (le_dsl (by simp [dslot]) (by simp [dslot]) (by simp))
 refine AWp.rangeF (gf:=103) (fa:=[]) (fb:=[.ip (encR R)]) (dl:=(itsQ n c).map .it) rfl (by simp) (by rw [noPend_dsl]; simp [noPend]) (deferred_dsl _ _ (by simp [dslot])) ?_
 intro X hX
 generalize hE:Env.del _ dslot=E
 have e3:E.get 3=some (.ip (.yld o)):=by rw [<- hE,Env.get_del]; simp [dslot]
 have ed:E.get dslot=none:=by rw [<- hE,Env.get_del]; simp
 have hjl:=jkQ_length c
 have hBl:∀ st',(B st'++jkQ c).length=n+2 * c:=fun st'=>by simp [hB,hjl]
 rw [hBl]
 obtain ⟨bs,hbs⟩:∃ bs,bs=(contL x (g.rules.take i)).length:=⟨_,rfl⟩
 rw [<- hbs] at z1
 have hcall:=arguments1_r R (n+2 * c+1) (fun j H=>∃ st',P (bs+(evP (R.parts.take j)).length) st' /\ H=B st'++lpJ c E X .ready) (hps R (List.mem_of_getElem? hR)) ?_ ?_ ?_
  (H:=B st++jkQ c++[.queue]++[.loop E X .ready none]) ⟨st,by simpa [evP] using z1,lpJ_eq _ _ _ _ _⟩
 rotate_left
 .rintro j H ⟨st',_,rfl⟩
  exact lpJ_loop (hB st') c E X .ready
 .rintro j q H hq he ⟨st',hz,rfl⟩
  exact ⟨st',by rw [evP_take hq,if_pos he,List.append_nil]; exact hz,rfl⟩
 .rintro j q H hq he ⟨st',hz,rfl⟩
  have hev:=contL_pre hR hx hq he
  rw [<- hbs] at hev
  refine ayields_of_code (C:=⟨PP,Gl,27,ann_84,(B st'++lpJ c E X .ready).length,some (n+2 * c+1)⟩) (env:=E) (X:=X) (st:=.ready) (pd:=none) (ps:=[20]) (lpJ_get (hB st') c E X .ready) hX rfl ed rfl rfl (codeWp_sound mixed ?_)
  simp -implicitDefEqProofs [ra0_84,beginP,encP,lpJ_get (hB st') c E X .ready,lpJ_set (hB st')]
  refine codeWp_sound mixed ?_
  simp -implicitDefEqProofs [rb0_84,e3,hloop]
  refine yieldk (by simpa [contE] using hy _ q.sort st' (lpJ c E X .busy) hev hz) ?_
  rintro e2 h2 ⟨rfl,st2,hz2,rfl⟩
  simp -implicitDefEqProofs [roundP,lpJ_get (hB st2),lpJ_set (hB st2)]
  refine ⟨st2,?_,rfl⟩
  rw [evP_take hq,if_neg he]
  simpa [Nat.add_assoc] using hz2
 refine iterk ⟨_,hcall,fun _ _ h=>h⟩ rfl rfl ?_
 rintro r2 H3 ⟨rfl,st',hz,rfl⟩
 simp -implicitDefEqProofs [rangeEnd,lpJ_get (hB st'),lpJ_dead (hB st'),wi,dslot]
 refine ⟨⟨i+1,c+1,st'⟩,by simp; omega,⟨by simp; omega,?_⟩,?_,rfl⟩
 .simp only
  rw [contL_take hR,if_pos hx,List.length_append,<- hbs]
  simpa using hz
 .simp only [dslQ]
  exact le_of (by simp [dslot])
end Go.Apx
end
section
namespace Go.Apx
open Go.Proofs
set_option maxRecDepth 4000
def StepsC (NT:(CSt -> AHeap) -> Prop) (nx:ByteArray -> Evs) (sf:FuncId) (fa fb:List AV):Prop :=
 ∀ x,∃ itf ga gb,(∀ H,AEx PP Gl sf (fa++[sv x]++fb) H (.ret (.fn (.func itf) ga gb)) H) /\ IterC NT nx x itf ga gb
def cloV (n0:Nat) (F:AV):AV:=.fn (.func 78) [] [.ip F,.ip (.mp n0),.ptr (n0+1) 0 0]
def cloB (hp:List ByteArray -> AHeap) (n0:Nat) (F:AV) (st:CSt):AHeap:=hp st.u++[.amap (smap bv (metOf st.S)),.cells 0 [cloV n0 F]]
section
variable {hp:List ByteArray -> AHeap} {n0:Nat} {F:AV} (hl:∀ u,(hp u).length=n0) (st:CSt) (J:AHeap)
include hl
theorem cloB_map:(cloB hp n0 F st++J)[n0]?=some (.amap (smap bv (metOf st.S))):=by
 have:=hl st.u
 unfold cloB
 rw [List.getElem?_append_left (by simp; omega),List.getElem?_append_right (by omega)]
 simp [this]
theorem cloB_fn:(cloB hp n0 F st++J)[n0+1]?=some (.cells 0 [cloV n0 F]):=by
 have:=hl st.u
 unfold cloB
 rw [List.getElem?_append_left (by simp; omega),List.getElem?_append_right (by omega)]
 simp [this]
theorem cloB_set (S:List ByteArray):(cloB hp n0 F st++J).set n0 (.amap (smap bv (metOf S)))=cloB hp n0 F ⟨S,st.u⟩++J:=by
 have:=hl st.u
 unfold cloB
 rw [List.set_append_left _ _ (by simp; omega),List.set_append_right _ _ (by omega)]
 simp [this]
theorem cloB_len:(cloB hp n0 F st).length=n0+2:=by
 have:=hl st.u
 simp [cloB,this]
end
theorem visit_c (NT:(CSt -> AHeap) -> Prop) (nx:ByteArray -> Evs) (univ:List ByteArray) (sf:FuncId) (fa fb:List AV) (hp:List ByteArray -> AHeap) (n0:Nat) (hl:∀ u,(hp u).length=n0)
  (hcl:∀ st st',Cq (cloB hp n0 (.fn (.func sf) fa fb) st) (cloB hp n0 (.fn (.func sf) fa fb) st')) (hNT:NT (cloB hp n0 (.fn (.func sf) fa fb))) (hNJ:∀ B J,NT B -> NT (fun st=>B st++J))
  (hu:∀ z y,(true,y) ∈ nx z -> y ∈ univ) (hs:StepsC NT nx sf fa fb):∀ (N:Nat) (x:ByteArray) (st:CSt) (J:AHeap),offU univ st.S < N ->
  ACalls PP Gl 78 [sv x,.ip (.fn (.func sf) fa fb),.ip (.mp n0),.ptr (n0+1) 0 0] (cloB hp n0 (.fn (.func sf) fa fb) st++J) (fun e h'=>e=.ret (.tup []) /\ ∃ st',VRt nx (nx x) st st' /\ h'=cloB hp n0 (.fn (.func sf) fa fb) st'++J):=by
 intro N
 induction N with
 | zero=>intro x st J h; omega
 | succ N ih =>
  intro x st J hN
  obtain ⟨itf,ga,gb,hcall,hiter⟩:=hs x
  refine enter_78 (by simp) ?_
  simp -implicitDefEqProofs [code_78,res_78,ann_78]
  refine callk (hcall _) (by simp) rfl ?_
  simp -implicitDefEqProofs
  refine AWp.keep [2,3,8] (le_of (by simp [dslot])) ?_
  simp -implicitDefEqProofs
  refine AWp.rangeF (gf:=itf) (fa:=ga) (fb:=gb) (dl:=[]) rfl (by simp) (by simp [noPend]) (by simp [deferred,dslot]) ?_
  intro X hX
  generalize hE:Env.del _ dslot=E
  have e2:E.get 2=some (.ip (.mp n0)):=by rw [<- hE,Env.get_del]; simp [dslot]
  have e3:E.get 3=some (.ptr (n0+1) 0 0):=by rw [<- hE,Env.get_del]; simp [dslot]
  have ed:E.get dslot=none:=by rw [<- hE,Env.get_del]; simp
  have hBl:=fun st'=>cloB_len (F:=.fn (.func sf) fa fb) hl st'
  have hBJ:∀ st',(cloB hp n0 (.fn (.func sf) fa fb) st'++J).length=n0+2+J.length:=fun st'=>by simp [hBl]
  have hM:=fun st' J'=>cloB_map (F:=.fn (.func sf) fa fb) hl st' J'
  have hV:=fun st' J'=>cloB_fn (F:=.fn (.func sf) fa fb) hl st' J'
  have hS:=fun st' J' S=>cloB_set (F:=.fn (.func sf) fa fb) hl st' J' S
  generalize cloB hp n0 (.fn (.func sf) fa fb)=B at *
  rw [hBJ]
  have hres:=hiter (fun st'=>B st'++J++lpJ 0 E X .ready) (n0+2+J.length+2) (n0+2+J.length+2 * 0+1) (fun i st'=>VRt nx ((nx x).take i) st st') st (fun st'=>by simp [hBl,lpJ,jkQ]; omega)
   (fun st1 st2=>((hcl st1 st2).tail (by rw [hBl,hBl]) J).tail (by rw [hBJ,hBJ]) _) (hNJ _ _ (hNJ _ _ hNT)) (fun st' J2=>?_) (fun i y st' J2 hy hz=>?_) (fun i s st' hy hz=>?_) (VRt.refl st)
  .refine iterk ⟨_,hres,fun _ _ h=>h⟩ rfl ?_ ?_
   .simp [lpJ,jkQ]
   rintro r H' ⟨rfl,st',hz,rfl⟩
   rw [List.take_length] at hz
   have h1:=lpJ_get (hBJ st') 0 E X .ready
   have h2:=lpJ_dead (hBJ st') 0 E X .ready
   simp only [Nat.mul_zero,Nat.add_zero,List.append_assoc] at h1 h2
   simp -implicitDefEqProofs [rangeEnd,h1,h2,dslot]
   refine retDefer [.it (n0+2+J.length)] ?_ ?_
   .simp [deferred,dslot]
   rw [<- List.append_assoc,show [AV.it (n0+2+J.length)]=(itsQ (B st'++J).length 1).map .it by simp only [itsQ,hBJ]; simp]
   exact leaveQ (v:=.tup []) 1 (by rw [hBJ,hBJ]) (fun H=>by simp [evalRes]) rfl (((hcl st st').tail (by rw [hBl,hBl]) J).cl _) ⟨rfl,st',hz,rfl⟩
  .have h1:=lpJ_get2 (hBJ st') 0 E X .ready J2
   unfold isLoop
   rw [List.append_assoc (B st'++J),h1]
  .rw [List.append_assoc (B st'++J)]
   refine ayields_of_code (C:=⟨PP,Gl,19,ann_78,(B st'++J++(lpJ 0 E X .ready++J2)).length,some (n0+2+J.length+2 * 0+1)⟩) (env:=E) (X:=X) (st:=.ready) (pd:=none) (ps:=[9]) (lpJ_get2 (hBJ st') 0 E X .ready J2) hX rfl ed rfl rfl (codeWp_sound mixed ?_)
   have g1:=lpJ_get2 (hBJ st') 0 E X .ready J2
   have g2:=fun st1=>lpJ_set2 (hBJ st1) 0 E X .ready .busy J2
   simp only [Nat.mul_zero,Nat.add_zero,List.append_assoc] at g1 g2
   simp -implicitDefEqProofs [ra0_78,beginP,g1,g2]
   refine codeWp_sound mixed ?_
   have g3:=fun st1=>lpJ_get2 (hBJ st1) 0 E X .busy J2
   have g4:=fun st1=>lpJ_set2 (hBJ st1) 0 E X .busy .ready J2
   simp only [Nat.mul_zero,Nat.add_zero,List.append_assoc] at g3 g4
   by_cases hyS:y ∈ st'.S
   .simp -implicitDefEqProofs [rb0_78,e2,e3,hM,hyS,roundP,g3,g4]
    refine ⟨st',?_,rfl⟩
    rw [List.take_add_one,hy]
    exact hz.old hyS
   .simp -implicitDefEqProofs [rb0_78,e2,e3,hM,hyS,hS,hV,metOf_set st'.S y hyS,cloV]
    have hoff:=offU_lt (univ:=univ) (hu x y (List.mem_of_getElem? hy)) hyS
    have hoff2:=offU_mono (univ:=univ) hz.mono
    refine callr (ih y ⟨st'.S++[y],st'.u⟩ (J++(lpJ 0 E X .busy++J2)) (by simp only; omega)) (by simp [sv]) rfl ?_
    rintro r H' ⟨rfl,st2,hz2,rfl⟩
    simp -implicitDefEqProofs [roundP,g3,g4]
    refine ⟨st2,?_,rfl⟩
    rw [List.take_add_one,hy]
    exact hz.visit hyS hz2
  .rw [List.take_add_one,hy]
   exact hz.note s
end Go.Apx
end
section
namespace Go.Apx
open Go.Proofs
set_option maxRecDepth 4000
theorem met_inb (S:List ByteArray) (n:Nat):(AObj.amap (smap bv (metOf S))).inb n=true:=by
 simp only [AObj.inb,smap,metOf,List.map_map,List.all_map]
 rw [List.all_eq_true]
 intro s _
 rfl
theorem closure_c (NT:(CSt -> AHeap) -> Prop) (nx:ByteArray -> Evs) (univ:List ByteArray) (sf:FuncId) (fa fb:List AV) (hp:List ByteArray -> AHeap) (n0:Nat) (hl:∀ u,(hp u).length=n0)
  (hq:∀ u v,Cq (hp u) (hp v)) (hNT:NT (cloB hp n0 (.fn (.func sf) fa fb))) (hNJ:∀ B J,NT B -> NT (fun st=>B st++J))
  (hu:∀ z y,(true,y) ∈ nx z -> y ∈ univ) (hs:StepsC NT nx sf fa fb) (x:ByteArray) (slf:Bool) (u0:List ByteArray) :
  ACalls PP Gl 42 [sv x,bl slf,.fn (.func sf) fa fb] (hp u0) (fun e h'=>e=.ret (.mp n0) /\ ∃ b,CloS nx x slf u0 b /\ h'=hp b.u++[.amap (smap bv (metOf b.S))]):=by
 have hcl:∀ st st',Cq (cloB hp n0 (.fn (.func sf) fa fb) st) (cloB hp n0 (.fn (.func sf) fa fb) st'):=by
  intro st st' i o ho
  unfold cloB at ho ⊢
  by_cases hi:i < n0
  .rw [List.getElem?_append_left (by rw [hl]; exact hi)] at ho ⊢
   exact hq _ _ i o ho
  .rw [List.getElem?_append_right (by rw [hl]; omega),hl] at ho ⊢
   match hd:i - n0 with
   | 0=>rw [hd] at ho; simp at ho; subst ho; exact .inr fun n=>met_inb _ n
   | 1=>rw [hd] at ho; left; exact ho
   | k+2=>rw [hd] at ho; simp at ho
 refine enter_42 (by simp) ?_
 have hv:=visit_c NT nx univ sf fa fb hp n0 hl hcl hNT hNJ hu hs
 have hlen:=hl u0
 have hfin:∀ b:CSt,Cl (hp u0) (hp b.u++[.amap (smap bv (metOf b.S)),.cells 0 [cloV n0 (.fn (.func sf) fa fb)]]) (n0+1):=by
  intro b i o hi ho
  by_cases h1:i < n0
  .rw [List.getElem?_append_left (by rw [hl]; exact h1)] at ho
   exact (hq u0 b.u i o ho).imp id fun h=>h _
  .rw [List.getElem?_append_right (by rw [hl]; omega),hl,show i - n0=0 by omega] at ho
   simp at ho; subst ho
   exact .inr (met_inb _ _)
 have htake:∀ b:CSt,(hp b.u++[AObj.amap (smap bv (metOf b.S)),.cells 0 [cloV n0 (.fn (.func sf) fa fb)]]).take (n0+1)=hp b.u++[.amap (smap bv (metOf b.S))]:=fun b=>by
  rw [<- hl b.u,List.take_length_add_append]; rfl
 cases slf with
 | true =>
  simp -implicitDefEqProofs [code_42,res_42,ann_42,hlen]
  refine callr (hv (offU univ [x]+1) x ⟨[x],u0⟩ [] (by simp)) (by simp [sv]) (by simp [cloB,metOf,smap,cloV,bv]) ?_
  rintro r h' ⟨rfl,b,hb,rfl⟩
  have hb0:VRt nx (nx x) ⟨if (true:Bool)=true then [x] else [],u0⟩ b:=hb
  simp -implicitDefEqProofs [cloB]
  refine retCut (v:=.mp n0) (n0+1) (by simp [deferred,dslot]) (by simp [evalRes,evalRes1]) (by omega) (by simp [hl]) (by simp [AV.strip,AV.inb]) (hfin b) ?_
  rw [htake]
  exact ⟨rfl,b,hb0.closure,rfl⟩
 | false =>
  simp -implicitDefEqProofs [code_42,res_42,ann_42,hlen]
  refine callr (hv (offU univ []+1) x ⟨[],u0⟩ [] (by simp)) (by simp [sv]) (by simp [cloB,metOf,smap,cloV,bv]) ?_
  rintro r h' ⟨rfl,b,hb,rfl⟩
  have hb0:VRt nx (nx x) ⟨if (false:Bool)=true then [x] else [],u0⟩ b:=hb
  simp -implicitDefEqProofs [cloB]
  refine retCut (v:=.mp n0) (n0+1) (by simp [deferred,dslot]) (by simp [evalRes,evalRes1]) (by omega) (by simp [hl]) (by simp [AV.strip,AV.inb]) (hfin b) ?_
  rw [htake]
  exact ⟨rfl,b,hb0.closure,rfl⟩
theorem contained_steps (g:Gr) (hr:g.rules.length <= 2 ^ 31) (hps:∀ R ∈ g.rules,R.parts.length <= 2 ^ 31):StepsC (fun _=>True) (contE g) 50 [encG g] [] :=
 fun x=>⟨_,_,_,fun H=>by simpa [sv] using contained_c g x,contained1_c g x hr hps⟩
theorem Cq.refl (A:AHeap):Cq A A:=fun _ _ h=>.inl h
theorem contE_mem {g:Gr} {z y:ByteArray}:(true,y) ∈ contE g z ↔ ∃ R ∈ g.rules,R.sort=z /\ ∃ p ∈ R.parts,p.sort ≠ emp /\ p.sort=y:=by
 simp only [contE,contL,List.mem_flatMap,List.mem_filter,decide_eq_true_eq,evP,List.mem_map,Bool.not_eq_true',decide_eq_false_iff_not,Prod.mk.injEq,true_and]
 constructor
 .rintro ⟨R,⟨h1,h2⟩,p,⟨h3,h4⟩,h5⟩; exact ⟨R,h1,h2,p,h3,h4,h5⟩
 .rintro ⟨R,h1,h2,p,h3,h4,h5⟩; exact ⟨R,⟨h1,h2⟩,p,⟨h3,h4⟩,h5⟩
def ReachS (g:Gr) (x:ByteArray) (S:List ByteArray):Prop:=∃ b,CloS (contE g) x true [] b /\ b.S=S
theorem contClosure_c (g:Gr) (hin:SortsIn g) (hr:g.rules.length <= 2 ^ 31) (hps:∀ R ∈ g.rules,R.parts.length <= 2 ^ 31) (x:ByteArray) {h:AHeap} :
  ACalls PP Gl 42 [sv x,bl true,.fn (.func 50) [encG g] []] h (fun e h'=>∃ S,ReachS g x S /\ e=.ret (.mp h.length) /\ h'=h++[.amap (smap bv (metOf S))]):=by
 have:=closure_c (fun _=>True) (contE g) (g.sorts) 50 [encG g] [] (fun _=>h) h.length (fun _=>rfl) (fun _ _=>Cq.refl _) trivial (fun _ _ _=>trivial)
  (fun z y hy=>by
   obtain ⟨R,hR,_,p,hp,hp2,rfl⟩:=contE_mem.1 hy
   exact has_mem ((hin R hR).2 p hp hp2)) (contained_steps g hr hps) x true []
 refine this.mono fun e h' hh=>?_
 obtain ⟨rfl,b,hb,rfl⟩:=hh
 exact ⟨b.S,⟨b,hb,rfl⟩,rfl,rfl⟩
theorem strip_grown_sv (l:List ByteArray):(grown 1 (l.map sv)).strip=grown 1 (l.map sv):=by
 unfold grown
 split
 .rename_i e; rw [e]; rfl
 .simp only [AV.strip,strip_strs]; rfl
end Go.Apx
end
