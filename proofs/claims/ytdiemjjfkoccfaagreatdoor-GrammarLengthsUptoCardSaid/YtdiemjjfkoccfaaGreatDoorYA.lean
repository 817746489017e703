/- Walks: the reference's insert. -/
import Derived.Test.YtdiemjjfkoccfaaGreatDoorXA
import Derived.Test.YtdiemjjfkoccfaaGreatDoorGC
set_option linter.unusedVariables false
set_option linter.unusedSimpArgs false
set_option linter.unnecessarySimpa false
section
namespace Go.Apx
open Go.Proofs
set_option maxRecDepth 4000
def sLt (a b:ByteArray):Prop:=bytesL a < bytesL b
instance (a b:ByteArray):Decidable (sLt a b):=inferInstanceAs (Decidable (bytesL a < bytesL b))
theorem bytes_lt (a b:ByteArray):Op.bytesLess a.toList b.toList=decide (sLt a b):=by
 rw [Go.Proofs.bytesLess_eq,Lib.toList_data,Lib.toList_data]; rfl
def atPut {α:Type} (l:List α) (s:α) (k:Nat):List α:=l.take k++s :: l.drop k
theorem atPut_at {α:Type} {l:List α} {s:α} {k:Nat} (hk:k <= l.length):(atPut l s k)[k]?=some s:=by
 unfold atPut
 rw [List.getElem?_append_right (by simp; omega)]
 simp [Nat.min_eq_left hk]
theorem atPut_len {α:Type} {l:List α} {s:α} {k:Nat}:(atPut l s k).length=l.length+1:=by
 unfold atPut; simp; omega
theorem atPut_before {α:Type} {l:List α} {s:α} {k i:Nat} (hi:i < k) (hk:k <= l.length):(atPut l s k)[i]?=l[i]?:=by
 unfold atPut
 rw [List.getElem?_append_left (by simp; omega),List.getElem?_take,if_pos hi]
theorem atPut_set {α:Type} {l:List α} {s t:α} {k:Nat} (hk:k <= l.length):(atPut l s k).set k t=atPut l t k:=by
 unfold atPut
 rw [List.set_append_right _ _ (by simp; omega)]
 simp [Nat.min_eq_left hk]
theorem atPut_move {α:Type} {l:List α} {x s:α} {k:Nat} (hk:k+1 <= l.length) (hx:l[k]?=some x):(atPut l s (k+1)).set (k+1) x=atPut l x k:=by
 rw [atPut_set hk]
 unfold atPut
 rw [List.take_add_one,hx,List.append_assoc]
 congr 1
 rw [List.drop_eq_getElem_cons (show k < l.length by omega)]
 have:l[k]'(by omega)=x:=(List.getElem?_eq_some_iff.1 hx).2
 rw [this]
 rfl
def insF:List ByteArray -> ByteArray -> List ByteArray
 | [],s=>[s]
 | x :: r,s=>if sLt x s then x :: insF r s else if x=s then x :: r else s :: x :: r
theorem insF_at:∀ {l:List ByteArray} {s:ByteArray} {k:Nat},k <= l.length -> (∀ x ∈ l.take k,sLt x s) -> (∀ x,l[k]?=some x -> ¬ sLt x s) -> insF l s=if l[k]?=some s then l else atPut l s k
 | [],s,0,_,_,_=>by simp [insF,atPut]
 | x :: r,s,0,_,_,h=>by
  have h1:=h x rfl
  simp only [insF,if_neg h1,List.getElem?_cons_zero,Option.some.injEq]
  rfl
 | x :: r,s,k+1,hk,h1,h2=>by
  have hx:=h1 x (by simp)
  have ih:=insF_at (l:=r) (s:=s) (k:=k) (by simpa using hk) (fun y hy=>h1 y (by simp [hy])) (fun y hy=>h2 y (by simpa using hy))
  simp only [insF,if_pos hx,ih,List.getElem?_cons_succ]
  split
  .rfl
  .rfl
theorem rows_sv:∀ (l:List ByteArray) (rest:List AV),rows 1 l.length (l.map sv++rest)=l.map sv
 | [],_=>rfl
 | a :: l,rest=>by
  simp only [List.length_cons,List.map_cons,List.cons_append,rows,if_true,List.headD_cons,List.drop_succ_cons,List.drop_zero,rows_sv l rest]
def InsR0 (l:List ByteArray) (s:ByteArray) (h:AHeap) (r:AEnd) (h':AHeap):Prop:=Low h.length h h' /\ ((insF l s=l /\ r=.ret (encW l)) \/
 ∃ o g,h.length <= o /\ h'[o]?=some (.cells g ((insF l s).map sv)) /\ r=.ret (.rf o g 0 (insF l s).length (.own 1)))
theorem atPut_end {α:Type} (l:List α) (s:α):atPut l s l.length=l++[s]:=by simp [atPut]
set_option maxHeartbeats 4000000 in
theorem ins_tail (l:List ByteArray) (s:ByteArray) (i:Nat) (hl:l.length <= 1000000) (hi:i <= l.length) (gg:Nat) (R:AEnd -> AHeap -> Prop) {h:AHeap} (hR:R (.ret (.rf h.length gg 0 (l.length+1) (.own 1))) (h++[.cells gg ((atPut l s i).map sv)])) :
  AWp ⟨PP,Gl,60,[36,38],h.length,none⟩ (.loop lp1_83) (blockP 2 (thenP (codeK ⟨PP,Gl,60,[36,38],h.length,none⟩
     ((ACode.reg
        [{ dst:=some 55,op:=AOp.mv (Opd.t 0),guard:=none,after:=[] },
         {dst:=some 56,op:=AOp.mv (Opd.t 5),guard:=none,after:=[] },
         {dst:=some 57,op:=AOp.mv (Opd.t 1),guard:=none,after:=[] },
         {dst:=some 58,op:=AOp.iaddr 1 (Opd.t 55) (Opd.t 56),guard:=none,after:=[0,1,0,1,2] },
         {dst:=none,op:=AOp.store 1 (Opd.t 58) (Opd.t 57),guard:=none,
          after:=[3,2,0,1,2] }]).seq
      ((ACode.reg
         [{ dst:=some 59,op:=AOp.mv (Opd.t 0),guard:=none,after:=[] },
          {dst:=some 4,op:=AOp.mv (Opd.t 59),guard:=none,after:=[0,0] }]).seq
       ACode.ret)) (retPost PP Gl h [.t 4] R)) (retPost PP Gl h [.t 4] R)))
   [(0,.rf h.length gg 0 (l.length+1) (.own 1)),(1,sv s),(5,i64 (i:Int)),(6,i64 (l.length:Int))] (h++[.cells gg ((l++[emp]).map sv)]):=by
 refine AWp.till (S:=Nat × ByteArray) (l.length,emp) (fun st=>st.1 - i) [0,1,5] (fun st=>[(6,i64 (st.1:Int))]) (fun st=>h++[.cells gg ((atPut l st.2 st.1).map sv)]) (fun st=>i <= st.1 /\ st.1 <= l.length) mixed ⟨hi,Nat.le_refl _⟩ (le_of (by simp [dslot])) (by simp only [atPut_end]) ?_
 rintro ⟨k,x⟩ ⟨z1,z2⟩
 simp only at z1 z2
 have hal:=atPut_len (l:=l) (s:=x) (k:=k)
 by_cases hk:i < k
 .obtain ⟨k',rfl⟩:∃ k',k=k'+1:=⟨k - 1,by omega⟩
  obtain ⟨y,hy⟩:∃ y,l[k']?=some y:=⟨l[k']'(by omega),by simp⟩
  have hik:(i:Int) < (k':Int)+1:=by omega
  have hbf:(atPut l x (k'+1))[k']?=some y:=by rw [atPut_before (by omega) z2,hy]
  have hmv:=atPut_move (s:=x) z2 hy
  have wk:IntKind.i64.wrap (k':Int)=(k':Int):=IntWalk.i64_in _ (by omega)
  have q1:k'+1 < (atPut l x (k'+1)).length:=by omega
  have q2:k' < (atPut l x (k'+1)).length:=by omega
  have q3:k' < l.length+1:=by omega
  have q4:k'+1 < l.length+1:=by omega
  have q7:((k':Int)+1).toNat=k'+1:=by omega
  have q8:(0:Int) <= (k':Int)+1:=by omega
  have hbf2:(atPut l x (k'+1))[k']'q2=y:=(List.getElem?_eq_some_iff.1 hbf).2
  have hset:List.take (k'+1) (List.map sv (atPut l x (k'+1)))++AV.sc (.string y) :: List.drop (k'+1+1) (List.map sv (atPut l x (k'+1)))=(atPut l y k').map sv:=by
   have e:=put_eq ((atPut l x (k'+1)).map sv) (k'+1) (sv y) (by simp; omega)
   rw [<- List.map_set,hmv] at e
   exact e
  simp -implicitDefEqProofs [lp1_83,hik,q1,q2,q3,q4,q7,q8,hal,hbf,hbf2,wk,z2,hset]
  exact ⟨k',by omega,⟨by omega,by omega⟩,le_of (by simp [dslot]),y,rfl⟩
 .have hki:k=i:=by omega
  subst hki
  have k3:k < l.length+1:=by omega
  have hset:List.take k (List.map sv (atPut l x k))++AV.sc (.string s) :: List.drop (k+1) (List.map sv (atPut l x k))=(atPut l s k).map sv:=by
   have e:=put_eq ((atPut l x k).map sv) k (sv s) (by simp; omega)
   rw [<- List.map_set,atPut_set z2] at e
   exact e
  simp -implicitDefEqProofs [lp1_83,hal,k3,z2,hset]
  exact ret1 (v:=.rf h.length gg 0 (l.length+1) (.own 1)) (by simp [deferred,dslot]) (by simp [evalRes,evalRes1]) hR
set_option maxHeartbeats 4000000 in
theorem insert0_c (l:List ByteArray) (s:ByteArray) (hl:l.length <= 1000000) {h:AHeap}:ACalls PP Gl 83 [encW l,.sc (.string s)] h (InsR0 l s h):=by
 obtain ⟨kl,cl,el,hkl⟩:=encW_sl l
 rw [el]
 refine enter_83 (by simp) ?_
 simp -implicitDefEqProofs [code_83,res_83,ann_83]
 have hmx:l.length <= 4294967296:=by omega
 have hmx1:l.length+1 <= 4294967296:=by omega
 have htk:List.take l.length (List.map sv l)=List.map sv l:=List.take_of_length_le (by simp)
 refine AWp.till (S:=Nat) 0 (fun i=>l.length - i) [0,1] (fun i=>[(5,i64 (i:Int))]) (fun _=>h) (fun i=>i <= l.length /\ ∀ x ∈ l.take i,sLt x s) mixed ⟨by simp,by simp⟩ (le_of (by simp [dslot])) rfl ?_
 rintro i ⟨z1,z2⟩
 by_cases hi:i < l.length
 .obtain ⟨x,hx⟩:∃ x,l[i]?=some x:=⟨l[i],by simp [hi]⟩
  have hlt:(i:Int) < l.length:=by omega
  have hne:l ≠ []:=by intro e; rw [e] at hi; simp at hi
  have k1:=hkl hne
  subst k1
  have wi:IntKind.i64.wrap ((i:Int)+1)=(i:Int)+1:=IntWalk.i64_in _ (by omega)
  by_cases hxs:sLt x s
  .simp -implicitDefEqProofs [lp0_83,hlt,hx,hne,bytes_lt,hxs,wi]
   refine ⟨i+1,by omega,⟨by omega,fun y hy=>?_⟩,le_of (by simp [dslot])⟩
   rw [List.take_add_one,hx] at hy
   rcases List.mem_append.1 hy with hy | hy
   .exact z2 y hy
   .simp at hy; subst hy; exact hxs
  .have hin:=insF_at z1 z2 (fun y hy=>by rw [hx] at hy; cases hy; exact hxs)
   by_cases hxe:x=s
   .subst hxe
    rw [hx,if_pos rfl] at hin
    simp -implicitDefEqProofs [lp0_83,hlt,hx,hne,bytes_lt,hxs]
    exact ret1 (v:=encW l) (by simp [deferred,dslot]) (by simp [evalRes,evalRes1,el]) ⟨fun _ _ _ h=>h,.inl ⟨hin,rfl⟩⟩
   .rw [hx,if_neg (by simpa using hxe)] at hin
    simp -implicitDefEqProofs [lp0_83,hlt,hx,hne,bytes_lt,hxs,hxe,hmx,hmx1,flat_svK,rows_sv,maxLenA,htk]
    have wl:IntKind.i64.wrap (l.length:Int)=(l.length:Int):=IntWalk.i64_in _ (by omega)
    have key:=ins_tail l s i hl z1 1 (InsR0 l s h) (h:=h) ⟨Low.app _ _ _,.inr ⟨h.length,1,Nat.le_refl _,by rw [hin]; simp,by rw [hin,atPut_len]⟩⟩
    simp only [List.map_append,List.map_cons,List.map_nil] at key
    refine AWp.weaken key (le_of ?_)
    simp [dslot,wl]
 .have hie:i=l.length:=by omega
  subst hie
  have hin:=insF_at z1 z2 (fun y hy=>by rw [List.getElem?_eq_none (Nat.le_refl _)] at hy; cases hy)
  rw [List.getElem?_eq_none (Nat.le_refl _),if_neg (by simp)] at hin
  by_cases hne:l=[]
  .subst hne
   simp -implicitDefEqProofs [lp0_83,maxLenA]
   exact (ins_tail [] s 0 (by simp) (by simp) 0 (InsR0 [] s h) ⟨Low.app _ _ _,.inr ⟨h.length,0,Nat.le_refl _,by rw [hin]; simp,by rw [hin,atPut_len]⟩⟩).weaken (le_of (by simp [dslot]))
  .have k1:=hkl hne
   subst k1
   simp -implicitDefEqProofs [lp0_83,hne,hmx,hmx1,flat_svK,rows_sv,maxLenA,htk]
   have wl:IntKind.i64.wrap (l.length:Int)=(l.length:Int):=IntWalk.i64_in _ (by omega)
   have key:=ins_tail l s l.length hl z1 1 (InsR0 l s h) (h:=h) ⟨Low.app _ _ _,.inr ⟨h.length,1,Nat.le_refl _,by rw [hin]; simp,by rw [hin,atPut_len]⟩⟩
   simp only [List.map_append,List.map_cons,List.map_nil] at key
   refine AWp.weaken key (le_of ?_)
   simp [dslot,wl]
theorem insert_c (l:List ByteArray) (s:ByteArray) (hl:l.length <= 1000000) {h:AHeap}:AEx PP Gl 83 [encW l,.sc (.string s)] h (.ret (encW (insF l s))) h:=by
 have h0:=(insert0_c l s hl (h:=h)).freezeO (R':=fun r H=>Low h.length h H /\ r=.ret (encW (insF l s))) ?_
 .exact h0.dropR fun r H ⟨hl,e⟩=>⟨_,e,inb_grown_sv _ _,hl,rfl,rfl⟩
 rintro r H ⟨hl,⟨e,rfl⟩ | ⟨o,g,q1,q2,rfl⟩⟩
 .exact .inl ⟨hl,by rw [e]⟩
 .right
  refine ⟨_,o,g,1,(insF l s).map sv,rfl,q2,hl.trans (Low.set q1),?_⟩
  have hne:insF l s ≠ []:=by
   cases l with
   | nil=>simp [insF]
   | cons a l =>
    unfold insF
    split
    .simp
    .split <;> simp
  have hne2:(insF l s).map sv ≠ []:=by simpa using hne
  simp only [AV.frz,frz1,List.drop_zero,strRow,encW,grown,if_neg hne2]
  rw [if_pos (by simp)]
end Go.Apx
end
section
namespace Go.Apx
open Go.Proofs
set_option maxRecDepth 4000
set_option maxHeartbeats 1000000 in
theorem usable_c (g:Gr) (R:Rl) (X:List Bool) (o:Nat) {H:AHeap} (hs:g.sorts.length <= 2 ^ 31) (hp:R.parts.length <= 2 ^ 31) (hX:X.length=g.sorts.length) (ho:H[o]?=some (.cells 0 (X.map bl))) (hin:∀ p ∈ R.parts,p.sort ≠ emp -> hasF g.sorts p.sort=true) :
  AEx PP Gl 82 [encG g,encR R,.rf o 0 0 g.sorts.length .full] H (.ret (bl (R.parts.all (partM g true X)))) H:=by
 refine enter_82 (by simp) ?_
 simp -implicitDefEqProofs [code_82,res_82,ann_82,encG,encR]
 refine AWp.cnt R.parts.length [2,3,4] (fun i=>[(7,i64 (i:Int))]) (fun _=>H) (fun i=>(R.parts.take i).all (partM g true X)=true) mixed (by simp) (le_of (by simp [dslot])) rfl (fun i hi hz=>?_) fun hz=>?_
 .obtain ⟨p,hpi⟩:∃ p,R.parts[i]?=some p:=⟨R.parts[i],by simp [hi]⟩
  have hlt:(i:Int) < R.parts.length:=by omega
  have hne:R.parts ≠ []:=by intro e; rw [e] at hi; simp at hi
  have wi:IntKind.i64.wrap ((i:Int)+1)=(i:Int)+1:=IntWalk.i64_in _ (by omega)
  have hst:(R.parts.take (i+1)).all (partM g true X)=partM g true X p:=by
   rw [List.take_add_one,hpi,List.all_append,hz]; simp
  by_cases e:p.sort=emp
  .simp -implicitDefEqProofs [lp0_82,hlt,hne,hpi,encP,e,emp,wi]
   exact ⟨List.all_eq_true.1 (hst.trans (by simp [partM,e])),le_of (by simp [dslot,encR,encG])⟩
  .have e':¬ p.sort=(⟨#[]⟩:ByteArray):=e
   obtain ⟨q,_,hq,hql⟩:=index_of_has (hin p (List.mem_of_getElem? hpi) e)
   have hXq:X[q]?=some (mkF g X p.sort):=by
    unfold mkF
    rw [hq,List.getD_eq_getElem?_getD]
    have:X[q]?=some X[q]:=by simp [hX,hql]
    simp only [Int.toNat_natCast,this]; rfl
   have hqX:q < X.length:=by omega
   have hXe:X[q]'hqX=mkF g X p.sort:=(List.getElem?_eq_some_iff.1 hXq).2
   simp -implicitDefEqProofs [lp0_82,hlt,hne,hpi,encP,e',wi]
   refine callk (rindex_c g.sorts g.sc p.sort hs) rfl rfl ?_
   have hqi:(q:Int) < g.sorts.length:=by omega
   cases hm:mkF g X p.sort with
   | true =>
    simp -implicitDefEqProofs [hq,ho,hXq,hql,hqi,hqX,hXe,hm,wi]
    exact ⟨List.all_eq_true.1 (hst.trans (by simp [partM,e,hm])),le_of (by simp [dslot,encR,encG])⟩
   | false =>
    simp -implicitDefEqProofs [hq,ho,hXq,hql,hqi,hqX,hXe,hm,wi]
    refine ret1 (v:=bl false) (by simp [deferred,dslot]) (by simp [evalRes,evalRes1]) ⟨?_,rfl⟩
    have:R.parts.all (partM g true X)=false:=by
     rw [List.all_eq_false]
     exact ⟨p,List.mem_of_getElem? hpi,by simp [partM,e,hm]⟩
    rw [this]
 .rw [List.take_length] at hz
  simp -implicitDefEqProofs [lp0_82]
  exact ret1 (v:=bl true) (by simp [deferred,dslot]) (by simp [evalRes,evalRes1]) ⟨by rw [hz],rfl⟩
end Go.Apx
end
section
namespace Go.Apx
open Go.Proofs
theorem sLt_trans {a b c:ByteArray} (h:sLt a b) (h':sLt b c):sLt a c:=List.lt_trans h h'
theorem sLt_irrefl (a:ByteArray):¬ sLt a a:=List.lt_irrefl _
theorem bytesL_inj {a b:ByteArray} (h:bytesL a=bytesL b):a=b:=by
 rw [<- strL_bytesL a,<- strL_bytesL b,h]
theorem sLt_total {a b:ByteArray} (h:¬ sLt a b) (hne:a ≠ b):sLt b a:=by
 have h1:bytesL b <= bytesL a:=List.not_lt.1 h
 rcases List.le_iff_lt_or_eq.1 h1 with h2 | h2
 .exact h2
 .exact (hne (bytesL_inj h2).symm).elim
def StrictS (l:List ByteArray):Prop:=l.Pairwise sLt
theorem StrictS.nodup {l:List ByteArray} (h:StrictS l):l.Nodup:=List.Pairwise.imp (fun hab e=>by subst e; exact sLt_irrefl _ hab) h
theorem mem_insF {l:List ByteArray} {s x:ByteArray}:x ∈ insF l s ↔ x=s \/ x ∈ l:=by
 induction l with
 | nil=>simp [insF]
 | cons a l ih =>
  unfold insF
  split
  .simp only [List.mem_cons,ih]
   constructor
   .rintro (h | h | h) <;> simp [h]
   .rintro (h | h | h) <;> simp [h]
  .split
   .rename_i e; subst e; simp only [List.mem_cons]
    constructor
    .rintro (h | h) <;> simp [h]
    .rintro (h | h | h) <;> simp [h]
   .simp only [List.mem_cons]
theorem StrictS.ins {l:List ByteArray} {s:ByteArray} (h:StrictS l):StrictS (insF l s):=by
 induction l with
 | nil=>simp [insF,StrictS]
 | cons a l ih =>
  obtain ⟨h1,h2⟩:=List.pairwise_cons.1 h
  unfold insF
  split
  .rename_i hlt
   refine List.pairwise_cons.2 ⟨fun y hy=>?_,ih h2⟩
   rcases mem_insF.1 hy with rfl | hy
   .exact hlt
   .exact h1 y hy
  .rename_i hlt
   split
   .exact h
   .rename_i hne
    have hsa:=sLt_total hlt hne
    refine List.pairwise_cons.2 ⟨fun y hy=>?_,h⟩
    rcases List.mem_cons.1 hy with rfl | hy
    .exact hsa
    .exact sLt_trans hsa (h1 y hy)
theorem srtS_strict {l:List ByteArray} (h:StrictS l):srtS l=l:=by
 unfold srtS
 rw [List.mergeSort_of_pairwise]
 .rw [List.map_map]
  conv=>rhs; rw [<- List.map_id l]
  exact List.map_congr_left fun a _=>strL_bytesL a
 .refine List.pairwise_map.2 (List.Pairwise.imp (fun hab=>?_) h)
  simp only [decide_eq_true_eq]
  exact List.le_of_lt hab
theorem sub_of_len {a b:List ByteArray} (ha:a.Nodup) (hb:b.Nodup) (hab:∀ x ∈ a,x ∈ b) (hl:b.length <= a.length):∀ x ∈ b,x ∈ a:=by
 intro x hx
 by_cases h:x ∈ a
 .exact h
 .have:=nodup_le (a:=x :: a) (b:=b) (List.nodup_cons.2 ⟨h,ha⟩) fun y hy=>by
   rcases List.mem_cons.1 hy with rfl | hy
   .exact hx
   .exact hab y hy
  simp only [List.length_cons] at this
  omega
def outAt (g:Gr) (O:List (List ByteArray)) (s:ByteArray):List ByteArray:=O.getD (indexF g.sorts s).toNat []
def insL (l:List ByteArray) (xs:List ByteArray):List ByteArray:=xs.foldl insF l
def partsF (g:Gr) (N:List Bool) (O:List (List ByteArray)):List Pt -> List ByteArray -> List ByteArray
 | [],l=>l
 | p :: r,l=>if p.sort=emp then insF l p.sym else if mkF g N p.sort=true then partsF g N O r (insL l (outAt g O p.sort)) else insL l (outAt g O p.sort)
abbrev OSt:=List (List ByteArray) × Bool
def ruleFs (g:Gr) (N:List Bool) (O:List (List ByteArray)) (R:Rl):List ByteArray:=partsF g N O R.parts (outAt g O R.sort)
def roundO (g:Gr) (N X:List Bool) (x:OSt) (R:Rl):OSt :=
 if R.parts.all (partM g true X)=true then (if (outAt g x.1 R.sort).length < (ruleFs g N x.1 R).length then (x.1.set (indexF g.sorts R.sort).toNat (ruleFs g N x.1 R),true) else x) else x
theorem mem_insL {l xs:List ByteArray} {x:ByteArray}:x ∈ insL l xs ↔ x ∈ l \/ x ∈ xs:=by
 unfold insL
 induction xs generalizing l with
 | nil=>simp
 | cons a xs ih =>
  rw [List.foldl_cons,ih,mem_insF,List.mem_cons]
  constructor
  .rintro ((h | h) | h) <;> simp [h]
  .rintro (h | h | h) <;> simp [h]
theorem StrictS.insL {l:List ByteArray} (h:StrictS l) (xs:List ByteArray):StrictS (insL l xs):=by
 unfold Go.Apx.insL
 induction xs generalizing l with
 | nil=>exact h
 | cons a xs ih=>exact ih h.ins
theorem mem_partsF {g:Gr} {N:List Bool} {O:List (List ByteArray)}:∀ (ps:List Pt) (l:List ByteArray),∀ x ∈ l,x ∈ partsF g N O ps l
 | [],l,x,h=>h
 | p :: r,l,x,h=>by
  unfold partsF
  split
  .exact mem_insF.2 (.inr h)
  .split
   .exact mem_partsF r _ x (mem_insL.2 (.inl h))
   .exact mem_insL.2 (.inl h)
theorem StrictS.parts {g:Gr} {N:List Bool} {O:List (List ByteArray)}:∀ (ps:List Pt) (l:List ByteArray),StrictS l -> StrictS (partsF g N O ps l)
 | [],l,h=>h
 | p :: r,l,h=>by
  unfold partsF
  split
  .exact h.ins
  .split
   .exact StrictS.parts r _ (h.insL _)
   .exact h.insL _
structure FInv (g:Gr) (O:List (List ByteArray)):Prop where
 len:O.length=g.sorts.length
 srt:∀ l ∈ O,StrictS l
 snd:∀ s,hasF g.sorts s=true -> ∀ x ∈ outAt g O s,∃ w,Gn g s (x :: w)
structure Mks (g:Gr) (N X:List Bool):Prop where
 nul:∀ s,hasF g.sorts s=true -> (mkF g N s=true ↔ Gn g s [])
 ful:∀ s,hasF g.sorts s=true -> (mkF g X s=true ↔ ∃ w,Gn g s w)
section
variable {g:Gr} {N X:List Bool} {O:List (List ByteArray)}
theorem gnp_all (hM:Mks g N X) {l:List Pt} (hin:∀ p ∈ l,p.sort ≠ emp -> hasF g.sorts p.sort=true):l.all (partM g true X)=true ↔ ∃ w,GnP g l w:=by
 induction l with
 | nil=>exact ⟨fun _=>⟨[],.nil⟩,fun _=>rfl⟩
 | cons p l ih =>
  have ih:=ih (fun q hq=>hin q (by simp [hq]))
  rw [List.all_cons,Bool.and_eq_true,ih]
  by_cases e:p.sort=emp
  .constructor
   .rintro ⟨_,w,hw⟩; exact ⟨_,.sym p l w e hw⟩
   .rintro ⟨w,hw⟩
    obtain ⟨w',_,h⟩:=gnP_sym hw e
    exact ⟨by simp [partM,e],w',h⟩
  .have hs:=hin p (by simp) e
   constructor
   .rintro ⟨h1,w,hw⟩
    have h2:mkF g X p.sort=true:=by simpa [partM,e] using h1
    obtain ⟨u,R,hR,er,hu⟩:=(hM.ful _ hs).1 h2
    exact ⟨_,.srt p l R u w e hR er hu hw⟩
   .rintro ⟨w,hw⟩
    obtain ⟨u,w',_,h1,h2⟩:=gnP_srt hw e
    exact ⟨by simp [partM,e,(hM.ful _ hs).2 ⟨u,h1⟩],w',h2⟩
theorem partsF_snd (hM:Mks g N X) (hI:FInv g O):∀ (l:List Pt) (acc:List ByteArray),(∀ p ∈ l,p.sort ≠ emp -> hasF g.sorts p.sort=true) -> (∃ w,GnP g l w) -> ∀ x ∈ partsF g N O l acc,x ∈ acc \/ ∃ w,GnP g l (x :: w)
 | [],acc,_,_,x,hx=>.inl hx
 | p :: r,acc,hin,⟨w,hw⟩,x,hx=>by
  unfold partsF at hx
  by_cases e:p.sort=emp
  .rw [if_pos e] at hx
   obtain ⟨w',rfl,h⟩:=gnP_sym hw e
   rcases mem_insF.1 hx with rfl | hx
   .exact .inr ⟨w',hw⟩
   .exact .inl hx
  .rw [if_neg e] at hx
   have hs:=hin p (by simp) e
   obtain ⟨u,t,rfl,h1,h2⟩:=gnP_srt hw e
   have hout:x ∈ outAt g O p.sort -> ∃ w,GnP g (p :: r) (x :: w):=fun ho=>by
    obtain ⟨v,R,hR,er,hv⟩:=hI.snd _ hs x ho
    exact ⟨v++t,by simpa using GnP.srt p r R (x :: v) t e hR er hv h2⟩
   by_cases hn:mkF g N p.sort=true
   .rw [if_pos hn] at hx
    rcases partsF_snd hM hI r _ (fun q hq=>hin q (by simp [hq])) ⟨t,h2⟩ x hx with h | ⟨v,hv⟩
    .rcases mem_insL.1 h with h | h
     .exact .inl h
     .exact .inr (hout h)
    .obtain ⟨R,hR,er,h0⟩:=(hM.nul _ hs).1 hn
     exact .inr ⟨v,by simpa using GnP.srt p r R [] (x :: v) e hR er h0 hv⟩
   .rw [if_neg hn] at hx
    rcases mem_insL.1 hx with h | h
    .exact .inl h
    .exact .inr (hout h)
theorem outAt_set {s t:ByteArray} (l:List ByteArray) (hl:O.length=g.sorts.length) (hs:hasF g.sorts s=true) (ht:hasF g.sorts t=true):outAt g (O.set (indexF g.sorts s).toNat l) t=if t=s then l else outAt g O t:=by
 obtain ⟨i,h1,h2,h3⟩:=index_of_has hs
 obtain ⟨j,g1,g2,g3⟩:=index_of_has ht
 unfold outAt
 rw [h2,g2]
 have ei:g.sorts[i]=s:=by simpa using (List.findIdx?_eq_some_iff_getElem.1 h1).2.1
 have ej:g.sorts[j]=t:=by simpa using (List.findIdx?_eq_some_iff_getElem.1 g1).2.1
 simp only [Int.toNat_natCast,List.getD_eq_getElem?_getD,List.getElem?_set]
 by_cases e:i=j
 .subst e
  have:t=s:=ej.symm.trans ei
  simp [this,hl,h3]
 .have hne:¬ t=s:=by
   intro h4
   subst h4
   rw [h1] at g1
   exact e (Option.some.inj g1)
  simp [e,hne]
theorem outAt_srt (h:∀ l ∈ O,StrictS l) (s:ByteArray):StrictS (outAt g O s):=by
 unfold outAt
 rw [List.getD_eq_getElem?_getD]
 cases e:O[(indexF g.sorts s).toNat]? with
 | none=>exact List.Pairwise.nil
 | some l=>exact h l (List.mem_of_getElem? e)
end
end Go.Apx
end
section
namespace Go.Apx
open Go.Proofs
theorem mks_of {g:Gr} {N X:List Bool} (hin:SortsIn g) (hN:MInv g false ⟨N,false⟩) (hX:MInv g true ⟨X,false⟩):Mks g N X:=by
 have gw:∀ {symb:Bool} {Z:List Bool},MInv g symb ⟨Z,false⟩ -> GrowS g (fun _=>symb) (marked g Z):=fun hZ=>⟨closed_marked hin (hZ.fix rfl),hZ.snd⟩
 refine ⟨fun s hs=>?_,fun s hs=>?_⟩
 .rw [<- mem_marked (has_mem hs),grow_iff (gw hN)]
  simp
 .rw [<- mem_marked (has_mem hs),grow_iff (gw hX)]
  simp
theorem gnp_syms {g:Gr} {l:List Pt} {w:W} (h:GnP g l w):(∀ p ∈ l,p.sort=emp -> p.sym ∈ symsG g) -> ∀ x ∈ w,x ∈ symsG g:=by
 induction h with
 | nil=>intro _ x hx; simp at hx
 | sym p r w hp _ ih =>
  intro h x hx
  rcases List.mem_cons.1 hx with rfl | hx
  .exact h p (by simp) hp
  .exact ih (fun q hq=>h q (by simp [hq])) x hx
 | srt p r R u w hp hR e _ _ ih1 ih =>
  intro h x hx
  rcases List.mem_append.1 hx with hx | hx
  .exact ih1 (fun q hq _=>List.mem_flatMap.2 ⟨R,hR,List.mem_map.2 ⟨q,hq,rfl⟩⟩) x hx
  .exact ih (fun q hq=>h q (by simp [hq])) x hx
theorem gn_syms {g:Gr} {s:ByteArray} {w:W} (h:Gn g s w):∀ x ∈ w,x ∈ symsG g:=by
 obtain ⟨R,hR,_,hw⟩:=h
 exact gnp_syms hw fun q hq _=>List.mem_flatMap.2 ⟨R,hR,List.mem_map.2 ⟨q,hq,rfl⟩⟩
def offO (m:Nat) (O:List (List ByteArray)):Nat:=(O.map fun l=>m - l.length).sum
theorem offO_set (m:Nat):∀ (O:List (List ByteArray)) (i:Nat) (l x:List ByteArray),O[i]?=some x -> x.length < l.length -> l.length <= m -> offO m (O.set i l) < offO m O
 | [],i,l,x,h,_,_=>by simp at h
 | y :: O,0,l,x,h,h1,h2=>by
  simp at h; subst h
  simp only [List.set_cons_zero,offO,List.map_cons,List.sum_cons]
  omega
 | y :: O,i+1,l,x,h,h1,h2=>by
  have:=offO_set m O i l x (by simpa using h) h1 h2
  simp only [List.set_cons_succ,offO,List.map_cons,List.sum_cons] at this ⊢
  omega
section
variable {g:Gr} {N X:List Bool} {O:List (List ByteArray)}
theorem outAt_get (hl:O.length=g.sorts.length) {s:ByteArray} (hs:hasF g.sorts s=true):O[(indexF g.sorts s).toNat]?=some (outAt g O s):=by
 obtain ⟨i,h1,h2,h3⟩:=index_of_has hs
 unfold outAt
 rw [h2,List.getD_eq_getElem?_getD]
 have:O[i]?=some O[i]:=by simp [hl,h3]
 simp only [Int.toNat_natCast,this]
 rfl
theorem ruleFs_ok (hin:SortsIn g) (hM:Mks g N X) (hI:FInv g O) {R:Rl} (hR:R ∈ g.rules) (hu:R.parts.all (partM g true X)=true):StrictS (ruleFs g N O R) /\ (∀ x ∈ ruleFs g N O R,∃ w,Gn g R.sort (x :: w)) /\ (ruleFs g N O R).length <= (symsG g).length:=by
 have h1:StrictS (ruleFs g N O R):=StrictS.parts _ _ (outAt_srt hI.srt _)
 have h2:∀ x ∈ ruleFs g N O R,∃ w,Gn g R.sort (x :: w):=fun x hx=>by
  rcases partsF_snd hM hI R.parts _ (hin R hR).2 ((gnp_all hM (hin R hR).2).1 hu) x hx with h | ⟨w,hw⟩
  .exact hI.snd _ (hin R hR).1 x h
  .exact ⟨w,R,hR,rfl,hw⟩
 refine ⟨h1,h2,nodup_le h1.nodup fun x hx=>?_⟩
 obtain ⟨w,hw⟩:=h2 x hx
 exact gn_syms hw x (by simp)
theorem roundO_ok (hin:SortsIn g) (hM:Mks g N X) {x:OSt} (hI:FInv g x.1) {R:Rl} (hR:R ∈ g.rules):FInv g (roundO g N X x R).1 /\ offO (symsG g).length (roundO g N X x R).1 <= offO (symsG g).length x.1 /\
  ((roundO g N X x R).2=true -> x.2=true \/ offO (symsG g).length (roundO g N X x R).1 < offO (symsG g).length x.1):=by
 unfold roundO
 by_cases hu:R.parts.all (partM g true X)=true
 .rw [if_pos hu]
  by_cases hl:(outAt g x.1 R.sort).length < (ruleFs g N x.1 R).length
  .rw [if_pos hl]
   obtain ⟨a,b,c⟩:=ruleFs_ok hin hM hI hR hu
   have hs:=(hin R hR).1
   have hoff:=offO_set _ x.1 _ (ruleFs g N x.1 R) _ (outAt_get hI.len hs) hl c
   refine ⟨⟨by simp [hI.len],fun l h=>?_,fun s hs' y hy=>?_⟩,Nat.le_of_lt hoff,fun _=>.inr hoff⟩
   .rcases List.mem_or_eq_of_mem_set h with h | rfl
    .exact hI.srt l h
    .exact a
   .rw [outAt_set _ hI.len hs hs'] at hy
    by_cases e:s=R.sort
    .rw [if_pos e] at hy; rw [e]; exact b y hy
    .rw [if_neg e] at hy; exact hI.snd s hs' y hy
  .rw [if_neg hl]
   exact ⟨hI,Nat.le_refl _,fun h=>.inl h⟩
 .rw [if_neg hu]
  exact ⟨hI,Nat.le_refl _,fun h=>.inl h⟩
theorem roundsO_true:∀ (l:List Rl) (x:OSt),x.2=true -> (l.foldl (roundO g N X) x).2=true
 | [],x,h=>h
 | R :: l,x,h=>by
  rw [List.foldl_cons]
  refine roundsO_true l _ ?_
  unfold roundO
  split
  .split
   .rfl
   .exact h
  .exact h
def Still (g:Gr) (N X:List Bool) (O:List (List ByteArray)) (R:Rl):Prop:=R.parts.all (partM g true X)=true -> (ruleFs g N O R).length <= (outAt g O R.sort).length
theorem roundsO_same:∀ (l:List Rl) (x:OSt),(l.foldl (roundO g N X) x).2=false -> l.foldl (roundO g N X) x=x /\ ∀ R ∈ l,Still g N X x.1 R
 | [],x,_=>⟨rfl,fun R hR=>by simp at hR⟩
 | R :: l,x,h=>by
  rw [List.foldl_cons] at h ⊢
  have key:roundO g N X x R=x /\ Still g N X x.1 R:=by
   by_cases hu:R.parts.all (partM g true X)=true
   .by_cases hl:(outAt g x.1 R.sort).length < (ruleFs g N x.1 R).length
    .exfalso
     have e:(roundO g N X x R).2=true:=by unfold roundO; rw [if_pos hu,if_pos hl]
     rw [roundsO_true l _ e] at h
     cases h
    .exact ⟨by unfold roundO; rw [if_pos hu,if_neg hl],fun _=>by omega⟩
   .exact ⟨by unfold roundO; rw [if_neg hu],fun h=>(hu h).elim⟩
  rw [key.1] at h ⊢
  obtain ⟨a,b⟩:=roundsO_same l x h
  refine ⟨a,fun Q hQ=>?_⟩
  rcases List.mem_cons.1 hQ with rfl | hQ
  .exact key.2
  .exact b Q hQ
theorem firsts_in (hin:SortsIn g) (hM:Mks g N X) (hI:FInv g O) (hst:∀ R ∈ g.rules,Still g N X O R) {l:List Pt} {w:W} (h:GnP g l w):(∀ p ∈ l,p.sort ≠ emp -> hasF g.sorts p.sort=true) -> ∀ x v acc,w=x :: v -> x ∈ partsF g N O l acc:=by
 induction h with
 | nil=>intro _ x v acc e; cases e
 | sym p r w hp _ ih =>
  intro _ x v acc e
  simp only [List.cons.injEq] at e
  unfold partsF
  rw [if_pos hp]
  exact mem_insF.2 (.inl e.1.symm)
 | srt p r R u w hp hR e h1 h2 ih1 ih =>
  intro hpin x v acc e2
  have hs:=hpin p (by simp) hp
  unfold partsF
  rw [if_neg hp]
  cases u with
  | nil =>
   rw [if_pos ((hM.nul _ hs).2 ⟨R,hR,e,h1⟩)]
   exact ih (fun q hq=>hpin q (by simp [hq])) x v _ (by simpa using e2)
  | cons z u =>
   obtain ⟨rfl,_⟩:z=x /\ _:=by simpa using e2
   have hz:z ∈ outAt g O p.sort:=by
    have h3:=ih1 (hin R hR).2 z u (outAt g O R.sort) rfl
    have hu:=(gnp_all hM (hin R hR).2).2 ⟨_,h1⟩
    obtain ⟨a,b,c⟩:=ruleFs_ok hin hM hI hR hu
    rw [<- e]
    exact sub_of_len (outAt_srt hI.srt _).nodup a.nodup (fun y hy=>mem_partsF _ _ y hy) (hst R hR hu) z h3
   split
   .exact mem_partsF _ _ z (mem_insL.2 (.inr hz))
   .exact mem_insL.2 (.inr hz)
theorem firsts_iff (hin:SortsIn g) (hM:Mks g N X) (hI:FInv g O) (hst:∀ R ∈ g.rules,Still g N X O R) {s:ByteArray} (hs:hasF g.sorts s=true) (x:ByteArray):x ∈ outAt g O s ↔ ∃ w,Gn g s (x :: w):=by
 refine ⟨hI.snd s hs x,?_⟩
 rintro ⟨w,R,hR,rfl,hw⟩
 have hu:=(gnp_all hM (hin R hR).2).2 ⟨_,hw⟩
 obtain ⟨a,b,c⟩:=ruleFs_ok hin hM hI hR hu
 exact sub_of_len (outAt_srt hI.srt _).nodup a.nodup (fun y hy=>mem_partsF _ _ y hy) (hst R hR hu) x (firsts_in hin hM hI hst hw (hin R hR).2 x w _ rfl)
end
end Go.Apx
end
