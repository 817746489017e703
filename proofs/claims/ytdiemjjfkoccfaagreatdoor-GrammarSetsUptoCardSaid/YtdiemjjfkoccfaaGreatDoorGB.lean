/- Walks: the sorts that have an expression. -/
import Derived.Test.YtdiemjjfkoccfaaGreatDoorEB
set_option linter.unusedVariables false
set_option linter.unusedSimpArgs false
set_option linter.unnecessarySimpa false
section
namespace Go.Apx
open Go.Proofs
set_option maxRecDepth 4000
def refF (S:List ByteArray) (pm:Pt -> Bool) (p:Pt):Bool:=if p.sort=emp then !pm p else !decide (p.sort ∈ S)
def ClosedS (g:Gr) (pm:Pt -> Bool) (S:List ByteArray):Prop:=∀ R ∈ g.rules,R.parts.any (refF S pm)=false -> R.sort ∈ S
structure GrowS (g:Gr) (pm:Pt -> Bool) (S:List ByteArray):Prop where
 closed:ClosedS g pm S
 least:∀ C:List ByteArray,ClosedS g pm C -> ∀ s ∈ S,s ∈ C
theorem refF_mono {S C:List ByteArray} {pm:Pt -> Bool} (h:∀ s ∈ S,s ∈ C) {ps:List Pt} (hr:ps.any (refF S pm)=false):ps.any (refF C pm)=false:=by
 rw [List.any_eq_false] at hr ⊢
 intro p hp hc
 have:=hr p hp
 unfold refF at this hc
 by_cases e:p.sort=emp
 .rw [if_pos e] at this hc; exact this hc
 .rw [if_neg e] at this hc
  simp at this hc
  exact hc (h _ this)
def leftS (g:Gr) (S:List ByteArray):Nat:=(g.rules.filter fun R=>!decide (R.sort ∈ S)).length
theorem leftS_lt {g:Gr} {S:List ByteArray} {R:Rl} (hR:R ∈ g.rules) (hS:R.sort ∉ S):leftS g (S++[R.sort]) < leftS g S:=by
 unfold leftS
 have key:∀ l:List Rl,R ∈ l -> (l.filter fun x=>!decide (x.sort ∈ S++[R.sort])).length < (l.filter fun x=>!decide (x.sort ∈ S)).length:=by
  intro l
  have hle:∀ l:List Rl,(l.filter fun x=>!decide (x.sort ∈ S++[R.sort])).length <= (l.filter fun x=>!decide (x.sort ∈ S)).length:=by
   intro l
   induction l with
   | nil=>simp
   | cons x l ih =>
    by_cases h1:x.sort ∈ S
    .simp [List.filter_cons,h1]; simpa using ih
    .by_cases h2:x.sort=R.sort
     .simp only [List.filter_cons,h1,h2,List.mem_append,List.mem_singleton,or_true,decide_true,Bool.not_true]
      rw [h2] at h1
      simp only [h1,decide_false,Bool.not_false,if_true,List.length_cons]
      simp at ih ⊢
      omega
     .simp [List.filter_cons,h1,h2]; simpa using ih
  induction l with
  | nil=>simp
  | cons x l ih =>
   intro hm
   by_cases h2:x=R
   .subst h2
    have:=hle l
    simp only [List.filter_cons,hS,List.mem_append,List.mem_singleton,or_true,decide_true,Bool.not_true,decide_false,Bool.not_false,if_true,List.length_cons]
    simp at this ⊢
    omega
   .have ih':=ih (by simpa [Ne.symm h2] using hm)
    by_cases h1:x.sort ∈ S
    .simp [List.filter_cons,h1]; simpa using ih'
    .by_cases h3:x.sort=R.sort
     .simp only [List.filter_cons,h1,h3,List.mem_append,List.mem_singleton,or_true,decide_true,Bool.not_true]
      rw [h3] at h1
      simp only [h1,decide_false,Bool.not_false,if_true,List.length_cons]
      simp at ih' ⊢
      omega
     .simp [List.filter_cons,h1,h3]; simpa using ih'
 exact key _ hR
theorem refused_c (p:Pt) (S:List ByteArray) (o:Nat) (fid:FuncId) (pm:Pt -> Bool) {H:AHeap} (ho:H[o]?=some (.amap (aS bv (aT S)))) (hf:AEx PP Gl fid [encP p] H (.ret (bl (pm p))) H) :
  AEx PP Gl 100 [encP p,(AV.mp o).ip,(AV.fn (.func fid) [] []).ip] H (.ret (.sc (.bool (refF S pm p)))) H:=by
 refine enter_100 (by simp) ?_
 by_cases e:p.sort=emp
 .simp -implicitDefEqProofs [code_100,res_100,ann_100,encP,e,emp]
  refine aP hf (by simp [encP,e,emp]) rfl ?_
  simp -implicitDefEqProofs
  exact aZ (by simp [deferred,dslot]) rfl (by simp [refF,e]) rfl
 .have e':¬ p.sort=(⟨#[]⟩:ByteArray):=e
  by_cases hS:p.sort ∈ S
  .simp -implicitDefEqProofs [code_100,res_100,ann_100,encP,e',ho,hS]
   exact aZ (by simp [deferred,dslot]) rfl (by simp [refF,e,hS]) rfl
  .simp -implicitDefEqProofs [code_100,res_100,ann_100,encP,e',ho,hS]
   exact aZ (by simp [deferred,dslot]) rfl (by simp [refF,e,hS]) rfl
def GrowR (g:Gr) (pm:Pt -> Bool) (h:AHeap) (r:AEnd) (h':AHeap):Prop:=∃ S,GrowS g pm S /\ r=.ret (.mp h.length) /\ h'=h++[.amap (aS bv (aT S))]
def DoneV (g:Gr) (pm:Pt -> Bool) (S:List ByteArray) (i:Nat):Prop:=∀ R ∈ g.rules.take i,R.sort ∈ S \/ R.parts.any (refF S pm)=true
theorem DoneV.step {g:Gr} {pm:Pt -> Bool} {S:List ByteArray} {i:Nat} {R:Rl} (h:DoneV g pm S i) (hR:g.rules[i]?=some R) (h2:R.sort ∈ S \/ R.parts.any (refF S pm)=true):DoneV g pm S (i+1):=fun x hx=>by
 rw [List.take_add_one,hR] at hx
 rcases List.mem_append.1 hx with hx | hx
 .exact h x hx
 .simp at hx; subst hx; exact h2
theorem DoneV.zero {g:Gr} {pm:Pt -> Bool} {S:List ByteArray}:DoneV g pm S 0:=fun x hx=>by simp at hx
theorem DoneV.all {g:Gr} {pm:Pt -> Bool} {S:List ByteArray} (h:DoneV g pm S g.rules.length):ClosedS g pm S:=fun R hR h2=>by
 rcases h R (by rw [List.take_length]; exact hR) with h3 | h3
 .exact h3
 .rw [h2] at h3; cases h3
theorem least_add {g:Gr} {pm:Pt -> Bool} {S:List ByteArray} {R:Rl} (h:∀ C,ClosedS g pm C -> ∀ s ∈ S,s ∈ C) (hR:R ∈ g.rules) (ha:R.parts.any (refF S pm)=false):∀ C,ClosedS g pm C -> ∀ s ∈ S++[R.sort],s ∈ C:=fun C hC s hs=>by
 rcases List.mem_append.1 hs with hs | hs
 .exact h C hC s hs
 .simp at hs; subst hs
  exact hC R hR (refF_mono (h C hC) ha)
set_option maxHeartbeats 4000000 in
theorem grow_c (g:Gr) (fid:FuncId) (pm:Pt -> Bool) {h:AHeap} (hr:g.rules.length <= 2 ^ 31) (hp:∀ R ∈ g.rules,R.parts.length <= 2 ^ 31) (hf:∀ (p:Pt) (H:AHeap),AEx PP Gl fid [encP p] H (.ret (bl (pm p))) H) :
  ACalls PP Gl 74 [aM g,.fn (.func fid) [] []] h (GrowR g pm h):=by
 refine enter_74 (by simp) ?_
 simp -implicitDefEqProofs [code_74,res_74,ann_74,aM]
 refine AWp.scopeJ 0 rfl (fun j env H=>∃ S,j=leftS g S /\ (∀ C,ClosedS g pm C -> ∀ s ∈ S,s ∈ C) /\ EnvLe [(2,(aM g).ip),(5,(AV.mp h.length).ip),(6,.fn (.func 100) [] [(AV.mp h.length).ip,(AV.fn (.func fid) [] []).ip])] env /\ H=h++[.amap (aS bv (aT S))]) ?_ ?_
 .refine aB mixed ?_
  simp -implicitDefEqProofs
  obtain ⟨S,hSd⟩:∃ S:List ByteArray,S=[]:=⟨_,rfl⟩
  have hleast:∀ C,ClosedS g pm C -> ∀ s ∈ S,s ∈ C:=fun C _ s hs=>by rw [hSd] at hs; cases hs
  rw [show ([]:List (AV × AV))=aS bv (aT S) by rw [hSd]; rfl]
  refine AWp.cnt g.rules.length [2,5,6,12,13] (fun i=>[(14,i64 (i:Int))]) (fun _=>h++[.amap (aS bv (aT S))]) (fun i=>DoneV g pm S i) mixed DoneV.zero (aI (by simp [dslot])) rfl (fun i hi hz=>?_) fun hz=>?_
  .obtain ⟨R,hR⟩:∃ R,g.rules[i]?=some R:=⟨g.rules[i],by simp [hi]⟩
   have hlt:(i:Int) < g.rules.length:=by omega
   have hne:g.rules ≠ []:=by intro e; rw [e] at hi; simp at hi
   have wi:IntKind.i64.wrap ((i:Int)+1)=(i:Int)+1:=IntWalk.i64_in _ (by omega)
   have hRm:=List.mem_of_getElem? hR
   by_cases hS:R.sort ∈ S
   .simp -implicitDefEqProofs [lp0_74,hlt,hne,hR,ab,hS,wi]
    exact ⟨hz.step hR (.inl hS),aI (by simp [dslot])⟩
   .simp -implicitDefEqProofs [lp0_74,hlt,hne,hR,ab,hS]
    refine aP (anyP_c R.parts R.cap 100 [] [(AV.mp h.length).ip,(AV.fn (.func fid) [] []).ip] (refF S pm) (hp R hRm) (fun p _=>refused_c p S h.length fid pm (by simp) (hf p _))) rfl rfl ?_
    cases ha:R.parts.any (refF S pm) with
    | true =>
     simp -implicitDefEqProofs [wi]
     exact ⟨hz.step hR (.inr ha),aI (by simp [dslot])⟩
    | false =>
     simp -implicitDefEqProofs [metOf_set S R.sort hS]
     exact ⟨_,S++[R.sort],rfl,least_add hleast hRm ha,aI (by simp [dslot,aM]),rfl⟩
  .simp -implicitDefEqProofs [lp0_74]
   refine bx (v:=.mp h.length) (by simp [deferred,dslot]) (by simp [aN,aK]) ⟨S,⟨hz.all,hleast⟩,rfl,rfl⟩
 .rintro j env H ⟨S,rfl,hleast,hE,rfl⟩
  refine AWp.weaken (aB mixed ?_) hE
  simp -implicitDefEqProofs [aM]
  refine AWp.cnt g.rules.length [2,5,6,12,13] (fun i=>[(14,i64 (i:Int))]) (fun _=>h++[.amap (aS bv (aT S))]) (fun i=>DoneV g pm S i) mixed DoneV.zero (aI (by simp [dslot])) rfl (fun i hi hz=>?_) fun hz=>?_
  .obtain ⟨R,hR⟩:∃ R,g.rules[i]?=some R:=⟨g.rules[i],by simp [hi]⟩
   have hlt:(i:Int) < g.rules.length:=by omega
   have hne:g.rules ≠ []:=by intro e; rw [e] at hi; simp at hi
   have wi:IntKind.i64.wrap ((i:Int)+1)=(i:Int)+1:=IntWalk.i64_in _ (by omega)
   have hRm:=List.mem_of_getElem? hR
   by_cases hS:R.sort ∈ S
   .simp -implicitDefEqProofs [lp0_74,hlt,hne,hR,ab,hS,wi]
    exact ⟨hz.step hR (.inl hS),aI (by simp [dslot])⟩
   .simp -implicitDefEqProofs [lp0_74,hlt,hne,hR,ab,hS]
    refine aP (anyP_c R.parts R.cap 100 [] [(AV.mp h.length).ip,(AV.fn (.func fid) [] []).ip] (refF S pm) (hp R hRm) (fun p _=>refused_c p S h.length fid pm (by simp) (hf p _))) rfl rfl ?_
    cases ha:R.parts.any (refF S pm) with
    | true =>
     simp -implicitDefEqProofs [wi]
     exact ⟨hz.step hR (.inr ha),aI (by simp [dslot])⟩
    | false =>
     simp -implicitDefEqProofs [metOf_set S R.sort hS]
     exact ⟨_,leftS_lt hRm hS,S++[R.sort],rfl,least_add hleast hRm ha,aI (by simp [dslot,aM]),rfl⟩
  .simp -implicitDefEqProofs [lp0_74]
   refine bx (v:=.mp h.length) (by simp [deferred,dslot]) (by simp [aN,aK]) ⟨S,⟨hz.all,hleast⟩,rfl,rfl⟩
end Go.Apx
end
section
namespace Go.Apx
open Go.Proofs
set_option maxRecDepth 4000
abbrev yesP:Pt -> Bool:=fun _=>true
theorem prod1_c (p:Pt) (H:AHeap):AEx PP Gl 76 [encP p] H (.ret (bl (yesP p))) H:=by
 refine enter_76 (by simp) ?_
 simp -implicitDefEqProofs [code_76,res_76,ann_76,encP]
 exact aZ (by simp [deferred,dslot]) rfl rfl rfl
theorem productive_c (g:Gr) {h:AHeap} (hr:g.rules.length <= 2 ^ 31) (hp:∀ R ∈ g.rules,R.parts.length <= 2 ^ 31):ACalls PP Gl 37 [aM g] h (GrowR g yesP h):=by
 refine enter_37 (by simp) ?_
 simp -implicitDefEqProofs [code_37,res_37,ann_37,aM]
 refine be (grow_c g 76 yesP hr hp prod1_c) (by simp [aM]) rfl ?_
 rintro r h' ⟨S,hS,rfl,rfl⟩
 simp -implicitDefEqProofs
 exact bx (v:=.mp h.length) (by simp [deferred,dslot]) (by simp [aN,aK]) ⟨S,hS,rfl,rfl⟩
theorem strip_strs (l:List ByteArray):aj (l.map sv)=l.map sv:=by
 induction l with
 | nil=>rfl
 | cons s l ih=>simp only [List.map_cons,aj,ih]; rfl
theorem inbL_strs (n:Nat) (l:List ByteArray):inbL n (l.map sv)=true:=by
 induction l with
 | nil=>rfl
 | cons s l ih=>simp only [List.map_cons,inbL,ih]; rfl
theorem inb_strs (n:Nat) (l:List ByteArray):(aW 1 (l.map sv)).inb n=true:=by
 unfold aW
 split
 .rename_i e; rw [e]; rfl
 .simp only [AV.inb,inbL_strs]; rfl
def pickS (g:Gr) (S:List ByteArray):List ByteArray:=g.sorts.filter fun s=>decide (s ∈ S)
structure VP where
 i:Nat
 l:List ByteArray
 T:Nat
 H:AHeap
structure VPI (g:Gr) (S:List ByteArray) (o:Nat) (h:AHeap) (st:VP):Prop where
 i:st.i <= g.sorts.length
 l:st.l=(g.sorts.take st.i).filter fun s=>decide (s ∈ S)
 tk:st.l ≠ [] -> st.H[st.T]?=some (.tok st.l.length) /\ h.length <= st.T
 low:Low h.length h st.H
 le:h.length <= st.H.length
set_option maxHeartbeats 4000000 in
theorem picked_c (g:Gr) (S:List ByteArray) (o:Nat) {h:AHeap} (ho:h[o]?=some (.amap (aS bv (aT S)))) (hs:g.sorts.length <= 2 ^ 31) :
  AEx PP Gl 58 [.mp o,aM g] h (.ret (aW 1 ((pickS g S).map sv))) h:=by
 refine enter_58 (by simp) ?_
 simp -implicitDefEqProofs [code_58,res_58,ann_58,aM]
 refine AWp.till (S:=VP) ⟨0,[],0,h⟩ (fun st=>g.sorts.length - st.i) [0,9,10] (fun st=>[(5,apd 1 (st.l.map sv) st.T),(11,i64 (st.i:Int))]) (fun st=>st.H) (VPI g S o h) mixed
  ⟨by simp,by simp,by simp,Low.refl _ _,Nat.le_refl _⟩ (aI (by simp [dslot])) rfl ?_
 rintro ⟨i,l,T,H⟩ ⟨z1,z0,z2,z3,z4⟩
 simp only at z1 z0 z2 z3 z4
 have hol:=ar ho
 have hoH:H[o]?=some (.amap (aS bv (aT S))):=z3 _ _ hol ho
 by_cases hi:i < g.sorts.length
 case neg =>
  have hno:¬ (i:Int) < g.sorts.length:=by omega
  simp -implicitDefEqProofs [lp0_58,hno]
  have hfin:l=pickS g S:=by rw [z0,List.take_of_length_le (by omega)]; rfl
  have hst:(apd 1 (l.map sv) T).strip=aW 1 (l.map sv):=strip_apd 1 _ _ _ (strip_strs l)
  refine retCut (v:=apd 1 (l.map sv) T) h.length (by simp [deferred,dslot]) (by simp [aN,aK]) (Nat.le_refl _) z4 (by rw [hst]; exact inb_strs _ _) z3.cl ?_
  rw [z3.take,hst,hfin]
  exact ⟨rfl,rfl⟩
 obtain ⟨s,hs2⟩:∃ s,g.sorts[i]?=some s:=⟨g.sorts[i],by simp [hi]⟩
 have hlt:(i:Int) < g.sorts.length:=by omega
 have hne:g.sorts ≠ []:=by intro e; rw [e] at hi; simp at hi
 have wi:IntKind.i64.wrap ((i:Int)+1)=(i:Int)+1:=IntWalk.i64_in _ (by omega)
 have htk:(g.sorts.take (i+1)).filter (fun s=>decide (s ∈ S))=l++(if s ∈ S then [s] else []):=by
  rw [List.take_add_one,hs2,List.filter_append,<- z0]
  by_cases e:s ∈ S <;> simp [e]
 by_cases hS:s ∈ S
 .simp -implicitDefEqProofs [lp0_58,hlt,hne,hs2,hoH,hS,sv]
  have hll:l.length <= g.sorts.length:=by rw [z0]; exact Nat.le_trans (List.length_filter_le _ _) (by simp; omega)
  refine appG (l.map sv) [sv s] T (by simp) (by simp [sv]) (fun hne=>by simpa using (z2 (by simpa using hne)).1) (by simp; unfold maxLenA; omega) ?_
  simp -implicitDefEqProofs [wi]
  rw [show l.map sv++[.sc (.string s)]=(l++[s]).map sv by simp [sv]]
  have hT:l.length ≠ 0 -> H[T]?=some (.tok l.length):=fun hn0=>(z2 (by rintro rfl; exact hn0 rfl)).1
  have hlow:Low h.length H (apG H l.length 1 T):=Low.apG (fun hn0=>(z2 (by rintro rfl; exact hn0 rfl)).2) z4
  refine ⟨⟨i+1,l++[s],apT H l.length 1 T,apG H l.length 1 T⟩,by simp; omega,⟨by simp; omega,by simp only; rw [htk,if_pos hS],fun _=>⟨by simp only; rw [apG_tok hT (by omega)]; simp,?_⟩,z3.trans hlow,Nat.le_trans z4 (apG_len H l.length 1 T)⟩,aI (by simp [dslot]),by simp⟩
  simp only; unfold apT
  split
  .omega
  .split
   .exact z4
   .rename_i hn0; exact (z2 (by rintro rfl; exact hn0 rfl)).2
 .simp -implicitDefEqProofs [lp0_58,hlt,hne,hs2,hoH,hS,sv,wi]
  exact ⟨⟨i+1,l,T,H⟩,by simp; omega,⟨by simp; omega,by simp only; rw [htk,if_neg hS]; simp,z2,z3,z4⟩,aI (by simp [dslot]),rfl⟩
def ProdR (g:Gr) (h:AHeap) (r:AEnd) (h':AHeap):Prop:=h'=h /\ ((aO g ≠ 0 /\ r=.ret (.tup [.sl 0 [] .nil,i64 (aO g)])) \/
 (aO g=0 /\ ∃ S,GrowS g yesP S /\ r=.ret (.tup [aW 1 ((pickS g S).map sv),i64 0])))
theorem Productive_c (g:Gr) {h:AHeap} (hs:g.sorts.length <= 2 ^ 31) (hr:g.rules.length <= 2 ^ 31) (hp:∀ R ∈ g.rules,R.parts.length <= 2 ^ 31) (hc:AEx PP Gl 23 [aM g] h (.ret (i64 (aO g))) h) :
  ACalls PP Gl 20 [aM g] h (ProdR g h):=by
 refine enter_20 (by simp) ?_
 simp -implicitDefEqProofs [code_20,res_20,ann_20,aM]
 refine aP hc (by simp [aM]) rfl ?_
 by_cases h1:aO g=0
 case neg =>
  simp -implicitDefEqProofs [h1]
  exact bx (v:=.tup [.sl 0 [] .nil,i64 (aO g)]) (by simp [deferred,dslot]) (by simp [aN,aK]) ⟨rfl,.inl ⟨h1,rfl⟩⟩
 simp -implicitDefEqProofs [h1]
 refine be (productive_c g hr hp) (by simp [aM]) rfl ?_
 rintro r h' ⟨S,hS,rfl,rfl⟩
 simp -implicitDefEqProofs
 refine aP (picked_c g S h.length (by simp) hs) (by simp [aM]) rfl ?_
 simp -implicitDefEqProofs
 have hst:(aW 1 ((pickS g S).map sv)).strip=aW 1 ((pickS g S).map sv):=by
  unfold aW
  split
  .rename_i e; rw [e]; rfl
  .simp only [AV.strip,strip_strs]; rfl
 refine retCut (v:=.tup [aW 1 ((pickS g S).map sv),i64 0]) h.length (by simp [deferred,dslot]) (by simp [aN,aK]) (Nat.le_refl _) (by simp) ?_ (Cl.app h _) ?_
 .simp only [AV.strip,aj,hst,AV.inb,inbL,inb_strs]; rfl
 .simp only [AV.strip,aj,hst,List.take_left]
  exact ⟨rfl,.inr ⟨h1,S,hS,rfl⟩⟩
end Go.Apx
end
section
namespace Go.Apx
open Go.Proofs
set_option maxRecDepth 4000
abbrev noP:Pt -> Bool:=fun _=>false
theorem null1_c (p:Pt) (H:AHeap):AEx PP Gl 75 [encP p] H (.ret (bl (noP p))) H:=by
 refine enter_75 (by simp) ?_
 simp -implicitDefEqProofs [code_75,res_75,ann_75,encP]
 exact aZ (by simp [deferred,dslot]) rfl rfl rfl
theorem nullable_c (g:Gr) {h:AHeap} (hr:g.rules.length <= 2 ^ 31) (hp:∀ R ∈ g.rules,R.parts.length <= 2 ^ 31):ACalls PP Gl 36 [aM g] h (GrowR g noP h):=by
 refine enter_36 (by simp) ?_
 simp -implicitDefEqProofs [code_36,res_36,ann_36,aM]
 refine be (grow_c g 75 noP hr hp null1_c) (by simp [aM]) rfl ?_
 rintro r h' ⟨S,hS,rfl,rfl⟩
 simp -implicitDefEqProofs
 exact bx (v:=.mp h.length) (by simp [deferred,dslot]) (by simp [aN,aK]) ⟨S,hS,rfl,rfl⟩
def NullR (g:Gr) (h:AHeap) (r:AEnd) (h':AHeap):Prop:=h'=h /\ ((aO g ≠ 0 /\ r=.ret (.tup [.sl 0 [] .nil,i64 (aO g)])) \/
 (aO g=0 /\ ∃ S,GrowS g noP S /\ r=.ret (.tup [aW 1 ((pickS g S).map sv),i64 0])))
theorem Nullable_c (g:Gr) {h:AHeap} (hs:g.sorts.length <= 2 ^ 31) (hr:g.rules.length <= 2 ^ 31) (hp:∀ R ∈ g.rules,R.parts.length <= 2 ^ 31) (hc:AEx PP Gl 23 [aM g] h (.ret (i64 (aO g))) h) :
  ACalls PP Gl 19 [aM g] h (NullR g h):=by
 refine enter_19 (by simp) ?_
 simp -implicitDefEqProofs [code_19,res_19,ann_19,aM]
 refine aP hc (by simp [aM]) rfl ?_
 by_cases h1:aO g=0
 case neg =>
  simp -implicitDefEqProofs [h1]
  exact bx (v:=.tup [.sl 0 [] .nil,i64 (aO g)]) (by simp [deferred,dslot]) (by simp [aN,aK]) ⟨rfl,.inl ⟨h1,rfl⟩⟩
 simp -implicitDefEqProofs [h1]
 refine be (nullable_c g hr hp) (by simp [aM]) rfl ?_
 rintro r h' ⟨S,hS,rfl,rfl⟩
 simp -implicitDefEqProofs
 refine aP (picked_c g S h.length (by simp) hs) (by simp [aM]) rfl ?_
 simp -implicitDefEqProofs
 have hst:(aW 1 ((pickS g S).map sv)).strip=aW 1 ((pickS g S).map sv):=by
  unfold aW
  split
  .rename_i e; rw [e]; rfl
  .simp only [AV.strip,strip_strs]; rfl
 refine retCut (v:=.tup [aW 1 ((pickS g S).map sv),i64 0]) h.length (by simp [deferred,dslot]) (by simp [aN,aK]) (Nat.le_refl _) (by simp) ?_ (Cl.app h _) ?_
 .simp only [AV.strip,aj,hst,AV.inb,inbL,inb_strs]; rfl
 .simp only [AV.strip,aj,hst,List.take_left]
  exact ⟨rfl,.inr ⟨h1,S,hS,rfl⟩⟩
end Go.Apx
end
section
namespace Go.Apx
open Go.Proofs
set_option maxRecDepth 4000
theorem same_c (k k':Nat) (a b:List ByteArray) (c c':Cap) (hk:a ≠ [] -> k=1) (hk':b ≠ [] -> k'=1) (hl:a.length <= 2 ^ 31) {h:AHeap}:AEx PP Gl 13 [.sl k (a.map sv) c,.sl k' (b.map sv) c'] h (.ret (.sc (.bool (decide (a=b))))) h:=by
 refine enter_13 (by simp) ?_
 simp [code_13,res_13,ann_13]
 refine ⟨fun he=>?_,fun hne=>?_⟩
 rotate_left
 .exact aZ (by simp [deferred,dslot]) rfl (by
   have:a ≠ b:=by rintro rfl; exact hne rfl
   simp [this]) rfl
 .have he':a.length=b.length:=by omega
  refine AWp.cnt a.length [0,1] (fun i=>[(5,i64 i)]) (fun _=>h) (fun i=>a.take i=b.take i) mixed (by simp) (aI (by simp [dslot])) rfl ?_ ?_
  .intro i hi hz
   obtain ⟨x,hx⟩:∃ x,a[i]?=some x:=⟨a[i],by simp [hi]⟩
   obtain ⟨y,hy⟩:∃ y,b[i]?=some y:=⟨b[i]'(by omega),by simp [show i < b.length by omega]⟩
   have hlt:(i:Int) < a.length:=by omega
   have hne:a ≠ []:=by intro e; rw [e] at hi; simp at hi
   have hne':b ≠ []:=by intro e; rw [e] at hy; simp at hy
   simp [lp0_13,hlt,hx,hy,hk hne,hk' hne',sv]
   refine ⟨fun hxy=>?_,fun hxy=>?_⟩
   rotate_left
   .exact aZ (by simp [deferred,dslot]) rfl (by
     have:a ≠ b:=by rintro rfl; rw [hx] at hy; exact hxy (Option.some.inj hy)
     simp [this]) rfl
   .rw [IntWalk.i64_in ((i:Int)+1) (by omega)]
    refine ⟨?_,aI (by simp [dslot,hk hne,hk' hne'])⟩
    rw [List.take_add_one,List.take_add_one,hz,hx,hy]
    simp [hxy]
  .intro hz
   simp [lp0_13]
   exact aZ (by simp [deferred,dslot]) rfl (by
    rw [List.take_length,he',List.take_length] at hz
    simp [hz]) rfl
def aU (g:Gr) (s:ByteArray):Int:=if aO g ≠ 0 then aO g else if bU g.sorts s=true then 0 else 5
theorem sorted_c (g:Gr) (s:ByteArray) {h:AHeap} (hs:g.sorts.length <= 2 ^ 31) (hc:AEx PP Gl 23 [aM g] h (.ret (i64 (aO g))) h) :
  AEx PP Gl 35 [aM g,.sc (.string s)] h (.ret (i64 (aU g s))) h:=by
 refine enter_35 (by simp) ?_
 simp -implicitDefEqProofs [code_35,res_35,ann_35,aM]
 refine aP hc (by simp [aM]) rfl ?_
 by_cases h1:aO g=0
 case neg =>
  simp -implicitDefEqProofs [h1]
  exact aZ (by simp [deferred,dslot]) rfl (by simp [aU,h1]) rfl
 simp -implicitDefEqProofs [h1]
 refine aP (contains_c g.sorts g.sc s hs) rfl rfl ?_
 cases h2:bU g.sorts s with
 | true =>
  simp -implicitDefEqProofs
  exact aZ (by simp [deferred,dslot]) rfl (by simp [aU,h1,h2]) rfl
 | false =>
  simp -implicitDefEqProofs
  exact aZ (by simp [deferred,dslot]) rfl (by simp [aU,h1,h2]) rfl
theorem rsorted_c (g:Gr) (s:ByteArray) {h:AHeap} (hs:g.sorts.length <= 2 ^ 31) (hr:g.rules.length <= 2 ^ 31) :
  AEx PP Gl 45 [aM g,.sc (.string s)] h (.ret (i64 (aU g s))) h:=by
 refine enter_45 (by simp) ?_
 simp -implicitDefEqProofs [code_45,res_45,ann_45,aM]
 refine aP (rcheck_c g hs hr) (by simp [aM]) rfl ?_
 by_cases h1:aO g=0
 case neg =>
  simp -implicitDefEqProofs [h1]
  exact aZ (by simp [deferred,dslot]) rfl (by simp [aU,h1]) rfl
 simp -implicitDefEqProofs [h1]
 refine aP (bp g.sorts g.sc s hs) rfl rfl ?_
 cases h2:bU g.sorts s with
 | true =>
  have h3:¬ aw g.sorts s < 0:=by unfold bU at h2; simpa using h2
  simp -implicitDefEqProofs [h3]
  exact aZ (by simp [deferred,dslot]) rfl (by simp [aU,h1,h2]) rfl
 | false =>
  have h3:aw g.sorts s < 0:=by unfold bU at h2; simpa using h2
  simp -implicitDefEqProofs [h3]
  exact aZ (by simp [deferred,dslot]) rfl (by simp [aU,h1,h2]) rfl
end Go.Apx
end
section
namespace Go.Apx
open Go.Proofs
set_option maxRecDepth 4000
def farI:Int:=1000001
def lenAt (g:Gr) (M:List Int) (s:ByteArray):Int:=M.getD (aw g.sorts s).toNat 0
def stepP (g:Gr) (M:List Int) (n:Int) (p:Pt):Int:=min (n+if p.sort=emp then 1 else lenAt g M p.sort) farI
def ruleN (g:Gr) (M:List Int) (r:Rl):Int:=r.parts.foldl (stepP g M) 0
def bP (g:Gr) (x:List Int × Bool) (r:Rl):List Int × Bool :=
 if ruleN g x.1 r < lenAt g x.1 r.sort then (x.1.set (aw g.sorts r.sort).toNat (ruleN g x.1 r),true) else x
def roundL (g:Gr) (M:List Int):List Int × Bool:=g.rules.foldl (bP g) (M,false)
def iterL (g:Gr):Nat -> List Int
 | 0=>g.sorts.map fun _=>farI
 | k+1=>(roundL g (iterL g k)).1
def LensR (g:Gr) (M:List Int):Prop:=(∃ k,M=iterL g k) /\ (roundL g M).2=false
theorem rounds_true (g:Gr):∀ (l:List Rl) (x:List Int × Bool),x.2=true -> (l.foldl (bP g) x).2=true
 | [],x,h=>h
 | r :: l,x,h=>by
  rw [List.foldl_cons]
  refine rounds_true g l _ ?_
  unfold bP
  split
  .rfl
  .exact h
theorem rounds_same (g:Gr):∀ (l:List Rl) (x:List Int × Bool),(l.foldl (bP g) x).2=false -> l.foldl (bP g) x=x
 | [],x,_=>rfl
 | r :: l,x,h=>by
  rw [List.foldl_cons] at h ⊢
  have h1:bP g x r=x:=by
   by_cases hlt:ruleN g x.1 r < lenAt g x.1 r.sort
   .have e:bP g x r=(x.1.set (aw g.sorts r.sort).toNat (ruleN g x.1 r),true):=by unfold bP; rw [if_pos hlt]
    rw [e,rounds_true g l _ rfl] at h
    cases h
   .unfold bP; rw [if_neg hlt]
  rw [h1] at h ⊢
  exact rounds_same g l x h
theorem round_same {g:Gr} {M:List Int} (h:(roundL g M).2=false):(roundL g M).1=M:=by
 have:=rounds_same g g.rules (M,false) h
 unfold roundL
 rw [this]
theorem iter_stays {g:Gr} {k:Nat} (h:(roundL g (iterL g k)).2=false):∀ j,iterL g (k+j)=iterL g k
 | 0=>rfl
 | j+1=>by
  show (roundL g (iterL g (k+j))).1=_
  rw [iter_stays h j]
  exact round_same h
theorem LensR.eq {g:Gr} {M N:List Int} (h:LensR g M) (h':LensR g N):M=N:=by
 obtain ⟨⟨k,rfl⟩,h1⟩:=h
 obtain ⟨⟨j,rfl⟩,h2⟩:=h'
 rcases Nat.le_total k j with hkj | hkj
 .obtain ⟨d,rfl⟩:=Nat.exists_eq_add_of_le hkj
  exact (iter_stays h1 d).symm
 .obtain ⟨d,rfl⟩:=Nat.exists_eq_add_of_le hkj
  exact iter_stays h2 d
def LenOk (g:Gr) (M:List Int):Prop:=M.length=g.sorts.length /\ ∀ x ∈ M,0 <= x /\ x <= farI
theorem lenAt_ok {g:Gr} {M:List Int} (h:LenOk g M) (s:ByteArray):0 <= lenAt g M s /\ lenAt g M s <= farI:=by
 unfold lenAt
 rw [List.getD_eq_getElem?_getD]
 cases e:M[(aw g.sorts s).toNat]? with
 | none=>simp [farI]
 | some x=>exact h.2 x (List.mem_of_getElem? e)
theorem stepP_ok {g:Gr} {M:List Int} (h:LenOk g M) {n:Int} (hn:0 <= n /\ n <= farI) (p:Pt):0 <= stepP g M n p /\ stepP g M n p <= farI:=by
 have:=lenAt_ok h p.sort
 unfold stepP
 unfold farI at *
 split <;> omega
theorem fold_ok {g:Gr} {M:List Int} (h:LenOk g M):∀ (l:List Pt) (n:Int),(0 <= n /\ n <= farI) -> 0 <= l.foldl (stepP g M) n /\ l.foldl (stepP g M) n <= farI
 | [],n,hn=>hn
 | p :: l,n,hn=>fold_ok h l _ (stepP_ok h hn p)
theorem ruleN_ok {g:Gr} {M:List Int} (h:LenOk g M) (r:Rl):0 <= ruleN g M r /\ ruleN g M r <= farI:=fold_ok h r.parts 0 (by unfold farI; omega)
theorem LenOk.set {g:Gr} {M:List Int} (h:LenOk g M) (i:Nat) {n:Int} (hn:0 <= n /\ n <= farI):LenOk g (M.set i n):=by
 refine ⟨by simp [h.1],fun x hx=>?_⟩
 rcases List.mem_or_eq_of_mem_set hx with hx | rfl
 .exact h.2 x hx
 .exact hn
theorem roundS_ok {g:Gr} {x:List Int × Bool} (h:LenOk g x.1) (r:Rl):LenOk g (bP g x r).1:=by
 unfold bP
 split
 .exact h.set _ (ruleN_ok h r)
 .exact h
theorem LenOk.zero (g:Gr):LenOk g (iterL g 0):=⟨by simp [iterL],fun x hx=>by
 simp only [iterL,List.mem_map] at hx
 obtain ⟨_,_,rfl⟩:=hx
 unfold farI; omega⟩
def wgt (M:List Int):Nat:=(M.map Int.toNat).sum
theorem wgt_set:∀ (M:List Int) (i:Nat) (n x:Int),M[i]?=some x -> 0 <= n -> n < x -> wgt (M.set i n) < wgt M
 | [],i,n,x,h,_,_=>by simp at h
 | y :: M,0,n,x,h,h0,hlt=>by
  simp at h; subst h
  simp only [List.set_cons_zero,wgt,List.map_cons,List.sum_cons]
  omega
 | y :: M,i+1,n,x,h,h0,hlt=>by
  have:=wgt_set M i n x (by simpa using h) h0 hlt
  simp only [List.set_cons_succ,wgt,List.map_cons,List.sum_cons] at this ⊢
  omega
theorem roundS_wgt {g:Gr} {x:List Int × Bool} (h:LenOk g x.1) (r:Rl):wgt (bP g x r).1 <= wgt x.1 /\ (ruleN g x.1 r < lenAt g x.1 r.sort -> wgt (bP g x r).1 < wgt x.1):=by
 unfold bP
 by_cases hlt:ruleN g x.1 r < lenAt g x.1 r.sort
 .rw [if_pos hlt]
  have hn:=ruleN_ok h r
  have:wgt (x.1.set (aw g.sorts r.sort).toNat (ruleN g x.1 r)) < wgt x.1:=by
   unfold lenAt at hlt
   rw [List.getD_eq_getElem?_getD] at hlt
   cases e:x.1[(aw g.sorts r.sort).toNat]? with
   | none=>rw [e] at hlt; simp at hlt; omega
   | some y=>rw [e] at hlt; exact wgt_set _ _ _ y e hn.1 (by simpa using hlt)
  exact ⟨Nat.le_of_lt this,fun _=>this⟩
 .rw [if_neg hlt]
  exact ⟨Nat.le_refl _,fun h=>(hlt h).elim⟩
end Go.Apx
end
section
namespace Go.Apx
open Go.Proofs
set_option maxRecDepth 4000
theorem zip_find {α:Type} (s:ByteArray):∀ (l:List ByteArray) (M:List α),l.length=M.length -> bF (l.zip M) s=(l.findIdx? (fun x=>decide (x=s))).bind fun i=>M[i]?
 | [],M,_=>by simp [bF]
 | k :: r,[],h=>by simp at h
 | k :: r,m :: M,h=>by
  have ih:=zip_find s r M (by simpa using h)
  simp only [List.zip_cons_cons,bF,List.findIdx?_cons]
  by_cases e:k=s
  .subst e; simp
  .rw [if_neg (fun x=>e x.symm),ih]
   simp only [e,decide_false,Bool.false_eq_true,if_false]
   cases r.findIdx? (fun x=>decide (x=s)) <;> simp
theorem zip_set {α:Type} (s:ByteArray) (n:α):∀ (l:List ByteArray) (M:List α),l.length=M.length -> ∀ i,l.findIdx? (fun x=>decide (x=s))=some i -> bE (l.zip M) s n=l.zip (M.set i n)
 | [],M,_,i,hi=>by simp at hi
 | k :: r,[],h,_,_=>by simp at h
 | k :: r,m :: M,h,i,hi=>by
  simp only [List.zip_cons_cons,bE]
  simp only [List.findIdx?_cons] at hi
  by_cases e:k=s
  .subst e
   simp at hi; subst hi
   simp
  .rw [if_neg (fun x=>e x.symm)]
   simp only [e,decide_false,Bool.false_eq_true,if_false,Option.map_eq_some_iff] at hi
   obtain ⟨j,hj,rfl⟩:=hi
   rw [zip_set s n r M (by simpa using h) j hj]
   simp
theorem ai {l:List ByteArray} {s:ByteArray} (h:bU l s=true):∃ i:Nat,l.findIdx? (fun x=>decide (x=s))=some i /\ aw l s=i /\ i < l.length:=by
 unfold bU aw placeF at h
 cases e:l.findIdx? (fun x=>decide (x=s)) with
 | none=>rw [e] at h; simp at h
 | some i =>
  refine ⟨i,rfl,?_,?_⟩
  .unfold aw placeF; rw [e]
  .exact (List.findIdx?_eq_some_iff_getElem.1 e).1
def lmap (g:Gr) (M:List Int):List (ByteArray × Int):=g.sorts.zip M
theorem lmap_find {g:Gr} {M:List Int} (h:M.length=g.sorts.length) {s:ByteArray} (hs:bU g.sorts s=true):bF (lmap g M) s=some (lenAt g M s):=by
 obtain ⟨i,h1,h2,h3⟩:=ai hs
 unfold lmap lenAt
 rw [zip_find s _ _ h.symm,h1,h2]
 simp [h,h3]
theorem lmap_set {g:Gr} {M:List Int} (h:M.length=g.sorts.length) {s:ByteArray} (hs:bU g.sorts s=true) (n:Int):bE (lmap g M) s n=lmap g (M.set (aw g.sorts s).toNat n):=by
 obtain ⟨i,h1,h2,h3⟩:=ai hs
 unfold lmap
 rw [zip_set s n _ _ h.symm i h1,h2]
 rfl
end Go.Apx
end
section
namespace Go.Apx
open Go.Proofs
set_option maxRecDepth 4000
def bA (g:Gr):Prop:=∀ r ∈ g.rules,bU g.sorts r.sort=true /\ ∀ p ∈ r.parts,p.sort ≠ emp -> bU g.sorts p.sort=true
theorem fold_take {α β:Type} (f:β -> α -> β) (b:β) {l:List α} {i:Nat} {x:α} (h:l[i]?=some x):(l.take (i+1)).foldl f b=f ((l.take i).foldl f b) x:=by
 rw [List.take_add_one,h,List.foldl_append]; rfl
theorem fold_len {g:Gr} {M:List Int} (h:LenOk g M):∀ (l:List Rl) (x:List Int × Bool),LenOk g x.1 -> LenOk g (l.foldl (bP g) x).1
 | [],x,hx=>hx
 | r :: l,x,hx=>fold_len h l _ (roundS_ok hx r)
theorem rounds_wgt {g:Gr}:∀ (l:List Rl) (x:List Int × Bool),LenOk g x.1 -> wgt (l.foldl (bP g) x).1 <= wgt x.1 /\ (x.2=false -> (l.foldl (bP g) x).2=true -> wgt (l.foldl (bP g) x).1 < wgt x.1)
 | [],x,_=>⟨Nat.le_refl _,fun h h'=>by rw [List.foldl_nil,h] at h'; cases h'⟩
 | r :: l,x,hx=>by
  rw [List.foldl_cons]
  obtain ⟨h1,h2⟩:=roundS_wgt hx r
  obtain ⟨h3,h4⟩:=rounds_wgt l (bP g x r) (roundS_ok hx r)
  refine ⟨Nat.le_trans h3 h1,fun he ht=>?_⟩
  by_cases hlt:ruleN g x.1 r < lenAt g x.1 r.sort
  .exact Nat.lt_of_le_of_lt h3 (h2 hlt)
  .have e:bP g x r=x:=by unfold bP; rw [if_neg hlt]
   rw [e] at h4 ht ⊢
   exact h4 he ht
theorem round_wgt {g:Gr} {M:List Int} (h:LenOk g M) (ht:(roundL g M).2=true):wgt (roundL g M).1 < wgt M:=(rounds_wgt g.rules (M,false) h).2 rfl ht
theorem sfind_out (x:Int) {s:ByteArray}:∀ {l:List ByteArray},s ∉ l -> bF (l.map fun s=>(s,x)) s=none
 | [],_=>rfl
 | k :: l,h=>by
  simp only [List.mem_cons,not_or] at h
  simp only [List.map_cons,bF]
  rw [if_neg h.1]
  exact sfind_out x h.2
theorem init_step {l:List ByteArray} (hnd:l.Nodup) {i:Nat} {s:ByteArray} (hs:l[i]?=some s):bE ((l.take i).map fun s=>(s,farI)) s farI=(l.take (i+1)).map fun s=>(s,farI):=by
 have hno:s ∉ l.take i:=by
  intro hm
  obtain ⟨j,hj,e⟩:=List.mem_iff_getElem.1 hm
  have hi:=(List.getElem?_eq_some_iff.1 hs).1
  simp at hj
  rw [List.getElem_take] at e
  have e2:l[i]=s:=(List.getElem?_eq_some_iff.1 hs).2
  exact List.pairwise_iff_getElem.1 hnd j i (by omega) hi (by omega) (e.trans e2.symm)
 rw [sset_none _ _ _ (sfind_out farI hno),List.take_add_one,hs]
 simp
theorem init_all (l:List ByteArray):(l.map fun s=>(s,farI))=l.zip (l.map fun _=>farI):=by
 induction l with
 | nil=>rfl
 | cons a l ih=>simp [ih]
structure LSt where
 M:List Int
 more:Bool
structure LInv (g:Gr) (s:LSt):Prop where
 it:∃ k,s.M=iterL g k
 ok:LenOk g s.M
 fix:s.more=false -> (roundL g s.M).2=false
abbrev lH (g:Gr) (h:AHeap) (M:List Int):AHeap:=h++[.amap (aS iv (lmap g M))]
set_option maxHeartbeats 4000000 in
theorem lengths_c (g:Gr) {h:AHeap} (hnd:g.sorts.Nodup) (hin:bA g) (hs:g.sorts.length <= 2 ^ 31) (hr:g.rules.length <= 2 ^ 31) (hp:∀ R ∈ g.rules,R.parts.length <= 2 ^ 31) :
  ACalls PP Gl 48 [aM g] h (fun r h'=>∃ M,LensR g M /\ LenOk g M /\ r=.ret (.mp h.length) /\ h'=lH g h M):=by
 refine enter_48 (by simp) ?_
 simp -implicitDefEqProofs [code_48,res_48,ann_48,aM]
 rw [show ([]:List (AV × AV))=aS iv ((g.sorts.take 0).map fun s=>(s,farI)) from rfl]
 refine AWp.cnt g.sorts.length [1,3,15,16] (fun i=>[(17,i64 (i:Int))]) (fun i=>h++[.amap (aS iv ((g.sorts.take i).map fun s=>(s,farI)))]) (fun i=>True) mixed trivial (aI (by simp [dslot])) rfl (fun i hi hz=>?_) fun hz=>?_
 .obtain ⟨s,hsi⟩:∃ s,g.sorts[i]?=some s:=⟨g.sorts[i],by simp [hi]⟩
  have hlt:(i:Int) < g.sorts.length:=by omega
  have hne:g.sorts ≠ []:=by intro e; rw [e] at hi; simp at hi
  have wi:IntKind.i64.wrap ((i:Int)+1)=(i:Int)+1:=IntWalk.i64_in _ (by omega)
  simp -implicitDefEqProofs [lp0_48,hlt,hne,hsi,sv,wi]
  refine ⟨aI (by simp [dslot]),?_⟩
  rw [<- List.map_take,<- List.map_take]
  exact congrArg _ (init_step hnd hsi)
 .simp -implicitDefEqProofs [lp0_48]
  rw [init_all]
  refine AWp.till (S:=LSt) ⟨iterL g 0,true⟩ (fun s=>2 * wgt s.M+if s.more then 1 else 0) [1,3] (fun s=>[(6,.sc (.bool s.more))]) (fun s=>lH g h s.M) (LInv g) mixed ⟨⟨0,rfl⟩,LenOk.zero g,fun e=>by cases e⟩ (aI (by simp [dslot])) rfl ?_
  rintro ⟨M,more⟩ ⟨⟨k,hk⟩,hok,hfix⟩
  simp only at hk hok hfix
  cases more with
  | false =>
   simp -implicitDefEqProofs [lp1_48]
   exact bx (v:=.mp h.length) (by simp [deferred,dslot]) (by simp [aN,aK]) ⟨M,⟨⟨k,hk⟩,hfix rfl⟩,hok,rfl,rfl⟩
  | true =>
   simp -implicitDefEqProofs [lp1_48]
   obtain ⟨X,hX⟩:∃ X:Nat -> List Int × Bool,∀ i,X i=(g.rules.take i).foldl (bP g) (M,false):=⟨_,fun _=>rfl⟩
   have hX0:X 0=(M,false):=by rw [hX]; rfl
   have hXok:∀ i,LenOk g (X i).1:=fun i=>by rw [hX]; exact fold_len hok _ _ hok
   refine AWp.cnt g.rules.length [1,3,26,27] (fun i=>[(6,.sc (.bool (X i).2)),(28,i64 (i:Int))]) (fun i=>lH g h (X i).1) (fun i=>True) mixed trivial (by rw [hX0]; exact aI (by simp [dslot])) (by rw [hX0]) (fun i hi hz=>?_) fun hz=>?_
   .obtain ⟨R,hR⟩:∃ R,g.rules[i]?=some R:=⟨g.rules[i],by simp [hi]⟩
    have hlt:(i:Int) < g.rules.length:=by omega
    have hne:g.rules ≠ []:=by intro e; rw [e] at hi; simp at hi
    have wi:IntKind.i64.wrap ((i:Int)+1)=(i:Int)+1:=IntWalk.i64_in _ (by omega)
    have hXs:X (i+1)=bP g (X i) R:=by rw [hX,hX,fold_take _ _ hR]
    have hRm:=List.mem_of_getElem? hR
    have hok1:=hXok i
    rw [hXs]
    generalize X i=x at hok1
    obtain ⟨N,b⟩:=x
    simp only at hok1
    simp -implicitDefEqProofs [lp2_48,hlt,hne,hR,ab]
    refine AWp.cnt R.parts.length [1,3,6,8,26,27,28,33,34] (fun j=>[(9,i64 ((R.parts.take j).foldl (stepP g N) 0)),(35,i64 (j:Int))]) (fun _=>lH g h N) (fun j=>True) mixed trivial (aI (by simp [dslot])) rfl (fun j hj hz2=>?_) fun hz2=>?_
    .obtain ⟨p,hpj⟩:∃ p,R.parts[j]?=some p:=⟨R.parts[j],by simp [hj]⟩
     have hlt2:(j:Int) < R.parts.length:=by omega
     have hne2:R.parts ≠ []:=by intro e; rw [e] at hj; simp at hj
     have hpl:=hp R hRm
     have wj:IntKind.i64.wrap ((j:Int)+1)=(j:Int)+1:=IntWalk.i64_in _ (by omega)
     have hst:=fold_take (stepP g N) 0 hpj
     have hn:=fold_ok hok1 (R.parts.take j) 0 (by unfold farI; omega)
     generalize (R.parts.take j).foldl (stepP g N) 0=n at hn hst
     by_cases e:p.sort=emp
     .simp -implicitDefEqProofs [lp3_48,hlt2,hne2,hpj,encP,e,emp,wj]
      have w1:IntKind.i64.wrap (n+1)=n+1:=IntWalk.i64_in _ (by unfold farI at hn; omega)
      have hs1:stepP g N n p=if 1000001 < n+1 then 1000001 else n+1:=by unfold stepP farI; rw [if_pos e]; split <;> omega
      rw [hst,w1,hs1]
      exact aI (by simp [dslot])
     .have e':¬ p.sort=(⟨#[]⟩:ByteArray):=e
      have hla:=lenAt_ok hok1 p.sort
      simp -implicitDefEqProofs [lp3_48,hlt2,hne2,hpj,encP,e',wj,lmap_find hok1.1 ((hin R hRm).2 p (List.mem_of_getElem? hpj) e)]
      have w1:IntKind.i64.wrap (n+lenAt g N p.sort)=n+lenAt g N p.sort:=IntWalk.i64_in _ (by unfold farI at hn hla; omega)
      have hs1:stepP g N n p=if 1000001 < n+lenAt g N p.sort then 1000001 else n+lenAt g N p.sort:=by unfold stepP farI; rw [if_neg e]; split <;> omega
      rw [hst,w1,hs1]
      exact aI (by simp [dslot])
    .simp -implicitDefEqProofs [lp3_48,lmap_find hok1.1 (hin R hRm).1,lmap_set hok1.1 (hin R hRm).1,wi]
     refine ⟨fun hlt3=>?_,fun hlt3=>?_⟩
     .have hrs:bP g (N,b) R=(N.set (aw g.sorts R.sort).toNat (R.parts.foldl (stepP g N) 0),true):=by unfold bP ruleN; rw [if_pos hlt3]
      rw [hrs]
      exact ⟨aI (by simp [dslot]),rfl⟩
     .have hrs:bP g (N,b) R=(N,b):=by unfold bP ruleN; rw [if_neg (by simpa using hlt3)]
      rw [hrs]
      first
       | exact ⟨aI (by simp [dslot]),rfl⟩
       | exact aI (by simp [dslot])
   .simp -implicitDefEqProofs [lp2_48]
    have hfin:X g.rules.length=roundL g M:=by rw [hX,List.take_length]; rfl
    have hok2:=hXok g.rules.length
    rw [hfin] at hok2 ⊢
    refine ⟨⟨(roundL g M).1,(roundL g M).2⟩,?_,⟨⟨k+1,by simp only; rw [hk]; rfl⟩,hok2,fun e=>?_⟩,aI (by simp [dslot]),rfl⟩
    .simp only
     cases e:(roundL g M).2 with
     | false=>rw [round_same e]; simp
     | true=>have:=round_wgt hok e; simp; omega
    .simp only at e ⊢
     rw [round_same e]; exact e
end Go.Apx
end
section
namespace Go.Apx
open Go.Proofs
set_option maxRecDepth 4000
def leastV (n:Int):AV:=if n=farI then .tup [i64 0,i64 15] else .tup [i64 n,i64 0]
def LeastR (g:Gr) (s:ByteArray) (h:AHeap) (r:AEnd) (h':AHeap):Prop:=h'=h /\ ((aU g s ≠ 0 /\ r=.ret (.tup [i64 0,i64 (aU g s)])) \/
 (aU g s=0 /\ ∃ S,GrowS g yesP S /\ ((s ∉ S /\ r=.ret (.tup [i64 0,i64 5])) \/ (s ∈ S /\ ∃ M,LensR g M /\ LenOk g M /\ r=.ret (leastV (lenAt g M s))))))
set_option maxHeartbeats 4000000 in
theorem Least_c (g:Gr) (s:ByteArray) {h:AHeap} (hnd:g.sorts.Nodup) (hin:aO g=0 -> bA g) (hs:g.sorts.length <= 2 ^ 31) (hr:g.rules.length <= 2 ^ 31) (hp:∀ R ∈ g.rules,R.parts.length <= 2 ^ 31) (hc:AEx PP Gl 23 [aM g] h (.ret (i64 (aO g))) h) :
  ACalls PP Gl 14 [aM g,.sc (.string s)] h (LeastR g s h):=by
 refine enter_14 (by simp) ?_
 simp -implicitDefEqProofs [code_14,res_14,ann_14,aM]
 refine aP (sorted_c g s hs hc) (by simp [aM]) rfl ?_
 by_cases h1:aU g s=0
 case neg =>
  simp -implicitDefEqProofs [h1]
  exact bx (v:=.tup [i64 0,i64 (aU g s)]) (by simp [deferred,dslot]) (by simp [aN,aK]) ⟨rfl,.inl ⟨h1,rfl⟩⟩
 simp -implicitDefEqProofs [h1]
 refine be (productive_c g hr hp) (by simp [aM]) rfl ?_
 rintro r h' ⟨S,hS,rfl,rfl⟩
 by_cases hm:s ∈ S
 case neg =>
  simp -implicitDefEqProofs [hm]
  refine retCut (v:=.tup [i64 0,i64 5]) h.length (by simp [deferred,dslot]) (by simp [aN,aK]) (Nat.le_refl _) (by simp) rfl (Cl.app h _) ?_
  simp only [AV.strip,aj,List.take_left]
  exact ⟨rfl,.inr ⟨h1,S,hS,.inl ⟨hm,rfl⟩⟩⟩
 simp -implicitDefEqProofs [hm]
 have hck:aO g=0:=by
  by_cases e:aO g=0
  .exact e
  .unfold aU at h1; rw [if_pos e] at h1; exact h1
 have hhas:bU g.sorts s=true:=by
  unfold aU at h1
  rw [if_neg (by simpa using hck)] at h1
  cases e:bU g.sorts s with
  | true=>rfl
  | false=>rw [e] at h1; simp at h1
 refine be (lengths_c g hnd (hin hck) hs hr hp) (by simp [aM]) rfl ?_
 rintro r h' ⟨M,hM,hok,rfl,rfl⟩
 by_cases hf:lenAt g M s=1000001
 .simp -implicitDefEqProofs [lmap_find hok.1 hhas,hf]
  refine retCut (v:=.tup [i64 0,i64 15]) h.length (by simp [deferred,dslot]) (by simp [aN,aK]) (Nat.le_refl _) (by simp) rfl (Cl.app h _) ?_
  simp only [AV.strip,aj,List.append_assoc,List.take_left]
  exact ⟨rfl,.inr ⟨h1,S,hS,.inr ⟨hm,M,hM,hok,by unfold leastV farI; rw [if_pos hf]⟩⟩⟩
 .simp -implicitDefEqProofs [lmap_find hok.1 hhas,hf]
  refine retCut (v:=.tup [i64 (lenAt g M s),i64 0]) h.length (by simp [deferred,dslot]) (by simp [aN,aK]) (Nat.le_refl _) (by simp) rfl (Cl.app h _) ?_
  simp only [AV.strip,aj,List.append_assoc,List.take_left]
  exact ⟨rfl,.inr ⟨h1,S,hS,.inr ⟨hm,M,hM,hok,by unfold leastV farI; rw [if_neg hf]⟩⟩⟩
end Go.Apx
end
