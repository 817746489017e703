/- What a checked grammar is; forests as values. -/
import Derived.Test.YtldhfkfncgnbmaaGreatPD
section
namespace Go.Apx
open Go.Proofs
set_option linter.unusedVariables false
set_option linter.unusedSimpArgs false
set_option linter.unnecessarySimpa false
set_option maxRecDepth 4000
theorem check_names {g : Gr} (h : checkF g = 0) : ∀ s ∈ g.sorts,okName s = true:=by
 unfold checkF at h
 split at h
 ·omega
 ·split at h
  ·omega
  ·split at h
   ·rename_i c3
    intro s hs
    obtain ⟨i,hi⟩:=List.getElem?_of_mem hs
    have:=allIdx_iff.1 c3 i s hi
    simp only [nameOkF,Bool.and_eq_true] at this
    exact this.1
   ·omega
theorem has_mem {l : List ByteArray} {s : ByteArray} (h : hasF l s = true) : s ∈ l:=by
 unfold hasF indexF placeF at h
 cases hf : l.findIdx? (fun x=>decide (x = s)) with
 | none=>rw [hf] at h; simp at h
 | some i =>
  obtain ⟨h1,h2,_⟩:=List.findIdx?_eq_some_iff_getElem.1 hf
  have h3 : l[i] = s:=by simpa using h2
  rw [← h3]; exact List.getElem_mem h1
theorem mem_has {l : List ByteArray} {s : ByteArray} (h : s ∈ l) : hasF l s = true:=by
 obtain ⟨x,hx,_⟩:=index_of h
 unfold hasF
 rw [hx]; simp
theorem check_rule {g : Gr} (h : checkF g = 0) : ∀ R ∈ g.rules,R.sort ∈ g.sorts ∧ (∀ p ∈ R.parts,partF g p = true) ∧ onceF R.parts = true:=by
 intro R hR
 obtain ⟨i,hi⟩:=List.getElem?_of_mem hR
 have:=(check_ok h).2.2 i R hi
 simp only [ruleOkF,rruleF,Bool.and_eq_true,List.all_eq_true] at this
 refine ⟨?_,this.1.1.1.2,this.1.1.2⟩
 exact has_mem this.1.1.1.1.2
theorem check_named {g : Gr} (h : checkF g = 0) : Named g:=fun R hR=>by
 obtain ⟨h1,h2,h3⟩:=check_rule h R hR
 refine ⟨h1,fun p hp hs=>?_⟩
 have:=h2 p hp
 unfold partF at this
 rw [if_neg hs] at this
 simp only [Bool.and_eq_true] at this
 exact has_mem this.2
theorem check_sorts {g : Gr} (h : checkF g = 0) : ∀ R ∈ g.rules,R.sort ≠ emp:=fun R hR e=>by
 have:=check_names h R.sort (check_rule h R hR).1
 rw [e] at this
 simp [okName,emp] at this
def wayV (w : Nat × List Nat) : AV:=.agg [i64 (w.1 : Int),grown 1 (i64s w.2)]
def nodeV (x : Sp × List (Nat × List Nat)) : AV:=.agg [.sc (.string x.1.s),i64 (x.1.i : Int),i64 (x.1.j : Int),grown 2 (x.2.map wayV)]
def forestV (l : List (Sp × List (Nat × List Nat))) : AV:=.agg [grown 4 (l.map nodeV)]
theorem strip_apd (k : Nat) (es es' : List AV) (T : Nat) (h : stripL es = es') : (apd k es T).strip = grown k es':=by
 subst h
 cases es with
 | nil=>rfl
 | cons a es=>simp only [apd_cons,AV.strip]; rfl
theorem Low.cl {h H : AHeap} (hl : Low h.length h H) : Cl h H h.length:=by
 intro i o hi ho
 have : h[i]? = some h[i]:=by simp [hi]
 have h2:=hl i h[i] hi this
 rw [ho] at h2
 left
 rw [← h2] at this
 exact this
theorem Low.take {h H : AHeap} (hl : Low h.length h H) : H.take h.length = h:=by
 refine List.ext_getElem? fun i=>?_
 by_cases hi : i < h.length
 ·rw [List.getElem?_take,if_pos hi,hl i h[i] hi (by simp [hi])]; simp [hi]
 ·rw [List.getElem?_take,if_neg hi,List.getElem?_eq_none (by omega)]
end Go.Apx
end
section
namespace Go.Apx
open Go.Proofs
set_option linter.unusedVariables false
set_option linter.unusedSimpArgs false
set_option linter.unnecessarySimpa false
set_option maxRecDepth 4000
def refF (S : List ByteArray) (pm : Pt → Bool) (p : Pt) : Bool:=if p.sort = emp then !pm p else !decide (p.sort ∈ S)
def ClosedS (g : Gr) (pm : Pt → Bool) (S : List ByteArray) : Prop:=∀ R ∈ g.rules,R.parts.any (refF S pm) = false → R.sort ∈ S
structure GrowS (g : Gr) (pm : Pt → Bool) (S : List ByteArray) : Prop where
 closed : ClosedS g pm S
 least : ∀ C : List ByteArray,ClosedS g pm C → ∀ s ∈ S,s ∈ C
theorem refF_mono {S C : List ByteArray} {pm : Pt → Bool} (h : ∀ s ∈ S,s ∈ C) {ps : List Pt} (hr : ps.any (refF S pm) = false) : ps.any (refF C pm) = false:=by
 rw [List.any_eq_false] at hr ⊢
 intro p hp hc
 have:=hr p hp
 unfold refF at this hc
 by_cases e : p.sort = emp
 ·rw [if_pos e] at this hc; exact this hc
 ·rw [if_neg e] at this hc
  simp at this hc
  exact hc (h _ this)
def leftS (g : Gr) (S : List ByteArray) : Nat:=(g.rules.filter fun R=>!decide (R.sort ∈ S)).length
theorem leftS_lt {g : Gr} {S : List ByteArray} {R : Rl} (hR : R ∈ g.rules) (hS : R.sort ∉ S) : leftS g (S ++ [R.sort]) < leftS g S:=by
 unfold leftS
 have key : ∀ l : List Rl,R ∈ l → (l.filter fun x=>!decide (x.sort ∈ S ++ [R.sort])).length < (l.filter fun x=>!decide (x.sort ∈ S)).length:=by
  intro l
  have hle : ∀ l : List Rl,(l.filter fun x=>!decide (x.sort ∈ S ++ [R.sort])).length ≤ (l.filter fun x=>!decide (x.sort ∈ S)).length:=by
   intro l
   induction l with
   | nil=>simp
   | cons x l ih =>
    by_cases h1 : x.sort ∈ S
    ·simp [List.filter_cons,h1]; simpa using ih
    ·by_cases h2 : x.sort = R.sort
     ·simp only [List.filter_cons,h1,h2,List.mem_append,List.mem_singleton,or_true,decide_true,Bool.not_true]
      rw [h2] at h1
      simp only [h1,decide_false,Bool.not_false,if_true,List.length_cons]
      simp at ih ⊢
      omega
     ·simp [List.filter_cons,h1,h2]; simpa using ih
  induction l with
  | nil=>simp
  | cons x l ih =>
   intro hm
   by_cases h2 : x = R
   ·subst h2
    have:=hle l
    simp only [List.filter_cons,hS,List.mem_append,List.mem_singleton,or_true,decide_true,Bool.not_true,decide_false,Bool.not_false,if_true,List.length_cons]
    simp at this ⊢
    omega
   ·have ih':=ih (by simpa [Ne.symm h2] using hm)
    by_cases h1 : x.sort ∈ S
    ·simp [List.filter_cons,h1]; simpa using ih'
    ·by_cases h3 : x.sort = R.sort
     ·simp only [List.filter_cons,h1,h3,List.mem_append,List.mem_singleton,or_true,decide_true,Bool.not_true]
      rw [h3] at h1
      simp only [h1,decide_false,Bool.not_false,if_true,List.length_cons]
      simp at ih' ⊢
      omega
     ·simp [List.filter_cons,h1,h3]; simpa using ih'
 exact key _ hR
theorem refused_c (p : Pt) (S : List ByteArray) (o : Nat) (fid : FuncId) (pm : Pt → Bool) {H : AHeap} (ho : H[o]? = some (.amap (smap bv (metOf S)))) (hf : AEx PP Gl fid [encP p] H (.ret (bl (pm p))) H) :
  AEx PP Gl 85 [encP p,(AV.mp o).ip,(AV.fn (.func fid) [] []).ip] H (.ret (.sc (.bool (refF S pm p)))) H:=by
 refine enter_grammar_grow_1 (by simp) ?_
 by_cases e : p.sort = emp
 ·simp -implicitDefEqProofs [code_grammar_grow_1,res_grammar_grow_1,ann_grammar_grow_1,encP,e,emp]
  refine callk hf (by simp [encP,e,emp]) rfl ?_
  simp -implicitDefEqProofs
  exact retE (by simp [deferred,dslot]) rfl (by simp [refF,e]) rfl
 ·have e' : ¬ p.sort = (⟨#[]⟩ : ByteArray):=e
  by_cases hS : p.sort ∈ S
  ·simp -implicitDefEqProofs [code_grammar_grow_1,res_grammar_grow_1,ann_grammar_grow_1,encP,e',ho,hS]
   exact retE (by simp [deferred,dslot]) rfl (by simp [refF,e,hS]) rfl
  ·simp -implicitDefEqProofs [code_grammar_grow_1,res_grammar_grow_1,ann_grammar_grow_1,encP,e',ho,hS]
   exact retE (by simp [deferred,dslot]) rfl (by simp [refF,e,hS]) rfl
def GrowR (g : Gr) (pm : Pt → Bool) (h : AHeap) (r : AEnd) (h' : AHeap) : Prop:=∃ S,GrowS g pm S ∧ r = .ret (.mp h.length) ∧ h' = h ++ [.amap (smap bv (metOf S))]
def DoneV (g : Gr) (pm : Pt → Bool) (S : List ByteArray) (i : Nat) : Prop:=∀ R ∈ g.rules.take i,R.sort ∈ S ∨ R.parts.any (refF S pm) = true
theorem DoneV.step {g : Gr} {pm : Pt → Bool} {S : List ByteArray} {i : Nat} {R : Rl} (h : DoneV g pm S i) (hR : g.rules[i]? = some R) (h2 : R.sort ∈ S ∨ R.parts.any (refF S pm) = true) : DoneV g pm S (i + 1):=fun x hx=>by
 rw [List.take_add_one,hR] at hx
 rcases List.mem_append.1 hx with hx | hx
 ·exact h x hx
 ·simp at hx; subst hx; exact h2
theorem DoneV.zero {g : Gr} {pm : Pt → Bool} {S : List ByteArray} : DoneV g pm S 0:=fun x hx=>by simp at hx
theorem DoneV.all {g : Gr} {pm : Pt → Bool} {S : List ByteArray} (h : DoneV g pm S g.rules.length) : ClosedS g pm S:=fun R hR h2=>by
 rcases h R (by rw [List.take_length]; exact hR) with h3 | h3
 ·exact h3
 ·rw [h2] at h3; cases h3
theorem least_add {g : Gr} {pm : Pt → Bool} {S : List ByteArray} {R : Rl} (h : ∀ C,ClosedS g pm C → ∀ s ∈ S,s ∈ C) (hR : R ∈ g.rules) (ha : R.parts.any (refF S pm) = false) : ∀ C,ClosedS g pm C → ∀ s ∈ S ++ [R.sort],s ∈ C:=fun C hC s hs=>by
 rcases List.mem_append.1 hs with hs | hs
 ·exact h C hC s hs
 ·simp at hs; subst hs
  exact hC R hR (refF_mono (h C hC) ha)
set_option maxHeartbeats 4000000 in
theorem grow_c (g : Gr) (fid : FuncId) (pm : Pt → Bool) {h : AHeap} (hr : g.rules.length ≤ 2 ^ 31) (hp : ∀ R ∈ g.rules,R.parts.length ≤ 2 ^ 31) (hf : ∀ (p : Pt) (H : AHeap),AEx PP Gl fid [encP p] H (.ret (bl (pm p))) H) :
  ACalls PP Gl 60 [encG g,.fn (.func fid) [] []] h (GrowR g pm h):=by
 refine enter_grammar_grow (by simp) ?_
 simp -implicitDefEqProofs [code_grammar_grow,res_grammar_grow,ann_grammar_grow,encG]
 refine AWp.scopeJ 0 rfl (fun j env H=>∃ S,j = leftS g S ∧ (∀ C,ClosedS g pm C → ∀ s ∈ S,s ∈ C) ∧ EnvLe [(2,(encG g).ip),(5,(AV.mp h.length).ip),(6,.fn (.func 85) [] [(AV.mp h.length).ip,(AV.fn (.func fid) [] []).ip])] env ∧ H = h ++ [.amap (smap bv (metOf S))]) ?_ ?_
 ·refine codeWp_sound mixed ?_
  simp -implicitDefEqProofs
  obtain ⟨S,hSd⟩ : ∃ S : List ByteArray,S = []:=⟨_,rfl⟩
  have hleast : ∀ C,ClosedS g pm C → ∀ s ∈ S,s ∈ C:=fun C _ s hs=>by rw [hSd] at hs; cases hs
  rw [show ([] : List (AV × AV)) = smap bv (metOf S) by rw [hSd]; rfl]
  refine AWp.cnt g.rules.length [2,5,6,12,13] (fun i=>[(14,i64 (i : Int))]) (fun _=>h ++ [.amap (smap bv (metOf S))]) (fun i=>DoneV g pm S i) mixed DoneV.zero (le_of (by simp [dslot])) rfl (fun i hi hz=>?_) fun hz=>?_
  ·obtain ⟨R,hR⟩ : ∃ R,g.rules[i]? = some R:=⟨g.rules[i],by simp [hi]⟩
   have hlt : (i : Int) < g.rules.length:=by omega
   have hne : g.rules ≠ []:=by intro e; rw [e] at hi; simp at hi
   have wi : IntKind.i64.wrap ((i : Int) + 1) = (i : Int) + 1:=IntWalk.i64_in _ (by omega)
   have hRm:=List.mem_of_getElem? hR
   by_cases hS : R.sort ∈ S
   ·simp -implicitDefEqProofs [lp0_grammar_grow,hlt,hne,hR,encR,hS,wi]
    exact ⟨hz.step hR (.inl hS),le_of (by simp [dslot])⟩
   ·simp -implicitDefEqProofs [lp0_grammar_grow,hlt,hne,hR,encR,hS]
    refine callk (anyP_c R.parts R.cap 85 [] [(AV.mp h.length).ip,(AV.fn (.func fid) [] []).ip] (refF S pm) (hp R hRm) (fun p _=>refused_c p S h.length fid pm (by simp) (hf p _))) rfl rfl ?_
    cases ha : R.parts.any (refF S pm) with
    | true =>
     simp -implicitDefEqProofs [wi]
     exact ⟨hz.step hR (.inr ha),le_of (by simp [dslot])⟩
    | false =>
     simp -implicitDefEqProofs [metOf_set S R.sort hS]
     exact ⟨_,S ++ [R.sort],rfl,least_add hleast hRm ha,le_of (by simp [dslot,encG]),rfl⟩
  ·simp -implicitDefEqProofs [lp0_grammar_grow]
   refine ret1 (v:=.mp h.length) (by simp [deferred,dslot]) (by simp [evalRes,evalRes1]) ⟨S,⟨hz.all,hleast⟩,rfl,rfl⟩
 ·rintro j env H ⟨S,rfl,hleast,hE,rfl⟩
  refine AWp.weaken (codeWp_sound mixed ?_) hE
  simp -implicitDefEqProofs [encG]
  refine AWp.cnt g.rules.length [2,5,6,12,13] (fun i=>[(14,i64 (i : Int))]) (fun _=>h ++ [.amap (smap bv (metOf S))]) (fun i=>DoneV g pm S i) mixed DoneV.zero (le_of (by simp [dslot])) rfl (fun i hi hz=>?_) fun hz=>?_
  ·obtain ⟨R,hR⟩ : ∃ R,g.rules[i]? = some R:=⟨g.rules[i],by simp [hi]⟩
   have hlt : (i : Int) < g.rules.length:=by omega
   have hne : g.rules ≠ []:=by intro e; rw [e] at hi; simp at hi
   have wi : IntKind.i64.wrap ((i : Int) + 1) = (i : Int) + 1:=IntWalk.i64_in _ (by omega)
   have hRm:=List.mem_of_getElem? hR
   by_cases hS : R.sort ∈ S
   ·simp -implicitDefEqProofs [lp0_grammar_grow,hlt,hne,hR,encR,hS,wi]
    exact ⟨hz.step hR (.inl hS),le_of (by simp [dslot])⟩
   ·simp -implicitDefEqProofs [lp0_grammar_grow,hlt,hne,hR,encR,hS]
    refine callk (anyP_c R.parts R.cap 85 [] [(AV.mp h.length).ip,(AV.fn (.func fid) [] []).ip] (refF S pm) (hp R hRm) (fun p _=>refused_c p S h.length fid pm (by simp) (hf p _))) rfl rfl ?_
    cases ha : R.parts.any (refF S pm) with
    | true =>
     simp -implicitDefEqProofs [wi]
     exact ⟨hz.step hR (.inr ha),le_of (by simp [dslot])⟩
    | false =>
     simp -implicitDefEqProofs [metOf_set S R.sort hS]
     exact ⟨_,leftS_lt hRm hS,S ++ [R.sort],rfl,least_add hleast hRm ha,le_of (by simp [dslot,encG]),rfl⟩
  ·simp -implicitDefEqProofs [lp0_grammar_grow]
   refine ret1 (v:=.mp h.length) (by simp [deferred,dslot]) (by simp [evalRes,evalRes1]) ⟨S,⟨hz.all,hleast⟩,rfl,rfl⟩
end Go.Apx
end
section
namespace Go.Apx
open Go.Proofs
set_option linter.unusedVariables false
set_option linter.unusedSimpArgs false
set_option linter.unnecessarySimpa false
set_option maxRecDepth 4000
abbrev yesP : Pt → Bool:=fun _=>true
theorem prod1_c (p : Pt) (H : AHeap) : AEx PP Gl 61 [encP p] H (.ret (bl (yesP p))) H:=by
 refine enter_grammar_productive_1 (by simp) ?_
 simp -implicitDefEqProofs [code_grammar_productive_1,res_grammar_productive_1,ann_grammar_productive_1,encP]
 exact retE (by simp [deferred,dslot]) rfl rfl rfl
theorem productive_c (g : Gr) {h : AHeap} (hr : g.rules.length ≤ 2 ^ 31) (hp : ∀ R ∈ g.rules,R.parts.length ≤ 2 ^ 31) : ACalls PP Gl 35 [encG g] h (GrowR g yesP h):=by
 refine enter_grammar_productive (by simp) ?_
 simp -implicitDefEqProofs [code_grammar_productive,res_grammar_productive,ann_grammar_productive,encG]
 refine callr (grow_c g 61 yesP hr hp prod1_c) (by simp [encG]) rfl ?_
 rintro r h' ⟨S,hS,rfl,rfl⟩
 simp -implicitDefEqProofs
 exact ret1 (v:=.mp h.length) (by simp [deferred,dslot]) (by simp [evalRes,evalRes1]) ⟨S,hS,rfl,rfl⟩
theorem strip_strs (l : List ByteArray) : stripL (l.map sv) = l.map sv:=by
 induction l with
 | nil=>rfl
 | cons s l ih=>simp only [List.map_cons,stripL,ih]; rfl
theorem inbL_strs (n : Nat) (l : List ByteArray) : inbL n (l.map sv) = true:=by
 induction l with
 | nil=>rfl
 | cons s l ih=>simp only [List.map_cons,inbL,ih]; rfl
theorem inb_strs (n : Nat) (l : List ByteArray) : (grown 1 (l.map sv)).inb n = true:=by
 unfold grown
 split
 ·rename_i e; rw [e]; rfl
 ·simp only [AV.inb,inbL_strs]; rfl
def pickS (g : Gr) (S : List ByteArray) : List ByteArray:=g.sorts.filter fun s=>decide (s ∈ S)
structure VP where
 i : Nat
 l : List ByteArray
 T : Nat
 H : AHeap
structure VPI (g : Gr) (S : List ByteArray) (o : Nat) (h : AHeap) (st : VP) : Prop where
 i : st.i ≤ g.sorts.length
 l : st.l = (g.sorts.take st.i).filter fun s=>decide (s ∈ S)
 tk : st.l ≠ [] → st.H[st.T]? = some (.tok st.l.length) ∧ h.length ≤ st.T
 low : Low h.length h st.H
 le : h.length ≤ st.H.length
set_option maxHeartbeats 4000000 in
theorem picked_c (g : Gr) (S : List ByteArray) (o : Nat) {h : AHeap} (ho : h[o]? = some (.amap (smap bv (metOf S)))) (hs : g.sorts.length ≤ 2 ^ 31) :
  AEx PP Gl 36 [.mp o,encG g] h (.ret (grown 1 ((pickS g S).map sv))) h:=by
 refine enter_grammar_set_picked (by simp) ?_
 simp -implicitDefEqProofs [code_grammar_set_picked,res_grammar_set_picked,ann_grammar_set_picked,encG]
 refine AWp.till (S:=VP) ⟨0,[],0,h⟩ (fun st=>g.sorts.length - st.i) [0,9,10] (fun st=>[(5,apd 1 (st.l.map sv) st.T),(11,i64 (st.i : Int))]) (fun st=>st.H) (VPI g S o h) mixed
  ⟨by simp,by simp,by simp,Low.refl _ _,Nat.le_refl _⟩ (le_of (by simp [dslot])) rfl ?_
 rintro ⟨i,l,T,H⟩ ⟨z1,z0,z2,z3,z4⟩
 simp only at z1 z0 z2 z3 z4
 have hol:=lt_of ho
 have hoH : H[o]? = some (.amap (smap bv (metOf S))):=z3 _ _ hol ho
 by_cases hi : i < g.sorts.length
 case neg =>
  have hno : ¬ (i : Int) < g.sorts.length:=by omega
  simp -implicitDefEqProofs [lp0_grammar_set_picked,hno]
  have hfin : l = pickS g S:=by rw [z0,List.take_of_length_le (by omega)]; rfl
  have hst : (apd 1 (l.map sv) T).strip = grown 1 (l.map sv):=strip_apd 1 _ _ _ (strip_strs l)
  refine retCut (v:=apd 1 (l.map sv) T) h.length (by simp [deferred,dslot]) (by simp [evalRes,evalRes1]) (Nat.le_refl _) z4 (by rw [hst]; exact inb_strs _ _) z3.cl ?_
  rw [z3.take,hst,hfin]
  exact ⟨rfl,rfl⟩
 obtain ⟨s,hs2⟩ : ∃ s,g.sorts[i]? = some s:=⟨g.sorts[i],by simp [hi]⟩
 have hlt : (i : Int) < g.sorts.length:=by omega
 have hne : g.sorts ≠ []:=by intro e; rw [e] at hi; simp at hi
 have wi : IntKind.i64.wrap ((i : Int) + 1) = (i : Int) + 1:=IntWalk.i64_in _ (by omega)
 have htk : (g.sorts.take (i + 1)).filter (fun s=>decide (s ∈ S)) = l ++ (if s ∈ S then [s] else []):=by
  rw [List.take_add_one,hs2,List.filter_append,← z0]
  by_cases e : s ∈ S <;> simp [e]
 by_cases hS : s ∈ S
 ·simp -implicitDefEqProofs [lp0_grammar_set_picked,hlt,hne,hs2,hoH,hS,sv]
  have hll : l.length ≤ g.sorts.length:=by rw [z0]; exact Nat.le_trans (List.length_filter_le _ _) (by simp; omega)
  refine appG (l.map sv) (sv s) T (by simp) (by simp [sv]) (fun hne=>by simpa using (z2 (by simpa using hne)).1) (by simp; unfold maxLenA; omega) ?_
  simp -implicitDefEqProofs [wi]
  rw [show l.map sv ++ [.sc (.string s)] = (l ++ [s]).map sv by simp [sv]]
  have hT : l.length ≠ 0 → ∃ q,H[T]? = some (.tok q):=fun hn0=>⟨_,(z2 (by rintro rfl; exact hn0 rfl)).1⟩
  refine ⟨⟨i + 1,l ++ [s],apT H l.length T,apG H l.length T⟩,by simp; omega,⟨by simp; omega,by simp only; rw [htk,if_pos hS],fun _=>⟨by simp only; rw [apG_tok hT]; simp,?_⟩,z3.trans (Low.apG fun hn0=>(z2 (by rintro rfl; exact hn0 rfl)).2),?_⟩,le_of (by simp [dslot]),by simp⟩
  ·simp only; unfold apT
   split
   ·exact z4
   ·rename_i hn0; exact (z2 (by rintro rfl; exact hn0 rfl)).2
  ·simp only; unfold apG
   split <;> simp <;> omega
 ·simp -implicitDefEqProofs [lp0_grammar_set_picked,hlt,hne,hs2,hoH,hS,sv,wi]
  exact ⟨⟨i + 1,l,T,H⟩,by simp; omega,⟨by simp; omega,by simp only; rw [htk,if_neg hS]; simp,z2,z3,z4⟩,le_of (by simp [dslot]),rfl⟩
def ProdR (g : Gr) (h : AHeap) (r : AEnd) (h' : AHeap) : Prop:=h' = h ∧ ((checkF g ≠ 0 ∧ r = .ret (.tup [.sl 0 [] .nil,i64 (checkF g)])) ∨
 (checkF g = 0 ∧ ∃ S,GrowS g yesP S ∧ r = .ret (.tup [grown 1 ((pickS g S).map sv),i64 0])))
theorem Productive_c (g : Gr) {h : AHeap} (hs : g.sorts.length ≤ 2 ^ 31) (hr : g.rules.length ≤ 2 ^ 31) (hp : ∀ R ∈ g.rules,R.parts.length ≤ 2 ^ 31) (hc : AEx PP Gl 34 [encG g] h (.ret (i64 (checkF g))) h) :
  ACalls PP Gl 15 [encG g] h (ProdR g h):=by
 refine enter_grammar_Productive (by simp) ?_
 simp -implicitDefEqProofs [code_grammar_Productive,res_grammar_Productive,ann_grammar_Productive,encG]
 refine callk hc (by simp [encG]) rfl ?_
 by_cases h1 : checkF g = 0
 case neg =>
  simp -implicitDefEqProofs [h1]
  exact ret1 (v:=.tup [.sl 0 [] .nil,i64 (checkF g)]) (by simp [deferred,dslot]) (by simp [evalRes,evalRes1]) ⟨rfl,.inl ⟨h1,rfl⟩⟩
 simp -implicitDefEqProofs [h1]
 refine callr (productive_c g hr hp) (by simp [encG]) rfl ?_
 rintro r h' ⟨S,hS,rfl,rfl⟩
 simp -implicitDefEqProofs
 refine callk (picked_c g S h.length (by simp) hs) (by simp [encG]) rfl ?_
 simp -implicitDefEqProofs
 have hst : (grown 1 ((pickS g S).map sv)).strip = grown 1 ((pickS g S).map sv):=by
  unfold grown
  split
  ·rename_i e; rw [e]; rfl
  ·simp only [AV.strip,strip_strs]; rfl
 refine retCut (v:=.tup [grown 1 ((pickS g S).map sv),i64 0]) h.length (by simp [deferred,dslot]) (by simp [evalRes,evalRes1]) (Nat.le_refl _) (by simp) ?_ (Cl.app h _) ?_
 ·simp only [AV.strip,stripL,hst,AV.inb,inbL,inb_strs]; rfl
 ·simp only [AV.strip,stripL,hst,List.take_left]
  exact ⟨rfl,.inr ⟨h1,S,hS,rfl⟩⟩
end Go.Apx
end
section
namespace Go.Apx
open Go.Proofs
set_option linter.unusedVariables false
set_option linter.unusedSimpArgs false
set_option linter.unnecessarySimpa false
set_option maxRecDepth 4000
def needF (P : List ByteArray) (p : Pt) : Bool:=!decide (p.sort = emp) && !hasF P p.sort
def usF (P : List ByteArray) (R : Rl) : Bool:=!(R.parts.any (needF P))
theorem grown_le (l : List ByteArray) : AVLe (grown 1 (l.map sv)) (.sl 1 (l.map sv) (if l = [] then .nil else .any)):=by
 cases l with
 | nil=>exact .nil 0 1
 | cons a l=>exact .refl _
theorem contains2_c (l : List ByteArray) (s : ByteArray) (hl : l.length ≤ 2 ^ 31) {h : AHeap} : AEx PP Gl 16 [grown 1 (l.map sv),.sc (.string s)] h (.ret (.sc (.bool (hasF l s)))) h :=
 ACalls.args (contains_c l _ s hl) (.cons (grown_le l) (.refl _))
theorem usable1_c (P : List ByteArray) (p : Pt) (hl : P.length ≤ 2 ^ 31) {H : AHeap} : AEx PP Gl 20 [encP p,(grown 1 (P.map sv)).ip] H (.ret (.sc (.bool (needF P p)))) H:=by
 refine enter_earley_Viable_1_1 (by simp) ?_
 by_cases e : p.sort = emp
 ·have e' : p.sort = (⟨#[]⟩ : ByteArray):=e
  simp -implicitDefEqProofs [code_earley_Viable_1_1,res_earley_Viable_1_1,ann_earley_Viable_1_1,encP,e']
  exact retE (by simp [deferred,dslot]) rfl (by simp [needF,e]) rfl
 ·have e' : ¬ p.sort = (⟨#[]⟩ : ByteArray):=e
  simp -implicitDefEqProofs [code_earley_Viable_1_1,res_earley_Viable_1_1,ann_earley_Viable_1_1,encP,e']
  refine callk (contains2_c P p.sort hl) rfl rfl ?_
  simp -implicitDefEqProofs
  exact retE (by simp [deferred,dslot]) rfl (by simp [needF,e]) rfl
theorem usable_c (P : List ByteArray) (R : Rl) (hl : P.length ≤ 2 ^ 31) (hp : R.parts.length ≤ 2 ^ 31) {H : AHeap} : AEx PP Gl 18 [encR R,(grown 1 (P.map sv)).ip] H (.ret (bl (usF P R))) H:=by
 refine enter_earley_Viable_1 (by simp) ?_
 simp -implicitDefEqProofs [code_earley_Viable_1,res_earley_Viable_1,ann_earley_Viable_1,encR]
 refine callk (anyP_c R.parts R.cap 20 [] [(grown 1 (P.map sv)).ip] (needF P) hp (fun p _=>usable1_c P p hl)) rfl rfl ?_
 simp -implicitDefEqProofs
 exact retE (by simp [deferred,dslot]) rfl rfl rfl
theorem der_prod {g : Gr} {tx : List ByteArray} {S : List ByteArray} (hS : GrowS g yesP S) {ps : List Pt} {i j : Nat} (h : DerP g tx ps i j) : ∀ p ∈ ps,p.sort ≠ emp → p.sort ∈ S:=by
 induction h with
 | nil=>intro p hp; cases hp
 | @sym p ps i j hs ht h ih =>
  intro q hq hne
  rcases List.mem_cons.1 hq with rfl | hq
  ·exact (hne hs).elim
  ·exact ih q hq hne
 | @arg p ps i k j r R hs hr he h1 h2 ih1 ih2 =>
  intro q hq hne
  rcases List.mem_cons.1 hq with rfl | hq
  ·rw [← he]
   refine hS.closed R (List.mem_of_getElem? hr) ?_
   rw [List.any_eq_false]
   intro p' hp'
   unfold refF
   by_cases e : p'.sort = emp
   ·simp [e]
   ·simp [e,ih1 p' hp' e]
  ·exact ih2 q hq hne
theorem hasF_iff {l : List ByteArray} {s : ByteArray} : hasF l s = true ↔ s ∈ l:=⟨has_mem,mem_has⟩
theorem pickS_mem {g : Gr} {S : List ByteArray} {s : ByteArray} : s ∈ pickS g S ↔ s ∈ g.sorts ∧ s ∈ S:=by simp [pickS]
end Go.Apx
end
