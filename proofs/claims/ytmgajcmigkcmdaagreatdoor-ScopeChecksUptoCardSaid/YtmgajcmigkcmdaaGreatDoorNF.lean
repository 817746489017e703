/- Plain law: the order of texts and of pairs; runs cut to one; strictly ascending lists. -/
import Derived.Test.YtmgajcmigkcmdaaGreatDoorAmG
import Derived.Test.YtmgajcmigkcmdaaGreatDoorND
import Derived.Sort.Walk0
set_option linter.unusedVariables false
set_option linter.unusedSimpArgs false
set_option linter.unnecessarySimpa false
section
namespace Go.Apx
open Go.Proofs
def ltB (a b:ByteArray):Bool:=Op.bytesLess a.toList b.toList
theorem ltB_iff (a b:ByteArray):ltB a b=true ↔ bytesL a < bytesL b:=by
 unfold ltB
 rw [bytesLess_eq,ByteArray.toList_eq,ByteArray.toList_eq]
 simp [bytesL]
theorem bytesL_inj {a b:ByteArray} (h:bytesL a=bytesL b):a=b:=by
 rw [<- strL_bytesL a,<- strL_bytesL b,h]
theorem ltB_irrefl (a:ByteArray):ltB a a=false:=by
 cases h:ltB a a with
 | false=>rfl
 | true=>exact (List.lt_irrefl _ ((ltB_iff a a).1 h)).elim
theorem ltB_trans {a b c:ByteArray} (h:ltB a b=true) (h':ltB b c=true):ltB a c=true:=by
 rw [ltB_iff] at *; exact List.lt_trans h h'
theorem ltB_tri (a b:ByteArray):ltB a b=true \/ a=b \/ ltB b a=true:=by
 rw [ltB_iff,ltB_iff]
 by_cases h:bytesL a < bytesL b
 .exact .inl h
 .by_cases h':bytesL b < bytesL a
  .exact .inr (.inr h')
  .exact .inr (.inl (bytesL_inj (List.le_antisymm (List.not_lt.1 h') (List.not_lt.1 h))))
theorem ltB_asymm {a b:ByteArray} (h:ltB a b=true):ltB b a=false:=by
 cases h':ltB b a with
 | false=>rfl
 | true=>have:=ltB_trans h h'; rw [ltB_irrefl] at this; cases this
def ltP (p q:Pr):Bool:=ltB p.1 q.1 || (decide (p.1=q.1) && ltB p.2 q.2)
theorem ltP_iff (p q:Pr):ltP p q=true ↔ ltB p.1 q.1=true \/ p.1=q.1 /\ ltB p.2 q.2=true:=by
 simp [ltP]
theorem ltP_irrefl (p:Pr):ltP p p=false:=by
 cases h:ltP p p with
 | false=>rfl
 | true =>
  rcases (ltP_iff p p).1 h with h | ⟨_,h⟩
  .rw [ltB_irrefl] at h; cases h
  .rw [ltB_irrefl] at h; cases h
theorem ltP_trans {p q r:Pr} (h:ltP p q=true) (h':ltP q r=true):ltP p r=true:=by
 rw [ltP_iff] at *
 rcases h with h | ⟨e,h⟩
 .rcases h' with h' | ⟨e',h'⟩
  .exact .inl (ltB_trans h h')
  .exact .inl (by rw [<- e']; exact h)
 .rcases h' with h' | ⟨e',h'⟩
  .exact .inl (by rw [e]; exact h')
  .exact .inr ⟨e.trans e',ltB_trans h h'⟩
theorem ltP_tri (p q:Pr):ltP p q=true \/ p=q \/ ltP q p=true:=by
 simp only [ltP_iff]
 rcases ltB_tri p.1 q.1 with h | h | h
 .exact .inl (.inl h)
 .rcases ltB_tri p.2 q.2 with h' | h' | h'
  .exact .inl (.inr ⟨h,h'⟩)
  .exact .inr (.inl (Prod.ext h h'))
  .exact .inr (.inr (.inr ⟨h.symm,h'⟩))
 .exact .inr (.inr (.inl h))
theorem ltP_asymm {p q:Pr} (h:ltP p q=true):ltP q p=false:=by
 cases h':ltP q p with
 | false=>rfl
 | true=>have:=ltP_trans h h'; rw [ltP_irrefl] at this; cases this
section
variable {α:Type} {lt:α -> α -> Bool}
theorem asc_unique (hirr:∀ x,lt x x=false) (hasym:∀ x y,lt x y=true -> lt y x=false):∀ {l l':List α},l.Pairwise (fun x y=>lt x y=true) -> l'.Pairwise (fun x y=>lt x y=true) -> (∀ x,x ∈ l ↔ x ∈ l') -> l=l'
 | [],[],_,_,_=>rfl
 | [],b :: l',_,_,h=>by have:=(h b).2 (by simp); cases this
 | a :: l,[],_,_,h=>by have:=(h a).1 (by simp); cases this
 | a :: l,b :: l',h1,h2,h=>by
  rw [List.pairwise_cons] at h1 h2
  have hab:a=b:=by
   rcases List.mem_cons.1 ((h a).1 (by simp)) with e | e
   .exact e
   .rcases List.mem_cons.1 ((h b).2 (by simp)) with e' | e'
    .exact e'.symm
    .have g1:=h2.1 a e
     have g2:=h1.1 b e'
     rw [hasym _ _ g1] at g2; cases g2
  subst hab
  congr 1
  refine asc_unique hirr hasym h1.2 h2.2 fun x=>?_
  have hx:=h x
  simp only [List.mem_cons] at hx
  constructor
  .intro hm
   rcases hx.1 (.inr hm) with rfl | h'
   .have:=h1.1 _ hm; rw [hirr] at this; cases this
   .exact h'
  .intro hm
   rcases hx.2 (.inr hm) with rfl | h'
   .have:=h2.1 _ hm; rw [hirr] at this; cases this
   .exact h'
variable [DecidableEq α]
def cpA (a:α):List α -> List α
 | []=>[]
 | b :: r=>if b=a then cpA a r else b :: cpA b r
def cpF:List α -> List α
 | []=>[]
 | a :: r=>a :: cpA a r
theorem cpA_snoc (a:α):∀ (l:List α) (x:α),cpA a (l++[x])=cpA a l++if x=(l.getLast?.getD a) then [] else [x]
 | [],x=>by
  by_cases e:x=a <;> simp [cpA,e]
 | b :: r,x=>by
  by_cases e:b=a
  .subst e
   have h1:((b :: r).getLast?.getD b)=(r.getLast?.getD b):=by cases r <;> simp [List.getLast?_cons]
   rw [h1]
   simp only [List.cons_append,cpA,if_true]
   exact cpA_snoc b r x
  .have h1:((b :: r).getLast?.getD a)=(r.getLast?.getD b):=by cases r <;> simp [List.getLast?_cons]
   rw [h1]
   simp only [List.cons_append,cpA,if_neg e]
   rw [cpA_snoc b r x]
theorem cpF_snoc {l:List α} {x y:α} (hy:l.getLast?=some y):cpF (l++[x])=cpF l++if x=y then [] else [x]:=by
 cases l with
 | nil=>simp at hy
 | cons a r =>
  have h1:(r.getLast?.getD a)=y:=by
   rw [List.getLast?_cons] at hy
   exact Option.some.inj hy
  simp only [List.cons_append,cpF]
  rw [cpA_snoc,h1]
theorem cpF_take {l:List α} {i:Nat} {x y:α} (hx:l[i+1]?=some x) (hy:l[i]?=some y):cpF (l.take (i+1+1))=cpF (l.take (i+1))++if x=y then [] else [x]:=by
 rw [List.take_add_one (i:=i+1),hx]
 refine cpF_snoc ?_
 rw [List.take_add_one,hy]
 simp
theorem cpA_len (a:α):∀ l:List α,(cpA a l).length <= l.length
 | []=>by simp [cpA]
 | b :: r=>by
  simp only [cpA]
  split
  .have:=cpA_len a r; simp; omega
  .have:=cpA_len b r; simp; omega
theorem cpF_len (l:List α):(cpF l).length <= l.length:=by
 cases l with
 | nil=>simp [cpF]
 | cons a r=>have:=cpA_len a r; simp [cpF]; omega
theorem cpA_app (a:α):∀ (l r:List α),cpA a (l++r)=cpA a l++cpA (l.getLast?.getD a) r
 | [],r=>by simp [cpA]
 | b :: l,r=>by
  have h1:((b :: l).getLast?.getD a)=(l.getLast?.getD b):=by cases l <;> simp [List.getLast?_cons]
  rw [h1]
  simp only [List.cons_append,cpA]
  split
  .rename_i e; subst e; exact cpA_app b l r
  .rw [cpA_app b l r]; rfl
theorem cpF_app (l r:List α):∃ s,cpF (l++r)=cpF l++s /\ s.length <= r.length:=by
 cases l with
 | nil=>exact ⟨cpF r,rfl,cpF_len r⟩
 | cons a l=>exact ⟨cpA (l.getLast?.getD a) r,by simp only [List.cons_append,cpF,cpA_app],cpA_len _ _⟩
theorem cpF_rest (l:List α) (i:Nat):(cpF l).length <= (cpF (l.take i)).length+(l.length - i):=by
 obtain ⟨s,h1,h2⟩:=cpF_app (l.take i) (l.drop i)
 rw [List.take_append_drop] at h1
 rw [h1,List.length_append]
 simp at h2
 omega
theorem cpF_first:∀ {l:List α},cpF l ≠ l -> ∃ k,1 <= k /\ k < l.length /\ cpF (l.take k)=l.take k /\ ∃ x,l[k]?=some x /\ l[k - 1]?=some x:=by
 intro l hne
 have key:∀ n,n <= l.length -> cpF (l.take n)=l.take n \/ ∃ k,1 <= k /\ k < l.length /\ cpF (l.take k)=l.take k /\ ∃ x,l[k]?=some x /\ l[k - 1]?=some x:=by
  intro n
  induction n with
  | zero=>intro _; left; simp [cpF]
  | succ n ih =>
   intro hn
   rcases ih (by omega) with h | h
   .cases n with
    | zero =>
     left
     cases l with
     | nil=>simp at hn
     | cons a r=>simp [cpF,cpA]
    | succ n =>
     obtain ⟨x,hx⟩:∃ x,l[n+1]?=some x:=⟨l[n+1]'(by omega),by simp⟩
     obtain ⟨y,hy⟩:∃ y,l[n]?=some y:=⟨l[n]'(by omega),by simp⟩
     by_cases e:x=y
     .subst e
      exact .inr ⟨n+1,by omega,by omega,h,x,hx,hy⟩
     .left
      rw [cpF_take hx hy,if_neg e,h,List.take_add_one (i:=n+1),hx]; rfl
   .exact .inr h
 rcases key l.length (Nat.le_refl _) with h | h
 .rw [List.take_of_length_le (Nat.le_refl _)] at h; exact (hne h).elim
 .exact h
theorem cp_adj {l:List α} (hsame:cpF l=l):∀ (i:Nat) (x y:α),l[i+1]?=some x -> l[i]?=some y -> ¬ x=y:=by
 intro i x y hx hy e
 have h1:=cpF_take hx hy
 rw [if_pos e,List.append_nil] at h1
 have h5:=cpF_len (l.take (i+1))
 have h6:=cpF_rest l (i+1+1)
 have h7:=lt_of hx
 rw [hsame] at h6
 rw [h1] at h6
 simp only [List.length_take] at h5
 omega
theorem cpA_mem {x:α}:∀ (a:α) (l:List α),x ∈ a :: cpA a l ↔ x ∈ a :: l
 | a,[]=>by simp [cpA]
 | a,b :: r=>by
  simp only [cpA]
  split
  .rename_i e
   subst e
   rw [cpA_mem b r]
   simp
  .have:=cpA_mem (x:=x) b r
   rw [List.mem_cons,this,List.mem_cons (l:=b :: r)]
theorem cpF_mem {x:α} {l:List α}:x ∈ cpF l ↔ x ∈ l:=by
 cases l with
 | nil=>rfl
 | cons a r=>exact cpA_mem a r
theorem cpA_asc (htr:∀ x y z,lt x y=true -> lt y z=true -> lt x z=true) (htri:∀ x y,lt x y=true \/ x=y \/ lt y x=true):∀ (a:α) (l:List α),(a :: l).Pairwise (fun x y=>lt y x=false) -> (a :: cpA a l).Pairwise fun x y=>lt x y=true
 | a,[],_=>by simp [cpA]
 | a,b :: r,h=>by
  simp only [cpA]
  rw [List.pairwise_cons] at h
  split
  .rename_i e
   subst e
   exact cpA_asc htr htri b r h.2
  .rename_i e
   have ih:=cpA_asc htr htri b r h.2
   have hab:lt a b=true:=by
    rcases htri a b with h' | h' | h'
    .exact h'
    .exact (e h'.symm).elim
    .have:=h.1 b (by simp); rw [this] at h'; cases h'
   rw [List.pairwise_cons]
   refine ⟨fun x hx=>?_,ih⟩
   rcases List.mem_cons.1 hx with rfl | hx'
   .exact hab
   .exact htr _ _ _ hab ((List.pairwise_cons.1 ih).1 x hx')
theorem cpF_asc (htr:∀ x y z,lt x y=true -> lt y z=true -> lt x z=true) (htri:∀ x y,lt x y=true \/ x=y \/ lt y x=true) {l:List α} (h:l.Pairwise (fun x y=>lt y x=false)):(cpF l).Pairwise fun x y=>lt x y=true:=by
 cases l with
 | nil=>simp [cpF]
 | cons a r=>exact cpA_asc htr htri a r h
end
theorem srtS_perm (l:List ByteArray):(srtS l).Perm l:=by
 have h:=(List.mergeSort_perm (l.map bytesL) fun x y=>decide (x <= y)).map strL
 rw [List.map_map] at h
 have e:l.map (strL ∘ bytesL)=l:=(List.map_congr_left fun x _=>strL_bytesL x).trans (List.map_id l)
 rw [e] at h
 exact h
theorem lecomp (a b:List UInt8):(decide (a <= b) || decide (b <= a))=true:=by
 rcases List.le_total a b with h | h <;> simp [h]
theorem srtS_asc (l:List ByteArray):(srtS l).Pairwise fun x y=>ltB y x=false:=by
 have hs:List.Pairwise (fun a b=>decide (a <= b)=true) ((l.map bytesL).mergeSort fun x y=>decide (x <= y)) :=
  List.pairwise_mergeSort (le:=fun x y:List UInt8=>decide (x <= y)) (fun a b c h1 h2=>by simp at h1 h2 ⊢; exact List.le_trans h1 h2) lecomp _
 unfold srtS
 rw [List.pairwise_map]
 refine hs.imp fun {a b} h=>?_
 cases h':ltB (strL b) (strL a) with
 | false=>rfl
 | true =>
  have:=(ltB_iff _ _).1 h'
  rw [bytesL_strL,bytesL_strL] at this
  exact (List.not_lt.2 (of_decide_eq_true h) this).elim
def wdsF (l:List ByteArray):List ByteArray:=cpF (srtS l)
theorem wdsF_mem {l:List ByteArray} {x:ByteArray}:x ∈ wdsF l ↔ x ∈ l:=cpF_mem.trans (srtS_perm l).mem_iff
theorem wdsF_asc (l:List ByteArray):(wdsF l).Pairwise fun x y=>ltB x y=true:=cpF_asc (lt:=ltB) (fun _ _ _=>ltB_trans) ltB_tri (srtS_asc l)
theorem wdsF_len (l:List ByteArray):(wdsF l).length <= l.length:=by
 have:=cpF_len (srtS l)
 rw [srtS_length] at this
 exact this
def prsF:List ByteArray -> List Pr
 | []=>[]
 | a :: r=>r.map (fun b=>(a,b))++prsF r
theorem prsF_mem:∀ {l:List ByteArray} {p:Pr},l.Pairwise (fun x y=>ltB x y=true) -> (p ∈ prsF l ↔ p.1 ∈ l /\ p.2 ∈ l /\ ltB p.1 p.2=true)
 | [],p,_=>by simp [prsF]
 | a :: r,(x,y),h=>by
  rw [List.pairwise_cons] at h
  simp only [prsF,List.mem_append,List.mem_map,Prod.mk.injEq,List.mem_cons]
  rw [prsF_mem h.2]
  simp only
  constructor
  .rintro (⟨b,hb,rfl,rfl⟩ | ⟨h1,h2,h3⟩)
   .exact ⟨.inl rfl,.inr hb,h.1 _ hb⟩
   .exact ⟨.inr h1,.inr h2,h3⟩
  .rintro ⟨rfl | h1,rfl | h2,h3⟩
   .rw [ltB_irrefl] at h3; cases h3
   .exact .inl ⟨y,h2,rfl,rfl⟩
   .have:=h.1 x h1; rw [ltB_asymm this] at h3; cases h3
   .exact .inr ⟨h1,h2,h3⟩
theorem prsF_asc:∀ {l:List ByteArray},l.Pairwise (fun x y=>ltB x y=true) -> (prsF l).Pairwise fun p q=>ltP p q=true
 | [],_=>by simp [prsF]
 | a :: r,h=>by
  have hh:=h
  rw [List.pairwise_cons] at h
  simp only [prsF]
  rw [List.pairwise_append]
  refine ⟨?_,prsF_asc h.2,?_⟩
  .rw [List.pairwise_map]
   exact List.Pairwise.imp (S:=fun b c=>ltP (a,b) (a,c)=true) (fun {x y} hxy=>(ltP_iff (a,x) (a,y)).2 (.inr ⟨rfl,hxy⟩)) h.2
  .intro p hp q hq
   obtain ⟨b,hb,rfl⟩:=List.mem_map.1 hp
   exact (ltP_iff _ _).2 (.inl (h.1 _ ((prsF_mem h.2).1 hq).1))
def layP:List Pr -> Pr -> List Pr
 | [],p=>[p]
 | q :: r,p=>if ltP q p=true then q :: layP r p else if q=p then q :: r else p :: q :: r
theorem layP_mem:∀ {l:List Pr} {p x:Pr},x ∈ layP l p ↔ x=p \/ x ∈ l
 | [],p,x=>by simp [layP]
 | q :: r,p,x=>by
  simp only [layP]
  split
  .rw [List.mem_cons,layP_mem,List.mem_cons]
   constructor
   .rintro (h | h | h)
    .exact .inr (.inl h)
    .exact .inl h
    .exact .inr (.inr h)
   .rintro (h | h | h)
    .exact .inr (.inl h)
    .exact .inl h
    .exact .inr (.inr h)
  .split
   .rename_i e; subst e
    constructor
    .exact .inr
    .rintro (rfl | h)
     .simp
     .exact h
   .simp
theorem layP_asc:∀ {l:List Pr} {p:Pr},l.Pairwise (fun x y=>ltP x y=true) -> (layP l p).Pairwise fun x y=>ltP x y=true
 | [],p,_=>by simp [layP]
 | q :: r,p,h=>by
  have hh:=h
  rw [List.pairwise_cons] at h
  simp only [layP]
  split
  .rename_i e
   rw [List.pairwise_cons]
   refine ⟨fun x hx=>?_,layP_asc h.2⟩
   rcases layP_mem.1 hx with rfl | hx
   .exact e
   .exact h.1 x hx
  .rename_i e
   split
   .exact hh
   .rename_i e'
    have hpq:ltP p q=true:=by
     rcases ltP_tri q p with h' | h' | h'
     .exact (e h').elim
     .exact (e' h').elim
     .exact h'
    rw [List.pairwise_cons]
    refine ⟨fun x hx=>?_,hh⟩
    rcases List.mem_cons.1 hx with rfl | hx
    .exact hpq
    .exact ltP_trans hpq (h.1 x hx)
theorem layP_len (l:List Pr) (p:Pr):(layP l p).length <= l.length+1:=by
 induction l with
 | nil=>simp [layP]
 | cons q r ih =>
  simp only [layP]
  split
  .simp; omega
  .split <;> simp
def joinR (a b:List Pr):List Pr:=(a++b).foldl layP []
theorem foldPut_mem {x:Pr}:∀ (l acc:List Pr),x ∈ l.foldl layP acc ↔ x ∈ acc \/ x ∈ l
 | [],acc=>by simp
 | p :: l,acc=>by
  rw [List.foldl_cons,foldPut_mem l,layP_mem,List.mem_cons]
  constructor
  .rintro ((h | h) | h)
   .exact .inr (.inl h)
   .exact .inl h
   .exact .inr (.inr h)
  .rintro (h | h | h)
   .exact .inl (.inr h)
   .exact .inl (.inl h)
   .exact .inr h
theorem foldPut_asc:∀ (l acc:List Pr),acc.Pairwise (fun x y=>ltP x y=true) -> (l.foldl layP acc).Pairwise fun x y=>ltP x y=true
 | [],acc,h=>h
 | p :: l,acc,h=>foldPut_asc l _ (layP_asc h)
theorem foldPut_len:∀ (l acc:List Pr),(l.foldl layP acc).length <= acc.length+l.length
 | [],acc=>by simp
 | p :: l,acc=>by
  have h1:=foldPut_len l (layP acc p)
  have h2:=layP_len acc p
  simp only [List.foldl_cons,List.length_cons]; omega
theorem srtP_perm (l:List Pr):(l.mergeSort fun x y=>!ltP y x).Perm l:=List.mergeSort_perm _ _
theorem srtP_asc (l:List Pr):(l.mergeSort fun x y=>!ltP y x).Pairwise fun x y=>ltP y x=false:=by
 have:=List.pairwise_mergeSort (le:=fun x y:Pr=>!ltP y x) (fun a b c h1 h2=>by
  simp only [Bool.not_eq_true'] at h1 h2 ⊢
  cases h:ltP c a with
  | false=>rfl
  | true =>
   rcases ltP_tri a b with h' | h' | h'
   .have:=ltP_trans h h'; rw [h2] at this; cases this
   .subst h'; rw [h] at h2; cases h2
   .rw [h1] at h'; cases h') (fun a b=>by
  rcases ltP_tri a b with h | h | h
  .rw [ltP_asymm h]; rfl
  .subst h; rw [ltP_irrefl]; rfl
  .rw [ltP_asymm h]; simp) l
 exact this.imp fun {a b} h=>by simpa using h
def srtP (l:List Pr):List Pr:=cpF (l.mergeSort fun x y=>!ltP y x)
theorem srtP_mem {l:List Pr} {p:Pr}:p ∈ srtP l ↔ p ∈ l:=cpF_mem.trans (srtP_perm l).mem_iff
theorem srtP_strict (l:List Pr):(srtP l).Pairwise fun x y=>ltP x y=true:=cpF_asc (lt:=ltP) (fun _ _ _=>ltP_trans) ltP_tri (srtP_asc l)
theorem srtP_len (l:List Pr):(srtP l).length <= l.length:=by
 have:=cpF_len (l.mergeSort fun x y=>!ltP y x)
 rwa [List.length_mergeSort] at this
theorem join_eq (a b:List Pr):srtP (a++b)=joinR a b :=
 asc_unique (lt:=ltP) ltP_irrefl (fun _ _=>ltP_asymm) (srtP_strict _) (foldPut_asc _ _ (by simp)) fun x=>by
  rw [srtP_mem,joinR,foldPut_mem]; simp
def pairsR (l:List ByteArray):List Pr:=(l.flatMap fun a=>(l.filter fun b=>ltB a b).map fun b=>(a,b)).foldl layP []
theorem pairs_eq (l:List ByteArray):prsF (wdsF l)=pairsR l :=
 asc_unique (lt:=ltP) ltP_irrefl (fun _ _=>ltP_asymm) (prsF_asc (wdsF_asc l)) (foldPut_asc _ _ (by simp)) fun x=>by
  rw [prsF_mem (wdsF_asc l),wdsF_mem,wdsF_mem,pairsR,foldPut_mem]
  simp only [List.not_mem_nil,false_or,List.mem_flatMap,List.mem_map,List.mem_filter]
  constructor
  .rintro ⟨h1,h2,h3⟩
   exact ⟨x.1,h1,x.2,⟨h2,h3⟩,rfl⟩
  .rintro ⟨a,h1,b,⟨h2,h3⟩,rfl⟩
   exact ⟨h1,h2,h3⟩
theorem prsF_len:∀ l:List ByteArray,(prsF l).length <= l.length * l.length
 | []=>by simp [prsF]
 | a :: r=>by
  have:=prsF_len r
  simp only [prsF,List.length_append,List.length_map,List.length_cons]
  rw [Nat.mul_add,Nat.add_mul]
  omega
end Go.Apx
end
section
namespace Go.Apx
open Go.Proofs
set_option maxRecDepth 4000
def cpV (k:Nat) (H:AHeap) (es:List AV):AV:=if es=[] then .sl k [] .full else .rf H.length 0 0 es.length (.own k)
def cpH (H:AHeap) (es:List AV):AHeap:=if es=[] then H else H++[.cells 0 (es.flatMap AV.cells)]
theorem rowLen {α:Type} {f:α -> List AV} {k:Nat} (hk:∀ x,(f x).length=k) (A:List α):(A.flatMap f).length=A.length * k:=by
 induction A with
 | nil=>simp
 | cons a A ih=>rw [List.flatMap_cons,List.length_append,hk,ih,List.length_cons,Nat.add_mul]; omega
theorem rowTake {α:Type} {f:α -> List AV} {k:Nat} (hk:∀ x,(f x).length=k):∀ (A:List α) (i:Nat),(A.flatMap f).take (i * k)=(A.take i).flatMap f
 | [],i=>by simp
 | a :: A,0=>by simp
 | a :: A,i+1=>by
  rw [List.flatMap_cons,List.take_succ_cons,List.flatMap_cons,Nat.add_mul,Nat.one_mul,Nat.add_comm,<- hk a,List.take_length_add_append,hk a,rowTake hk A i]
theorem rowDrop {α:Type} {f:α -> List AV} {k:Nat} (hk:∀ x,(f x).length=k):∀ (A:List α) (i:Nat),(A.flatMap f).drop (i * k)=(A.drop i).flatMap f
 | [],i=>by simp
 | a :: A,0=>by simp
 | a :: A,i+1=>by
  rw [List.flatMap_cons,List.drop_succ_cons,Nat.add_mul,Nat.one_mul,Nat.add_comm,<- hk a,List.drop_length_add_append,hk a,rowDrop hk A i]
theorem rowCut {α:Type} {f:α -> List AV} {k:Nat} (hk:∀ x,(f x).length=k) (A:List α) (rest:List AV) (i:Nat) (x:α) (hx:A[i]?=some x):cut (A.flatMap f++rest) (i * k) k=f x:=by
 have hi:=lt_of hx
 have hl:=rowLen hk A
 have hle:i * k+k <= A.length * k:=by
  have:=Nat.mul_le_mul_right k (show i+1 <= A.length from hi)
  rwa [Nat.add_mul,Nat.one_mul] at this
 unfold cut
 rw [List.drop_append_of_le_length (by omega),List.take_append_of_le_length (by rw [List.length_drop]; omega),rowDrop hk]
 have hd:A.drop i=x :: A.drop (i+1):=by
  rw [List.drop_eq_getElem_cons hi,(List.getElem?_eq_some_iff.1 hx).2]
 rw [hd,List.flatMap_cons,List.take_left' (hk x)]
theorem rowSet {α:Type} {f:α -> List AV} {k:Nat} (hk:∀ x,(f x).length=k) (A:List α) (rest:List AV) (i:Nat) (x:α) (hi:i < A.length) :
  (A.flatMap f++rest).take (i * k)++(f x++(A.flatMap f++rest).drop (i * k+k))=(A.set i x).flatMap f++rest:=by
 have hl:=rowLen hk A
 have hle:i * k+k <= A.length * k:=by
  have:=Nat.mul_le_mul_right k (show i+1 <= A.length from hi)
  rwa [Nat.add_mul,Nat.one_mul] at this
 rw [List.take_append_of_le_length (by omega),List.drop_append_of_le_length (by omega),rowTake hk,show i * k+k=(i+1) * k by rw [Nat.add_mul,Nat.one_mul],rowDrop hk,List.set_eq_take_append_cons_drop,if_pos hi]
 simp [List.flatMap_append]
theorem set_take {α:Type} (A:List α) (k:Nat) (x:α) (hk:k < A.length):(A.set k x).take (k+1)=A.take k++[x]:=by
 rw [List.set_eq_take_append_cons_drop,if_pos hk,List.take_append,List.length_take,Nat.min_eq_left (Nat.le_of_lt hk),List.take_of_length_le (by simp; omega),show k+1 - k=1 by omega]
 rfl
theorem set_drop {α:Type} (A:List α) (k i:Nat) (x:α) (hk:k < i):(A.set k x).drop i=A.drop i:=by
 refine List.ext_getElem? fun n=>?_
 rw [List.getElem?_drop,List.getElem?_drop,List.getElem?_set_ne (by omega)]
theorem drop_get {α:Type} {A l:List α} {i n:Nat} (h:A.drop i=l.drop i) (hn:i <= n):A[n]?=l[n]?:=by
 have:=congrArg (fun z=>z[n - i]?) h
 simp only [List.getElem?_drop] at this
 rwa [show i+(n - i)=n by omega] at this
theorem drop_more {α:Type} {A l:List α} {i n:Nat} (h:A.drop i=l.drop i) (hn:i <= n):A.drop n=l.drop n:=by
 have:=congrArg (List.drop (n - i)) h
 rwa [List.drop_drop,List.drop_drop,show i+(n - i)=n by omega] at this
structure CpS (α:Type) where
 k:Nat
 q:Nat
 A:List α
set_option maxHeartbeats 4000000 in
theorem cloneS_c (l:List ByteArray) (u:AV) {h:AHeap} (hn:isNilK .sl u=some false) (he:elems h 1 u=some (l.map sv)) (hl:l.length <= 2 ^ 31) :
  AEx PP Gl 30 [u] h (.ret (cpV 1 h (l.map sv))) (cpH h (l.map sv)):=by
 have fin:∀ C:AEnd -> AHeap -> Prop,C=(fun r h'=>r=.ret (cpV 1 h (l.map sv)) /\ h'=cpH h (l.map sv)) -> (l=[] -> C (.ret (.sl 1 [] .full)) h) /\ (l ≠ [] -> C (.ret (.rf h.length 0 0 l.length (.own 1))) (h++[.cells 0 ((l.map sv).flatMap AV.cells)])):=by
  rintro _ rfl
  refine ⟨fun e=>by subst e; exact ⟨rfl,rfl⟩,fun e=>?_⟩
  have h1:¬ (l.map sv=[]):=by simpa using e
  exact ⟨by unfold cpV; rw [if_neg h1]; simp,by unfold cpH; rw [if_neg h1]⟩
 refine enter_30 (by simp) ?_
 have hm:l.length <= 4294967296:=by omega
 have fe:=fin _ rfl
 cases u with
 | sl j es c =>
  have hn':(c == Cap.nil)=false:=by simpa [isNilK] using hn
  have hc:c ≠ .nil:=by rintro rfl; simp at hn'
  simp only [elems] at he
  split at he
  .rename_i hj
   simp only [Option.some.injEq] at he
   subst he
   by_cases hl0:l=[]
   .subst hl0
    simp -implicitDefEqProofs [code_30,res_30,ann_30,hc]
    exact ret1 (v:=.sl 1 [] .full) (by simp [deferred,dslot]) rfl (fe.1 rfl)
   .have hj':j=1:=hj.resolve_right (by simpa using hl0)
    subst hj'
    simp -implicitDefEqProofs [code_30,res_30,ann_30,hc,hl0,maxLenA,hm]
    exact ret1 (v:=.rf h.length 0 0 l.length (.own 1)) (by simp [deferred,dslot]) rfl (by simpa using fe.2 hl0)
  .cases he
 | rf o g off len rc =>
  by_cases hl0:l=[]
  .subst hl0
   simp -implicitDefEqProofs [-elems,code_30,res_30,ann_30,he]
   exact ret1 (v:=.sl 1 [] .full) (by simp [deferred,dslot]) rfl (fe.1 rfl)
  .simp -implicitDefEqProofs [-elems,code_30,res_30,ann_30,he,hl0,maxLenA,hm]
   exact ret1 (v:=.rf h.length 0 0 l.length (.own 1)) (by simp [deferred,dslot]) rfl (by simpa using fe.2 hl0)
 | _=>simp [isNilK] at hn
set_option maxHeartbeats 4000000 in
theorem cloneS_nil (j:Nat) (es:List AV) {h:AHeap}:AEx PP Gl 30 [.sl j es .nil] h (.ret (.sl 0 [] .nil)) h:=by
 refine enter_30 (by simp) ?_
 simp -implicitDefEqProofs [code_30,res_30,ann_30]
 exact retE (v:=.sl 0 [] .nil) (by simp [deferred,dslot]) rfl rfl rfl
set_option maxHeartbeats 4000000 in
theorem compactS_sl (k:Nat) (c:Cap) {h:AHeap}:AEx PP Gl 40 [.sl k [] c] h (.ret (.sl k [] c)) h:=by
 refine enter_40 (by simp) ?_
 simp -implicitDefEqProofs [code_40,res_40,ann_40]
 exact retE (v:=.sl k [] c) (by simp [deferred,dslot]) rfl rfl rfl
def cellsS (A:List ByteArray) (rest:List AV):List AV:=A.flatMap (fun x=>(sv x).cells)++rest
set_option maxHeartbeats 8000000 in
theorem compactS_c (l:List ByteArray) (o g:Nat) (rest:List AV) {h:AHeap} (ho:h[o]?=some (.cells g (cellsS l rest))) (hl:l.length <= 2 ^ 31) :
  ∃ z,AEx PP Gl 40 [.rf o g 0 l.length (.own 1)] h (.ret (.rf o g 0 (cpF l).length (.own 1))) (h.set o (.cells g (cellsS (cpF l) z))):=by
 have hol:=lt_of ho
 by_cases hsame:cpF l=l
 .refine ⟨rest,?_⟩
  have hh:h.set o (.cells g (cellsS (cpF l) rest))=h:=by
   rw [hsame]
   refine List.ext_getElem? fun i=>?_
   by_cases e:o=i
   .subst e; rw [List.getElem?_set_self hol,ho]
   .rw [List.getElem?_set_ne e]
  rw [hh,hsame]
  refine enter_40 (by simp) ?_
  simp -implicitDefEqProofs [code_40,res_40,ann_40]
  by_cases h2:l.length < 2
  .have h2':(l.length:Int) < 2:=by omega
   simp -implicitDefEqProofs [h2']
   refine ⟨?_,fun h3=>by omega⟩
   exact retE (v:=.rf o g 0 l.length (.own 1)) (by simp [deferred,dslot]) rfl rfl rfl
  have h2':¬ (l.length:Int) < 2:=by omega
  have h2'':(2:Int) <= l.length:=by omega
  simp -implicitDefEqProofs [h2',h2'']
  have hadj:=cp_adj hsame
  obtain ⟨CF,hCF⟩:∃ CF:List AV,CF=cellsS l rest:=⟨_,rfl⟩
  rw [<- hCF] at ho
  have hlen:∀ i,i < l.length -> i * 1+1 <= CF.length:=fun i hi=>by
   rw [hCF]
   unfold cellsS
   rw [List.length_append,rowLen (k:=1) (fun _=>rfl)]
   omega
  have hcut:∀ i (x:ByteArray),l[i]?=some x -> List.take 1 (List.drop (i * 1) CF)=(sv x).cells:=fun i x hx=>by rw [hCF]; exact rowCut (k:=1) (fun _=>rfl) l rest i x hx
  refine AWp.till (S:=Nat) 1 (fun i=>l.length - i) [0] (fun i=>[(3,i64 (i:Int))]) (fun _=>h) (fun i=>1 <= i /\ i <= l.length) mixed ⟨by omega,by omega⟩ (le_of (by simp [dslot])) rfl ?_
  rintro i ⟨z1,z2⟩
  by_cases hi:i < l.length
  case neg =>
   have hno:¬ (i:Int) < l.length:=by omega
   have hno':(l.length:Int) <= i:=by omega
   simp -implicitDefEqProofs [lp0_40,hno,hno']
   exact retE (v:=.rf o g 0 l.length (.own 1)) (by simp [deferred,dslot]) rfl rfl rfl
  obtain ⟨j,rfl⟩:∃ j,i=j+1:=⟨i - 1,by omega⟩
  obtain ⟨x,hx⟩:∃ x,l[j+1]?=some x:=⟨l[j+1],by simp [hi]⟩
  obtain ⟨y,hy⟩:∃ y,l[j]?=some y:=⟨l[j]'(by omega),by simp⟩
  have hlt:((j+1:Nat):Int) < l.length:=by omega
  have hlt':(j:Int)+1 < l.length:=by omega
  have hji:((j+1:Nat):Int) - 1=j:=by omega
  have hji':(j:Int)+1 - 1=j:=by omega
  have wi:IntKind.i64.wrap ((j:Int)+1+1)=(j:Int)+1+1:=IntWalk.i64_in _ (by omega)
  have wj:IntKind.i64.wrap (j:Int)=(j:Int):=IntWalk.i64_in _ (by omega)
  have hj:j < l.length:=by omega
  have e1:=hcut _ x hx
  have e2:=hcut _ y hy
  have l1:=hlen (j+1) hi
  have l2:=hlen j hj
  have hjn:(0:Int) <= (j:Int)+1:=by omega
  have htn:((j:Int)+1).toNat=j+1:=by omega
  have hne:=hadj j x y hx hy
  have one:∀ (i:Nat) (v:AV),List.take 1 (List.drop (i * 1) CF)=[v] -> CF[i]?=some v:=fun i v hv=>by
   rw [Nat.mul_one] at hv
   have:=congrArg (fun l=>l[0]?) hv
   simp only [List.getElem?_take,List.getElem?_drop] at this
   simpa using this
  have g1:CF[j+1]?=some (sv x):=one _ _ e1
  have g2:CF[j]?=some (sv y):=one _ _ e2
  simp -implicitDefEqProofs [lp0_40,hlt,hlt',hi,hj,ho,hji,hji',wi,wj,hjn,htn,g1,g2,hne]
  exact ⟨j+1+1,by omega,⟨by omega,by omega⟩,le_of (by simp [dslot])⟩
 .
  obtain ⟨k0,hk1,hkl,hpre,x0,hx0,hy0⟩:=cpF_first hsame
  refine ⟨(List.replicate (l.length - (cpF l).length) [.sc (.string ⟨#[]⟩)]).flatten++rest,?_⟩
  have hadj:∀ (i:Nat) (x y:ByteArray),i+1 < k0 -> l[i+1]?=some x -> l[i]?=some y -> ¬ x=y:=fun i x y hi hx hy=>cp_adj hpre i x y (by rw [List.getElem?_take,if_pos hi]; exact hx) (by rw [List.getElem?_take,if_pos (by omega)]; exact hy)
  obtain ⟨CF,hCF⟩:∃ CF:List ByteArray -> List AV,CF=fun A=>cellsS A rest:=⟨_,rfl⟩
  have hlen:∀ (A:List ByteArray) (i:Nat),A.length=l.length -> i < l.length -> i * 1+1 <= (CF A).length:=fun A i hA hi=>by
   rw [hCF]
   simp only [cellsS]
   rw [List.length_append,rowLen (k:=1) (fun _=>rfl),hA]
   omega
  have hcut:∀ (A:List ByteArray) (i:Nat) (x:ByteArray),A[i]?=some x -> List.take 1 (List.drop (i * 1) (CF A))=(sv x).cells:=fun A i x hx=>by rw [hCF]; exact rowCut (k:=1) (fun _=>rfl) A rest i x hx
  have hst:∀ (A:List ByteArray) (i:Nat) (x:ByteArray),i < A.length -> List.take (i * 1) (CF A)++((sv x).cells++List.drop (i * 1+1) (CF A))=CF (A.set i x):=fun A i x hi=>by rw [hCF]; exact rowSet (k:=1) (fun _=>rfl) A rest i x hi
  have hcl:∀ (A:List ByteArray) (k:Nat) (zs:List AV),A.length=l.length -> k <= l.length -> List.take (k * 1) (CF A)++(zs++List.drop (k * 1+(l.length - k) * 1) (CF A))=cellsS (A.take k) (zs++rest):=fun A k zs hA hk=>by
   rw [hCF]
   simp only [cellsS]
   have hl2:=rowLen (f:=fun x=>(sv x).cells) (k:=1) (fun _=>rfl) A
   have he:k * 1+(l.length - k) * 1=(A.flatMap fun x=>(sv x).cells).length:=by rw [hl2,hA]; omega
   rw [he,List.drop_left,List.take_append_of_le_length (by rw [hl2,hA]; omega),rowTake (k:=1) (fun _=>rfl)]
  have hh:h=h.set o (.cells g (CF l)):=by
   rw [hCF]
   refine List.ext_getElem? fun i=>?_
   by_cases e:o=i
   .subst e; rw [List.getElem?_set_self hol,ho]
   .rw [List.getElem?_set_ne e]
  have hgA:∀ A:List ByteArray,(h.set o (.cells g (CF A)))[o]?=some (.cells g (CF A)):=fun A=>by rw [List.getElem?_set_self hol]
  have hoc:h[o]?=some (.cells g (CF l)):=by rw [hCF]; exact ho
  refine enter_40 (by simp) ?_
  have h2':¬ (l.length:Int) < 2:=by omega
  have h2'':(2:Int) <= l.length:=by omega
  simp -implicitDefEqProofs [code_40,res_40,ann_40,h2',h2'']
  refine AWp.till (S:=Nat) 1 (fun i=>l.length - i) [0] (fun i=>[(3,i64 (i:Int))]) (fun _=>h) (fun i=>1 <= i /\ i <= k0) mixed ⟨by omega,hk1⟩ (le_of (by simp [dslot])) rfl ?_
  rintro i ⟨z1,z2⟩
  have hi:i < l.length:=by omega
  obtain ⟨j,rfl⟩:∃ j,i=j+1:=⟨i - 1,by omega⟩
  obtain ⟨x,hx⟩:∃ x,l[j+1]?=some x:=⟨l[j+1],by simp [hi]⟩
  obtain ⟨y,hy⟩:∃ y,l[j]?=some y:=⟨l[j]'(by omega),by simp⟩
  have hlt:((j+1:Nat):Int) < l.length:=by omega
  have hlt':(j:Int)+1 < l.length:=by omega
  have hji:((j+1:Nat):Int) - 1=j:=by omega
  have hji':(j:Int)+1 - 1=j:=by omega
  have wi:IntKind.i64.wrap ((j:Int)+1+1)=(j:Int)+1+1:=IntWalk.i64_in _ (by omega)
  have wj:IntKind.i64.wrap (j:Int)=(j:Int):=IntWalk.i64_in _ (by omega)
  have hj:j < l.length:=by omega
  have e1:=hcut l _ x hx
  have e2:=hcut l _ y hy
  have l1:=hlen l (j+1) rfl hi
  have l2:=hlen l j rfl hj
  have hjn:(0:Int) <= (j:Int)+1:=by omega
  have htn:((j:Int)+1).toNat=j+1:=by omega
  by_cases hik:j+1 < k0
  .have hne:=hadj j x y hik hx hy
   have one:∀ (i:Nat) (v:AV),List.take 1 (List.drop (i * 1) (CF l))=[v] -> (CF l)[i]?=some v:=fun i v hv=>by
    rw [Nat.mul_one] at hv
    have:=congrArg (fun l=>l[0]?) hv
    simp only [List.getElem?_take,List.getElem?_drop] at this
    simpa using this
   have g1:(CF l)[j+1]?=some (sv x):=one _ _ e1
   have g2:(CF l)[j]?=some (sv y):=one _ _ e2
   simp -implicitDefEqProofs [lp0_40,hlt,hlt',hi,hj,hoc,hji,hji',wi,wj,hjn,htn,g1,g2,hne]
   exact ⟨j+1+1,by omega,⟨by omega,by omega⟩,le_of (by simp [dslot])⟩
  .obtain rfl:k0=j+1:=by omega
   have exy:x=x0:=by rw [hx] at hx0; exact Option.some.inj hx0
   have eyy:y=x0:=by simp only [Nat.add_sub_cancel] at hy0; rw [hy] at hy0; exact Option.some.inj hy0
   subst exy
   subst eyy
   have hdup:cpF (l.take (j+1+1))=cpF (l.take (j+1)):=by rw [cpF_take hx hy,if_pos rfl,List.append_nil]
   have hk00:¬ (j+1=0):=by omega
   have hx0':=hx
   have hle1:j+1 <= l.length:=by omega
   have hle2:(j:Int)+1 <= l.length:=by omega
   have one:∀ (A:List ByteArray) (i:Nat) (v:AV),List.take 1 (List.drop (i * 1) (CF A))=[v] -> (CF A)[i]?=some v:=fun A i v hv=>by
    rw [Nat.mul_one] at hv
    have:=congrArg (fun l=>l[0]?) hv
    simp only [List.getElem?_take,List.getElem?_drop] at this
    simpa using this
   have g1:(CF l)[j+1]?=some (sv y):=one l _ _ e1
   have g2:(CF l)[j]?=some (sv y):=one l _ _ e2
   simp -implicitDefEqProofs [lp0_40,hlt,hlt',hi,hj,hoc,hji,hji',wi,wj,hjn,htn,g1,g2,hle1,hle2]
   refine AWp.till (S:=CpS ByteArray) ⟨j+1,1,l⟩ (fun s=>l.length - s.q) [0,4] (fun s=>[(3,i64 (s.k:Int)),(5,i64 (s.q:Int))]) (fun s=>h.set o (.cells g (CF s.A)))
    (fun s=>s.A.length=l.length /\ s.A.take s.k=cpF (l.take (j+1+s.q)) /\ s.k=(cpF (l.take (j+1+s.q))).length /\ s.A.drop (j+s.q)=l.drop (j+s.q) /\ 1 <= s.q /\ j+1+s.q <= l.length /\ s.k <= j+s.q) mixed
    ⟨rfl,by simp only; rw [hdup,hpre],by simp only; rw [hdup,hpre,List.length_take]; omega,rfl,Nat.le_refl _,by simp only; omega,by simp only; omega⟩ (le_of (by simp [dslot])) hh ?_
   rintro ⟨k,q,A⟩ ⟨y1,y2,y3,y4,y5,y6,y7⟩
   simp only at y1 y2 y3 y4 y5 y6 y7
   by_cases hq:q < l.length - (j+1)
   case neg =>
    have hno:¬ (q:Int) < ((l.length - (j+1):Nat):Int):=by omega
    have hno':((l.length - (j+1):Nat):Int) <= q:=by omega
    have hend:j+1+q=l.length:=by omega
    have hL:cpF (l.take (j+1+q))=cpF l:=by rw [hend,List.take_of_length_le (Nat.le_refl _)]
    rw [hL] at y2 y3
    have hkn:k < l.length:=by omega
    have hnk:¬ (l.length - k=0):=by omega
    have hkn':k <= l.length:=by omega
    have hknI:(k:Int) <= l.length:=by omega
    have hlenA:=hlen A (l.length - 1) y1 (by omega)
    have hb:k * 1+(l.length - k) * 1 <= (CF A).length:=by omega
    have hfin:=hcl A k ((List.replicate (l.length - k) [.sc (.string ⟨#[]⟩)]).flatten) y1 hkn'
    rw [y2] at hfin
    have hb':l.length <= (CF A).length:=by omega
    simp [hkn'] at hfin
    simp -implicitDefEqProofs [lp1_40,hno,hno',hgA,hnk,hkn',hknI,hb',hfin]
    refine ret1 (v:=.rf o g 0 k (.own 1)) (by simp [deferred,dslot]) (by simp [evalRes,evalRes1]) ⟨by rw [y3],?_⟩
    rw [y3]
   obtain ⟨p,rfl⟩:∃ p,q=p+1:=⟨q - 1,by omega⟩
   have hlq:j+1+p+1 < l.length:=by omega
   obtain ⟨a,ha⟩:∃ a,l[j+1+p+1]?=some a:=⟨l[j+1+p+1],by simp [hlq]⟩
   obtain ⟨b,hb⟩:∃ b,l[j+1+p]?=some b:=⟨l[j+1+p]'(by omega),by simp⟩
   have haA:A[j+1+p+1]?=some a:=by rw [drop_get y4 (by omega),ha]
   have hbA:A[j+1+p]?=some b:=by rw [drop_get y4 (by omega),hb]
   have hstep:=cpF_take ha hb
   have f1:=hcut A _ a haA
   have f2:=hcut A _ b hbA
   have m1:=hlen A _ y1 hlq
   have m2:=hlen A (j+1+p) y1 (by omega)
   have hkl2:k < l.length:=by omega
   have m3:=hlen A k y1 hkl2
   have hq1:(p:Int)+1 < ((l.length - (j+1):Nat):Int):=by omega
   have hq2:p+1 < l.length - (j+1):=hq
   have hq3:p < l.length - (j+1):=by omega
   have hpp:(p:Int)+1 - 1=p:=by omega
   have wp:IntKind.i64.wrap (p:Int)=p:=IntWalk.i64_in _ (by omega)
   have wp2:IntKind.i64.wrap ((p:Int)+1+1)=(p:Int)+1+1:=IntWalk.i64_in _ (by omega)
   have wk:IntKind.i64.wrap ((k:Int)+1)=(k:Int)+1:=IntWalk.i64_in _ (by omega)
   have hpn:(0:Int) <= (p:Int)+1:=by omega
   have hpt:((p:Int)+1).toNat=p+1:=by omega
   have hkA:k < A.length:=by omega
   have hsa:=hst A k a hkA
   have hnext:¬ a=b -> l.length - (⟨k+1,p+1+1,A.set k a⟩:CpS ByteArray).q < l.length - (p+1) /\ (A.set k a).length=l.length /\ (A.set k a).take (k+1)=cpF (l.take (j+1+(p+1+1))) /\ k+1=(cpF (l.take (j+1+(p+1+1)))).length /\ (A.set k a).drop (j+(p+1+1))=l.drop (j+(p+1+1)) /\ 1 <= p+1+1 /\ j+1+(p+1+1) <= l.length /\ k+1 <= j+(p+1+1):=fun e=>by
    rw [if_neg e] at hstep
    rw [show j+1+(p+1+1)=j+1+p+1+1 by omega,hstep,show j+1+p+1=j+1+(p+1) by omega,<- y2]
    refine ⟨by simp only; omega,by simp [y1],set_take A k a hkA,by rw [y2,List.length_append,<- y3]; rfl,?_,by omega,by omega,by omega⟩
    rw [set_drop A k _ a (by omega)]
    exact drop_more y4 (by omega)
   have hskip:a=b -> l.length - (⟨k,p+1+1,A⟩:CpS ByteArray).q < l.length - (p+1) /\ A.length=l.length /\ A.take k=cpF (l.take (j+1+(p+1+1))) /\ k=(cpF (l.take (j+1+(p+1+1)))).length /\ A.drop (j+(p+1+1))=l.drop (j+(p+1+1)) /\ 1 <= p+1+1 /\ j+1+(p+1+1) <= l.length /\ k <= j+(p+1+1):=fun e=>by
    rw [if_pos e,List.append_nil] at hstep
    rw [show j+1+(p+1+1)=j+1+p+1+1 by omega,hstep,show j+1+p+1=j+1+(p+1) by omega]
    exact ⟨by simp only; omega,y1,y2,y3,drop_more y4 (by omega),by omega,by omega,by omega⟩
   have g3:(CF A)[j+1+(p+1)]?=some (sv a):=one A _ _ f1
   have g4:(CF A)[j+1+p]?=some (sv b):=one A _ _ f2
   have g5:∃ c,(CF A)[k]?=some c:=⟨(CF A)[k]'(by omega),by simp⟩
   simp at hsa
   have m3':k+1 <= (CF A).length:=by omega
   by_cases e:a=b
   .simp -implicitDefEqProofs [lp1_40,hq1,hq2,hq3,hpp,wp,wp2,wk,hpn,hpt,hgA,g3,g4,e]
    exact ⟨⟨k,p+1+1,A⟩,(hskip e).1,(hskip e).2,le_of (by simp [dslot]),rfl⟩
   .simp -implicitDefEqProofs [lp1_40,hq1,hq2,hq3,hpp,wp,wp2,wk,hpn,hpt,hgA,g3,g4,e,hkl2,m3',hsa]
    exact ⟨⟨k+1,p+1+1,A.set k a⟩,(hnext e).1,(hnext e).2,le_of (by simp [dslot]),rfl⟩
set_option maxHeartbeats 4000000 in
theorem cloneP_c (l:List Pr) (u:AV) {h:AHeap} (hn:isNilK .sl u=some false) (he:elems h 2 u=some (l.map encP)) (hl:l.length <= 2 ^ 31) :
  AEx PP Gl 47 [u] h (.ret (cpV 2 h (l.map encP))) (cpH h (l.map encP)):=by
 have fin:∀ C:AEnd -> AHeap -> Prop,C=(fun r h'=>r=.ret (cpV 2 h (l.map encP)) /\ h'=cpH h (l.map encP)) -> (l=[] -> C (.ret (.sl 2 [] .full)) h) /\ (l ≠ [] -> C (.ret (.rf h.length 0 0 l.length (.own 2))) (h++[.cells 0 ((l.map encP).flatMap AV.cells)])):=by
  rintro _ rfl
  refine ⟨fun e=>by subst e; exact ⟨rfl,rfl⟩,fun e=>?_⟩
  have h1:¬ (l.map encP=[]):=by simpa using e
  exact ⟨by unfold cpV; rw [if_neg h1]; simp,by unfold cpH; rw [if_neg h1]⟩
 refine enter_47 (by simp) ?_
 have hm:l.length <= 4294967296:=by omega
 have fe:=fin _ rfl
 cases u with
 | sl j es c =>
  have hn':(c == Cap.nil)=false:=by simpa [isNilK] using hn
  have hc:c ≠ .nil:=by rintro rfl; simp at hn'
  simp only [elems] at he
  split at he
  .rename_i hj
   simp only [Option.some.injEq] at he
   subst he
   by_cases hl0:l=[]
   .subst hl0
    simp -implicitDefEqProofs [code_47,res_47,ann_47,hc]
    exact ret1 (v:=.sl 2 [] .full) (by simp [deferred,dslot]) rfl (fe.1 rfl)
   .have hj':j=2:=hj.resolve_right (by simpa using hl0)
    subst hj'
    simp -implicitDefEqProofs [code_47,res_47,ann_47,hc,hl0,maxLenA,hm]
    exact ret1 (v:=.rf h.length 0 0 l.length (.own 2)) (by simp [deferred,dslot]) rfl (by simpa using fe.2 hl0)
  .cases he
 | rf o g off len rc =>
  by_cases hl0:l=[]
  .subst hl0
   simp -implicitDefEqProofs [-elems,code_47,res_47,ann_47,he]
   exact ret1 (v:=.sl 2 [] .full) (by simp [deferred,dslot]) rfl (fe.1 rfl)
  .simp -implicitDefEqProofs [-elems,code_47,res_47,ann_47,he,hl0,maxLenA,hm]
   exact ret1 (v:=.rf h.length 0 0 l.length (.own 2)) (by simp [deferred,dslot]) rfl (by simpa using fe.2 hl0)
 | _=>simp [isNilK] at hn
set_option maxHeartbeats 4000000 in
theorem cloneP_nil (j:Nat) (es:List AV) {h:AHeap}:AEx PP Gl 47 [.sl j es .nil] h (.ret (.sl 0 [] .nil)) h:=by
 refine enter_47 (by simp) ?_
 simp -implicitDefEqProofs [code_47,res_47,ann_47]
 exact retE (v:=.sl 0 [] .nil) (by simp [deferred,dslot]) rfl rfl rfl
set_option maxHeartbeats 4000000 in
theorem compactP_sl (k:Nat) (c:Cap) {h:AHeap}:AEx PP Gl 50 [.sl k [] c] h (.ret (.sl k [] c)) h:=by
 refine enter_50 (by simp) ?_
 simp -implicitDefEqProofs [code_50,res_50,ann_50]
 exact retE (v:=.sl k [] c) (by simp [deferred,dslot]) rfl rfl rfl
def cellsP (A:List Pr) (rest:List AV):List AV:=A.flatMap (fun x=>(encP x).cells)++rest
set_option maxHeartbeats 8000000 in
theorem compactP_c (l:List Pr) (o g:Nat) (rest:List AV) {h:AHeap} (ho:h[o]?=some (.cells g (cellsP l rest))) (hl:l.length <= 2 ^ 31) :
  ∃ z,AEx PP Gl 50 [.rf o g 0 l.length (.own 2)] h (.ret (.rf o g 0 (cpF l).length (.own 2))) (h.set o (.cells g (cellsP (cpF l) z))):=by
 have hol:=lt_of ho
 by_cases hsame:cpF l=l
 .refine ⟨rest,?_⟩
  have hh:h.set o (.cells g (cellsP (cpF l) rest))=h:=by
   rw [hsame]
   refine List.ext_getElem? fun i=>?_
   by_cases e:o=i
   .subst e; rw [List.getElem?_set_self hol,ho]
   .rw [List.getElem?_set_ne e]
  rw [hh,hsame]
  refine enter_50 (by simp) ?_
  simp -implicitDefEqProofs [code_50,res_50,ann_50]
  by_cases h2:l.length < 2
  .have h2':(l.length:Int) < 2:=by omega
   simp -implicitDefEqProofs [h2']
   refine ⟨?_,fun h3=>by omega⟩
   exact retE (v:=.rf o g 0 l.length (.own 2)) (by simp [deferred,dslot]) rfl rfl rfl
  have h2':¬ (l.length:Int) < 2:=by omega
  have h2'':(2:Int) <= l.length:=by omega
  simp -implicitDefEqProofs [h2',h2'']
  have hadj:=cp_adj hsame
  obtain ⟨CF,hCF⟩:∃ CF:List AV,CF=cellsP l rest:=⟨_,rfl⟩
  rw [<- hCF] at ho
  have hlen:∀ i,i < l.length -> i * 2+2 <= CF.length:=fun i hi=>by
   rw [hCF]
   unfold cellsP
   rw [List.length_append,rowLen (k:=2) (fun _=>rfl)]
   omega
  have hcut:∀ i (x:Pr),l[i]?=some x -> List.take 2 (List.drop (i * 2) CF)=(encP x).cells:=fun i x hx=>by rw [hCF]; exact rowCut (k:=2) (fun _=>rfl) l rest i x hx
  refine AWp.till (S:=Nat) 1 (fun i=>l.length - i) [0] (fun i=>[(3,i64 (i:Int))]) (fun _=>h) (fun i=>1 <= i /\ i <= l.length) mixed ⟨by omega,by omega⟩ (le_of (by simp [dslot])) rfl ?_
  rintro i ⟨z1,z2⟩
  by_cases hi:i < l.length
  case neg =>
   have hno:¬ (i:Int) < l.length:=by omega
   have hno':(l.length:Int) <= i:=by omega
   simp -implicitDefEqProofs [lp0_50,hno,hno']
   exact retE (v:=.rf o g 0 l.length (.own 2)) (by simp [deferred,dslot]) rfl rfl rfl
  obtain ⟨j,rfl⟩:∃ j,i=j+1:=⟨i - 1,by omega⟩
  obtain ⟨x,hx⟩:∃ x,l[j+1]?=some x:=⟨l[j+1],by simp [hi]⟩
  obtain ⟨y,hy⟩:∃ y,l[j]?=some y:=⟨l[j]'(by omega),by simp⟩
  have hlt:((j+1:Nat):Int) < l.length:=by omega
  have hlt':(j:Int)+1 < l.length:=by omega
  have hji:((j+1:Nat):Int) - 1=j:=by omega
  have hji':(j:Int)+1 - 1=j:=by omega
  have wi:IntKind.i64.wrap ((j:Int)+1+1)=(j:Int)+1+1:=IntWalk.i64_in _ (by omega)
  have wj:IntKind.i64.wrap (j:Int)=(j:Int):=IntWalk.i64_in _ (by omega)
  have hj:j < l.length:=by omega
  have e1:=hcut _ x hx
  have e2:=hcut _ y hy
  have l1:=hlen (j+1) hi
  have l2:=hlen j hj
  have hjn:(0:Int) <= (j:Int)+1:=by omega
  have htn:((j:Int)+1).toNat=j+1:=by omega
  have hne:=hadj j x y hx hy
  obtain ⟨x1,x2⟩:=x
  obtain ⟨y1,y2⟩:=y
  simp only [cells_encP,sv_app] at e1 e2
  have l1':(j+1) * 2+2 <= CF.length:=l1
  have l2':j * 2+2 <= CF.length:=l2
  by_cases e3:x1=y1
  .have e4:¬ x2=y2:=fun e=>hne (by rw [e3,e])
   simp -implicitDefEqProofs [lp0_50,hlt,hlt',hi,hj,ho,hji,hji',wi,wj,hjn,htn,e1,e2,l1',l2',encP,e3,e4,cellsEq]
   exact ⟨j+1+1,by omega,⟨by omega,by omega⟩,le_of (by simp [dslot])⟩
  .simp -implicitDefEqProofs [lp0_50,hlt,hlt',hi,hj,ho,hji,hji',wi,wj,hjn,htn,e1,e2,l1',l2',encP,e3,cellsEq]
   exact ⟨j+1+1,by omega,⟨by omega,by omega⟩,le_of (by simp [dslot])⟩
 .
  obtain ⟨k0,hk1,hkl,hpre,x0,hx0,hy0⟩:=cpF_first hsame
  refine ⟨(List.replicate (l.length - (cpF l).length) [.sc (.string ⟨#[]⟩),.sc (.string ⟨#[]⟩)]).flatten++rest,?_⟩
  have hadj:∀ (i:Nat) (x y:Pr),i+1 < k0 -> l[i+1]?=some x -> l[i]?=some y -> ¬ x=y:=fun i x y hi hx hy=>cp_adj hpre i x y (by rw [List.getElem?_take,if_pos hi]; exact hx) (by rw [List.getElem?_take,if_pos (by omega)]; exact hy)
  obtain ⟨CF,hCF⟩:∃ CF:List Pr -> List AV,CF=fun A=>cellsP A rest:=⟨_,rfl⟩
  have hlen:∀ (A:List Pr) (i:Nat),A.length=l.length -> i < l.length -> i * 2+2 <= (CF A).length:=fun A i hA hi=>by
   rw [hCF]
   simp only [cellsP]
   rw [List.length_append,rowLen (k:=2) (fun _=>rfl),hA]
   omega
  have hcut:∀ (A:List Pr) (i:Nat) (x:Pr),A[i]?=some x -> List.take 2 (List.drop (i * 2) (CF A))=(encP x).cells:=fun A i x hx=>by rw [hCF]; exact rowCut (k:=2) (fun _=>rfl) A rest i x hx
  have hst:∀ (A:List Pr) (i:Nat) (x:Pr),i < A.length -> List.take (i * 2) (CF A)++((encP x).cells++List.drop (i * 2+2) (CF A))=CF (A.set i x):=fun A i x hi=>by rw [hCF]; exact rowSet (k:=2) (fun _=>rfl) A rest i x hi
  have hcl:∀ (A:List Pr) (k:Nat) (zs:List AV),A.length=l.length -> k <= l.length -> List.take (k * 2) (CF A)++(zs++List.drop (k * 2+(l.length - k) * 2) (CF A))=cellsP (A.take k) (zs++rest):=fun A k zs hA hk=>by
   rw [hCF]
   simp only [cellsP]
   have hl2:=rowLen (f:=fun x=>(encP x).cells) (k:=2) (fun _=>rfl) A
   have he:k * 2+(l.length - k) * 2=(A.flatMap fun x=>(encP x).cells).length:=by rw [hl2,hA]; omega
   rw [he,List.drop_left,List.take_append_of_le_length (by rw [hl2,hA]; omega),rowTake (k:=2) (fun _=>rfl)]
  have hh:h=h.set o (.cells g (CF l)):=by
   rw [hCF]
   refine List.ext_getElem? fun i=>?_
   by_cases e:o=i
   .subst e; rw [List.getElem?_set_self hol,ho]
   .rw [List.getElem?_set_ne e]
  have hgA:∀ A:List Pr,(h.set o (.cells g (CF A)))[o]?=some (.cells g (CF A)):=fun A=>by rw [List.getElem?_set_self hol]
  have hoc:h[o]?=some (.cells g (CF l)):=by rw [hCF]; exact ho
  refine enter_50 (by simp) ?_
  have h2':¬ (l.length:Int) < 2:=by omega
  have h2'':(2:Int) <= l.length:=by omega
  simp -implicitDefEqProofs [code_50,res_50,ann_50,h2',h2'']
  refine AWp.till (S:=Nat) 1 (fun i=>l.length - i) [0] (fun i=>[(3,i64 (i:Int))]) (fun _=>h) (fun i=>1 <= i /\ i <= k0) mixed ⟨by omega,hk1⟩ (le_of (by simp [dslot])) rfl ?_
  rintro i ⟨z1,z2⟩
  have hi:i < l.length:=by omega
  obtain ⟨j,rfl⟩:∃ j,i=j+1:=⟨i - 1,by omega⟩
  obtain ⟨x,hx⟩:∃ x,l[j+1]?=some x:=⟨l[j+1],by simp [hi]⟩
  obtain ⟨y,hy⟩:∃ y,l[j]?=some y:=⟨l[j]'(by omega),by simp⟩
  have hlt:((j+1:Nat):Int) < l.length:=by omega
  have hlt':(j:Int)+1 < l.length:=by omega
  have hji:((j+1:Nat):Int) - 1=j:=by omega
  have hji':(j:Int)+1 - 1=j:=by omega
  have wi:IntKind.i64.wrap ((j:Int)+1+1)=(j:Int)+1+1:=IntWalk.i64_in _ (by omega)
  have wj:IntKind.i64.wrap (j:Int)=(j:Int):=IntWalk.i64_in _ (by omega)
  have hj:j < l.length:=by omega
  have e1:=hcut l _ x hx
  have e2:=hcut l _ y hy
  have l1:=hlen l (j+1) rfl hi
  have l2:=hlen l j rfl hj
  have hjn:(0:Int) <= (j:Int)+1:=by omega
  have htn:((j:Int)+1).toNat=j+1:=by omega
  by_cases hik:j+1 < k0
  .have hne:=hadj j x y hik hx hy
   obtain ⟨x1,x2⟩:=x
   obtain ⟨y1,y2⟩:=y
   simp only [cells_encP,sv_app] at e1 e2
   have l1':(j+1) * 2+2 <= (CF l).length:=l1
   have l2':j * 2+2 <= (CF l).length:=l2
   by_cases e3:x1=y1
   .have e4:¬ x2=y2:=fun e=>hne (by rw [e3,e])
    simp -implicitDefEqProofs [lp0_50,hlt,hlt',hi,hj,hoc,hji,hji',wi,wj,hjn,htn,e1,e2,l1',l2',encP,e3,e4,cellsEq]
    exact ⟨j+1+1,by omega,⟨by omega,by omega⟩,le_of (by simp [dslot])⟩
   .simp -implicitDefEqProofs [lp0_50,hlt,hlt',hi,hj,hoc,hji,hji',wi,wj,hjn,htn,e1,e2,l1',l2',encP,e3,cellsEq]
    exact ⟨j+1+1,by omega,⟨by omega,by omega⟩,le_of (by simp [dslot])⟩
  .obtain rfl:k0=j+1:=by omega
   have exy:x=x0:=by rw [hx] at hx0; exact Option.some.inj hx0
   have eyy:y=x0:=by simp only [Nat.add_sub_cancel] at hy0; rw [hy] at hy0; exact Option.some.inj hy0
   subst exy
   subst eyy
   have hdup:cpF (l.take (j+1+1))=cpF (l.take (j+1)):=by rw [cpF_take hx hy,if_pos rfl,List.append_nil]
   have hk00:¬ (j+1=0):=by omega
   have hx0':=hx
   have hle1:j+1 <= l.length:=by omega
   have hle2:(j:Int)+1 <= l.length:=by omega
   obtain ⟨x1,x2⟩:=y
   simp only [cells_encP,sv_app] at e1 e2
   have l1':(j+1) * 2+2 <= (CF l).length:=l1
   have l2':j * 2+2 <= (CF l).length:=l2
   simp -implicitDefEqProofs [lp0_50,hlt,hlt',hi,hj,hoc,hji,hji',wi,wj,hjn,htn,e1,e2,l1',l2',hle1,hle2,encP,cellsEq]
   refine AWp.till (S:=CpS Pr) ⟨j+1,1,l⟩ (fun s=>l.length - s.q) [0,4] (fun s=>[(3,i64 (s.k:Int)),(5,i64 (s.q:Int))]) (fun s=>h.set o (.cells g (CF s.A)))
    (fun s=>s.A.length=l.length /\ s.A.take s.k=cpF (l.take (j+1+s.q)) /\ s.k=(cpF (l.take (j+1+s.q))).length /\ s.A.drop (j+s.q)=l.drop (j+s.q) /\ 1 <= s.q /\ j+1+s.q <= l.length /\ s.k <= j+s.q) mixed
    ⟨rfl,by simp only; rw [hdup,hpre],by simp only; rw [hdup,hpre,List.length_take]; omega,rfl,Nat.le_refl _,by simp only; omega,by simp only; omega⟩ (le_of (by simp [dslot])) hh ?_
   rintro ⟨k,q,A⟩ ⟨y1,y2,y3,y4,y5,y6,y7⟩
   simp only at y1 y2 y3 y4 y5 y6 y7
   by_cases hq:q < l.length - (j+1)
   case neg =>
    have hno:¬ (q:Int) < ((l.length - (j+1):Nat):Int):=by omega
    have hno':((l.length - (j+1):Nat):Int) <= q:=by omega
    have hend:j+1+q=l.length:=by omega
    have hL:cpF (l.take (j+1+q))=cpF l:=by rw [hend,List.take_of_length_le (Nat.le_refl _)]
    rw [hL] at y2 y3
    have hkn:k < l.length:=by omega
    have hnk:¬ (l.length - k=0):=by omega
    have hkn':k <= l.length:=by omega
    have hknI:(k:Int) <= l.length:=by omega
    have hlenA:=hlen A (l.length - 1) y1 (by omega)
    have hb:k * 2+(l.length - k) * 2 <= (CF A).length:=by omega
    have hfin:=hcl A k ((List.replicate (l.length - k) [.sc (.string ⟨#[]⟩),.sc (.string ⟨#[]⟩)]).flatten) y1 hkn'
    rw [y2] at hfin
    try simp [hkn'] at hfin
    simp -implicitDefEqProofs [lp1_50,hno,hno',hgA,hnk,hkn',hknI,hb,hfin]
    refine ret1 (v:=.rf o g 0 k (.own 2)) (by simp [deferred,dslot]) (by simp [evalRes,evalRes1]) ⟨by rw [y3],?_⟩
    rw [y3]
   obtain ⟨p,rfl⟩:∃ p,q=p+1:=⟨q - 1,by omega⟩
   have hlq:j+1+p+1 < l.length:=by omega
   obtain ⟨a,ha⟩:∃ a,l[j+1+p+1]?=some a:=⟨l[j+1+p+1],by simp [hlq]⟩
   obtain ⟨b,hb⟩:∃ b,l[j+1+p]?=some b:=⟨l[j+1+p]'(by omega),by simp⟩
   have haA:A[j+1+p+1]?=some a:=by rw [drop_get y4 (by omega),ha]
   have hbA:A[j+1+p]?=some b:=by rw [drop_get y4 (by omega),hb]
   have hstep:=cpF_take ha hb
   have f1:=hcut A _ a haA
   have f2:=hcut A _ b hbA
   have m1:=hlen A _ y1 hlq
   have m2:=hlen A (j+1+p) y1 (by omega)
   have hkl2:k < l.length:=by omega
   have m3:=hlen A k y1 hkl2
   have hq1:(p:Int)+1 < ((l.length - (j+1):Nat):Int):=by omega
   have hq2:p+1 < l.length - (j+1):=hq
   have hq3:p < l.length - (j+1):=by omega
   have hpp:(p:Int)+1 - 1=p:=by omega
   have wp:IntKind.i64.wrap (p:Int)=p:=IntWalk.i64_in _ (by omega)
   have wp2:IntKind.i64.wrap ((p:Int)+1+1)=(p:Int)+1+1:=IntWalk.i64_in _ (by omega)
   have wk:IntKind.i64.wrap ((k:Int)+1)=(k:Int)+1:=IntWalk.i64_in _ (by omega)
   have hpn:(0:Int) <= (p:Int)+1:=by omega
   have hpt:((p:Int)+1).toNat=p+1:=by omega
   have hkA:k < A.length:=by omega
   have hsa:=hst A k a hkA
   have hnext:¬ a=b -> l.length - (⟨k+1,p+1+1,A.set k a⟩:CpS Pr).q < l.length - (p+1) /\ (A.set k a).length=l.length /\ (A.set k a).take (k+1)=cpF (l.take (j+1+(p+1+1))) /\ k+1=(cpF (l.take (j+1+(p+1+1)))).length /\ (A.set k a).drop (j+(p+1+1))=l.drop (j+(p+1+1)) /\ 1 <= p+1+1 /\ j+1+(p+1+1) <= l.length /\ k+1 <= j+(p+1+1):=fun e=>by
    rw [if_neg e] at hstep
    rw [show j+1+(p+1+1)=j+1+p+1+1 by omega,hstep,show j+1+p+1=j+1+(p+1) by omega,<- y2]
    refine ⟨by simp only; omega,by simp [y1],set_take A k a hkA,by rw [y2,List.length_append,<- y3]; rfl,?_,by omega,by omega,by omega⟩
    rw [set_drop A k _ a (by omega)]
    exact drop_more y4 (by omega)
   have hskip:a=b -> l.length - (⟨k,p+1+1,A⟩:CpS Pr).q < l.length - (p+1) /\ A.length=l.length /\ A.take k=cpF (l.take (j+1+(p+1+1))) /\ k=(cpF (l.take (j+1+(p+1+1)))).length /\ A.drop (j+(p+1+1))=l.drop (j+(p+1+1)) /\ 1 <= p+1+1 /\ j+1+(p+1+1) <= l.length /\ k <= j+(p+1+1):=fun e=>by
    rw [if_pos e,List.append_nil] at hstep
    rw [show j+1+(p+1+1)=j+1+p+1+1 by omega,hstep,show j+1+p+1=j+1+(p+1) by omega]
    exact ⟨by simp only; omega,y1,y2,y3,drop_more y4 (by omega),by omega,by omega,by omega⟩
   obtain ⟨a1,a2⟩:=a
   obtain ⟨b1,b2⟩:=b
   simp only [cells_encP,sv_app] at f1 f2
   rw [show (j+1+p+1) * 2=(j+1) * 2+(p+1) * 2 by omega] at f1 m1
   rw [show (j+1+p) * 2=(j+1) * 2+p * 2 by omega] at f2 m2
   simp at hsa
   by_cases e:(a1,a2)=(b1,b2)
   .have e1':a1=b1:=(Prod.mk.inj e).1
    have e2':a2=b2:=(Prod.mk.inj e).2
    simp -implicitDefEqProofs [lp1_50,hq1,hq2,hq3,hpp,wp,wp2,wk,hpn,hpt,hgA,f1,f2,m1,m2,e1',e2',cellsEq]
    exact ⟨⟨k,p+1+1,A⟩,(hskip e).1,(hskip e).2,le_of (by simp [dslot]),rfl⟩
   .have hcase:a1=b1 -> ¬ a2=b2:=fun h1 h2=>e (by rw [h1,h2])
    by_cases e1':a1=b1
    .have e2':=hcase e1'
     simp -implicitDefEqProofs [lp1_50,hq1,hq2,hq3,hpp,wp,wp2,wk,hpn,hpt,hgA,f1,f2,m1,m2,m3,e1',e2',cellsEq,hkl2]
     rw [<- e1',hsa]
     exact ⟨⟨k+1,p+1+1,A.set k (a1,a2)⟩,(hnext e).1,(hnext e).2,le_of (by simp [dslot]),rfl⟩
    .simp -implicitDefEqProofs [lp1_50,hq1,hq2,hq3,hpp,wp,wp2,wk,hpn,hpt,hgA,f1,f2,m1,m2,m3,e1',cellsEq,hkl2,hsa]
     exact ⟨⟨k+1,p+1+1,A.set k (a1,a2)⟩,(hnext e).1,(hnext e).2,le_of (by simp [dslot]),rfl⟩
end Go.Apx
end
