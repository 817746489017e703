/- Walks: sort of a few numbers, and what it gives. -/
import Derived.Test.YtldhfkfncgnbmaaEA
import Derived.Test.YtldhfkfncgnbmaaCodeT
set_option linter.unusedVariables false
set_option linter.unusedSimpArgs false
set_option linter.unnecessarySimpa false
section
namespace Go.Apx
open Go.Proofs
set_option maxRecDepth 100000
theorem Lends.same {h:AHeap}:∀ {us:List AV},inbL 0 us=true -> Lends h us us
 | [],_=>.nil
 | v :: r,hb=>by
  simp only [inbL,Bool.and_eq_true] at hb
  exact .cons (lend_same hb.1) (Lends.same hb.2)
theorem KOk.at {P:Program} {G:Globs} {f:FuncId} {args:List AV} {v:AV} (hk:KOk P G ⟨f,args,[],v,[]⟩) (hv:flatV v=true) (ha:inbL 0 args=true) {h:AHeap}:AEx P G f args h (.ret v) h:=by
 refine lend (vs:=args) ((hk [] rfl).mono fun r h' hr=>?_) hv (Lends.same ha)
 obtain ⟨h1,h2,_⟩:=hr
 refine ⟨h1,?_⟩
 cases h' with
 | nil=>rfl
 | cons a b=>simp at h2
def lenK (n k:Nat):KI:=⟨77,[.sc (.int .u64 n)],[],.sc (.int .i64 k),[]⟩
theorem len_c (n:Nat) (hn:n <= 12) {h:AHeap}:∃ k:Nat,AEx PP Gl 77 [.sc (.int .u64 n)] h (.ret (.sc (.int .i64 k))) h:=by
 have key:∀ n k:Nat,(match callI PP Gl (findT tbl) [] 20 [] (lenK n k).f (lenK n k).args (lenK n k).h with
   | some (v,h')=>v.eqb (lenK n k).v && eqbH h' (lenK n k).h'
   | none=>false)=true -> AEx PP Gl 77 [.sc (.int .u64 n)] h (.ret (.sc (.int .i64 k))) h:=fun n k hk =>
  KOk.at (KOk.interp (k:=lenK n k) mixed (findT_ok tbl_ok) (by simp) 20 hk) rfl rfl
 have cases:n=0 \/ n=1 \/ n=2 \/ n=3 \/ n=4 \/ n=5 \/ n=6 \/ n=7 \/ n=8 \/ n=9 \/ n=10 \/ n=11 \/ n=12:=by omega
 rcases cases with rfl | rfl | rfl | rfl | rfl | rfl | rfl | rfl | rfl | rfl | rfl | rfl | rfl
 .exact ⟨0,key 0 0 (by kernel_rfl)⟩
 .exact ⟨1,key 1 1 (by kernel_rfl)⟩
 .exact ⟨2,key 2 2 (by kernel_rfl)⟩
 .exact ⟨2,key 3 2 (by kernel_rfl)⟩
 .exact ⟨3,key 4 3 (by kernel_rfl)⟩
 .exact ⟨3,key 5 3 (by kernel_rfl)⟩
 .exact ⟨3,key 6 3 (by kernel_rfl)⟩
 .exact ⟨3,key 7 3 (by kernel_rfl)⟩
 .exact ⟨4,key 8 4 (by kernel_rfl)⟩
 .exact ⟨4,key 9 4 (by kernel_rfl)⟩
 .exact ⟨4,key 10 4 (by kernel_rfl)⟩
 .exact ⟨4,key 11 4 (by kernel_rfl)⟩
 .exact ⟨4,key 12 4 (by kernel_rfl)⟩
theorem pdq_c (l:List Int) (o g:Nat) (rc:RCap) (lim:Int) (hl:l.length <= 12) {h:AHeap} (ho:h[o]?=some (.cells g (l.map i64))) :
  AEx PP Gl 122 [.rf o g 0 l.length rc,i64 0,i64 l.length,i64 lim] h (.ret (.tup [])) (h.set o (.cells g ((sortF l).map i64))):=by
 refine enter_slices_pdqsortOrdered_int (by simp) ?_
 simp [code_slices_pdqsortOrdered_int,res_slices_pdqsortOrdered_int,ann_slices_pdqsortOrdered_int]
 refine AWp.cnt 0 [0,1,2,3,8,9] (fun i=>[]) (fun i=>h) (fun _=>True) mixed trivial (le_of (by simp [dslot])) rfl (fun i hi=>by omega) ?_
 intro _
 have hle:(l.length:Int) <= 12:=by omega
 have hw:IntKind.i64.wrap (l.length:Int)=l.length:=IntWalk.i64_in _ (by omega)
 simp -implicitDefEqProofs [lp0_slices_pdqsortOrdered_int,hle,hw]
 refine callk (insertion_c l o g rc (by omega) ho) rfl rfl ?_
 simp
 exact retE (by simp [deferred,dslot]) rfl rfl rfl
theorem sort_c (l:List Int) (o g:Nat) (rc:RCap) (hl:l.length <= 12) {h:AHeap} (ho:h[o]?=some (.cells g (l.map i64))) :
  AEx PP Gl 113 [.rf o g 0 l.length rc] h (.ret (.tup [])) (h.set o (.cells g ((sortF l).map i64))):=by
 obtain ⟨k,hk⟩:=len_c l.length hl (h:=h)
 have hw:IntKind.u64.wrap (l.length:Int)=l.length:=by
  simp only [IntKind.wrap,IntKind.bits,IntKind.signed]
  simp
  omega
 refine enter_slices_Sort_int_int (by simp) ?_
 simp [code_slices_Sort_int_int,res_slices_Sort_int_int,ann_slices_Sort_int_int,hw]
 refine callk hk rfl rfl ?_
 simp
 refine callk (pdq_c l o g rc k hl ho) rfl rfl ?_
 simp
 exact retE (by simp [deferred,dslot]) rfl rfl rfl
theorem swp_perm (l:List Int) (j:Nat) (h:j+1 < l.length):(swp l j).Perm l:=by
 have e:swp l j=(l.set (j+1) l[j]).set j l[j+1]:=by
  simp [swp,List.getD,List.getElem?_eq_getElem h,List.getElem?_eq_getElem (show j < l.length by omega)]
 rw [e]
 have h1:l=l.take j++(l[j] :: l[j+1] :: l.drop (j+2)):=by
  rw [<- List.drop_eq_getElem_cons (i:=j+1) h,<- List.drop_eq_getElem_cons (i:=j) (by omega),List.take_append_drop]
 have h2:(l.set (j+1) l[j]).set j l[j+1]=l.take j++(l[j+1] :: l[j] :: l.drop (j+2)):=by
  apply List.ext_getElem?
  intro i
  rw [List.getElem?_set,List.getElem?_set]
  simp only [List.length_set]
  by_cases c1:j=i
  .subst c1
   rw [List.getElem?_append_right (by simp; omega)]
   simp [show j < l.length by omega,Nat.min_eq_left (show j <= l.length by omega)]
  .by_cases c2:j+1=i
   .subst c2
    rw [List.getElem?_append_right (by simp; omega)]
    simp [h,Nat.min_eq_left (show j <= l.length by omega)]
   .rw [if_neg c1,if_neg c2]
    rcases Nat.lt_or_ge i j with c3 | c3
    .rw [List.getElem?_append_left (by simp; omega),List.getElem?_take,if_pos c3]
    .rw [List.getElem?_append_right (by simp; omega)]
     simp only [List.length_take,Nat.min_eq_left (show j <= l.length by omega)]
     obtain ⟨q,rfl⟩:∃ q,i=j+2+q:=⟨i - (j+2),by omega⟩
     rw [show j+2+q - j=q+1+1 by omega]
     simp
 rw [h2]
 conv=>rhs; rw [h1]
 exact List.Perm.append_left _ (List.Perm.swap _ _ _)
theorem sink_perm:∀ (j:Nat) (l:List Int),j < l.length -> (sink j l).Perm l
 | 0,l,_=>.refl _
 | j+1,l,h=>by
  simp only [sink]
  split
  .exact (sink_perm j (swp l j) (by simp; omega)).trans (swp_perm l j h)
  .exact .refl _
theorem isortN_perm (l:List Int):∀ i,i < l.length -> (isortN l i).Perm l
 | 0,_=>.refl _
 | i+1,h=>(sink_perm (i+1) _ (by simp; omega)).trans (isortN_perm l i (by omega))
theorem sortF_perm (l:List Int):(sortF l).Perm l:=by
 unfold sortF
 cases l with
 | nil=>exact .refl _
 | cons a l=>exact isortN_perm _ _ (by simp)
@[simp] theorem sortF_length (l:List Int):(sortF l).length=l.length:=by simp [sortF]
def Ord (l:List Int) (n:Nat):Prop:=∀ i k (x y:Int),i < k -> k < n -> l[i]?=some x -> l[k]?=some y -> x <= y
def OrdBut (l:List Int) (n j:Nat):Prop:=∀ i k (x y:Int),i < k -> k < n -> (k ≠ j) -> l[i]?=some x -> l[k]?=some y -> x <= y
theorem swp_get (l:List Int) (j:Nat) (h:j+1 < l.length) (i:Nat):(swp l j)[i]?=if i=j then l[j+1]? else if i=j+1 then l[j]? else l[i]?:=by
 have h0:j < l.length:=by omega
 simp only [swp,List.getD,List.getElem?_eq_getElem h,List.getElem?_eq_getElem h0,Option.getD_some]
 rw [List.getElem?_set,List.getElem?_set]
 simp only [List.length_set]
 by_cases c1:j=i
 .subst c1; simp [h0]
 .by_cases c2:j+1=i
  .subst c2; simp [h]
  .simp [c1,c2,Ne.symm c1,Ne.symm c2]
theorem sink_ord:∀ (j:Nat) (l:List Int) (n:Nat),j < n -> n <= l.length -> OrdBut l n j -> (∀ k (x y:Int),j < k -> k < n -> l[j]?=some x -> l[k]?=some y -> x <= y) -> Ord (sink j l) n
 | 0,l,n,hj,hn,ho,hr=>by
  intro i k x y hik hk hx hy
  exact ho i k x y hik hk (by omega) hx hy
 | j+1,l,n,hj,hn,ho,hr=>by
  have e1:l[j+1]?=some (l[j+1]'(by omega)):=List.getElem?_eq_getElem _
  have e0:l[j]?=some (l[j]'(by omega)):=List.getElem?_eq_getElem _
  generalize l[j+1]'(by omega)=a at e1
  generalize l[j]'(by omega)=b at e0
  simp only [sink,List.getD,e1,e0,Option.getD_some]
  split
  .rename_i hlt
   refine sink_ord j (swp l j) n (by omega) (by simpa using hn) ?_ ?_
   .intro i k x y hik hk hkj hx hy
    rw [swp_get l j (by omega)] at hx hy
    rw [if_neg hkj] at hy
    by_cases c1:k=j+1
    .rw [if_pos c1,e0] at hy; cases hy
     by_cases c2:i=j
     .rw [if_pos c2,e1] at hx; cases hx; omega
     .rw [if_neg c2,if_neg (by omega)] at hx
      exact ho i j x b (by omega) (by omega) (by omega) hx e0
    .rw [if_neg c1] at hy
     by_cases c2:i=j
     .rw [if_pos c2,e1] at hx; cases hx
      exact hr k a y (by omega) hk e1 hy
     .rw [if_neg c2] at hx
      by_cases c3:i=j+1
      .rw [if_pos c3,e0] at hx; cases hx
       exact ho j k b y (by omega) hk (by omega) e0 hy
      .rw [if_neg c3] at hx
       exact ho i k x y hik hk c1 hx hy
   .intro k x y hjk hk hx hy
    rw [swp_get l j (by omega)] at hx hy
    rw [if_pos rfl,e1] at hx; cases hx
    rw [if_neg (by omega)] at hy
    by_cases c1:k=j+1
    .rw [if_pos c1,e0] at hy; cases hy; omega
    .rw [if_neg c1] at hy
     exact hr k a y (by omega) hk e1 hy
  .rename_i hge
   intro i k x y hik hk hx hy
   by_cases c1:k=j+1
   .subst c1
    rw [e1] at hy; cases hy
    by_cases c2:i=j
    .subst c2; rw [e0] at hx; cases hx; omega
    .have:=ho i j x b (by omega) (by omega) (by omega) hx e0
     omega
   .exact ho i k x y hik hk c1 hx hy
theorem isortN_ord (l:List Int):∀ i,i < l.length -> Ord (isortN l i) (i+1)
 | 0,h=>by intro i k x y hik hk; omega
 | i+1,h=>by
  have ih:=isortN_ord l i (by omega)
  refine sink_ord (i+1) (isortN l i) (i+2) (by omega) (by simp; omega) ?_ ?_
  .intro a k x y hak hk hki hx hy
   exact ih a k x y hak (by omega) hx hy
  .intro k x y h1 h2; omega
theorem sortF_ord (l:List Int):Ord (sortF l) l.length:=by
 cases l with
 | nil=>intro i k x y h1 h2; simp at h2
 | cons a l =>
  have:=isortN_ord (a :: l) l.length (by simp)
  simpa [sortF] using this
end Go.Apx
end
section
namespace Go.Apx
open Go.Proofs
set_option maxRecDepth 4000
def argL (l:List Pt):List Int:=(l.filter fun p=>!decide (p.sort=⟨#[]⟩)).map (·.arg)
theorem argL_length (l:List Pt):(argL l).length=argsF l:=by simp [argL,argsF]
theorem argL_take {l:List Pt} {i:Nat} {p:Pt} (h:l[i]?=some p):argL (l.take (i+1))=argL (l.take i)++(if p.sort=⟨#[]⟩ then [] else [p.arg]):=by
 rw [List.take_add_one,h]
 by_cases hp:p.sort=⟨#[]⟩ <;> simp [argL,hp]
theorem argL_count (l:List Pt) (k:Int):(argL l).count k=timesF l k:=by
 induction l with
 | nil=>rfl
 | cons p l ih =>
  by_cases hp:p.sort=⟨#[]⟩
  .have e1:argL (p :: l)=argL l:=by simp [argL,hp]
   have e2:timesF (p :: l) k=timesF l k:=by simp [timesF,hp]
   rw [e1,e2,ih]
  .have e1:argL (p :: l)=p.arg :: argL l:=by simp [argL,hp]
   rw [e1,List.count_cons,ih]
   by_cases ha:p.arg=k <;> simp [timesF,hp,ha]
def rangeI (n:Nat):List Int:=(List.range n).map fun (i:Nat)=>(i:Int)
theorem rangeI_count (n:Nat) (k:Nat):(rangeI n).count (k:Int)=if k < n then 1 else 0:=by
 induction n with
 | zero=>simp [rangeI]
 | succ n ih =>
  have:rangeI (n+1)=rangeI n++[(n:Int)]:=by simp [rangeI,List.range_succ]
  rw [this,List.count_append,ih,List.count_cons]
  simp only [List.count_nil,beq_iff_eq]
  by_cases h1:k < n
  .rw [if_pos h1,if_neg (by omega),if_pos (by omega)]
  .by_cases h2:k=n
   .subst h2; simp
   .rw [if_neg h1,if_neg (by omega),if_neg (by omega)]
theorem perm_range:∀ (n:Nat) (l:List Int),l.length=n -> (∀ k,k < n -> l.count (k:Int)=1) -> l.Perm (rangeI n)
 | 0,l,hl,_=>by
  have:l=[]:=List.eq_nil_of_length_eq_zero hl
  subst this; exact .refl _
 | n+1,l,hl,hc=>by
  have hm:(n:Int) ∈ l:=List.count_pos_iff.1 (by rw [hc n (by omega)]; omega)
  have hp:=List.perm_cons_erase hm
  have ih:=perm_range n (l.erase n) (by rw [List.length_erase_of_mem hm]; omega) (fun k hk=>by
   rw [List.count_erase_of_ne (by omega)]; exact hc k (by omega))
  have e:rangeI (n+1)=rangeI n++[(n:Int)]:=by simp [rangeI,List.range_succ]
  rw [e]
  exact hp.trans ((List.Perm.cons _ ih).trans (List.perm_append_singleton _ _).symm)
theorem ord_pairwise {l:List Int} (h:Ord l l.length):l.Pairwise (· <= ·):=by
 rw [List.pairwise_iff_getElem]
 intro i j hi hj hij
 exact h i j _ _ hij hj (List.getElem?_eq_getElem hi) (List.getElem?_eq_getElem hj)
theorem rangeI_pairwise (n:Nat):(rangeI n).Pairwise (· <= ·):=by
 rw [List.pairwise_iff_getElem]
 intro i j hi hj hij
 simp [rangeI]; omega
def placedF (l:List Int):Bool:=allIdx (fun x i=>decide (x=(i:Int))) l
theorem placed_iff (l:List Int):placedF l=true ↔ l=rangeI l.length:=by
 unfold placedF
 rw [allIdx_iff]
 constructor
 .intro h
  apply List.ext_getElem?
  intro i
  rcases Nat.lt_or_ge i l.length with h1 | h1
  .have:=h i l[i] (List.getElem?_eq_getElem h1)
   simp at this
   simp [rangeI,h1,this]
  .rw [List.getElem?_eq_none h1,List.getElem?_eq_none (by simp [rangeI]; exact h1)]
 .intro h i x hx
  rw [h] at hx
  simp [rangeI] at hx
  obtain ⟨w,hx1,hx2⟩:=hx
  obtain ⟨h4,h5⟩:=List.getElem?_eq_some_iff.1 hx1
  simp at h5
  simp [<- hx2,h5]
theorem placed_once (l:List Pt):placedF (sortF (argL l))=onceF l:=by
 rw [Bool.eq_iff_iff,placed_iff,sortF_length]
 have hperm:=sortF_perm (argL l)
 unfold onceF
 rw [List.all_eq_true]
 constructor
 .intro h k hk
  have hk':k < argsF l:=by simpa using hk
  have h1:=rangeI_count (argL l).length k
  rw [<- h,hperm.count_eq,argL_count,argL_length,if_pos hk'] at h1
  simpa using h1
 .intro h
  have hr:=perm_range (argL l).length (argL l) rfl (fun k hk=>by
   rw [argL_count]
   have:=h k (by rw [argL_length] at hk; simpa using hk)
   simpa using this)
  have hs:=ord_pairwise (l:=sortF (argL l)) (by rw [sortF_length]; exact sortF_ord _)
  exact List.Perm.eq_of_pairwise (le:=(· <= ·)) (fun a b _ _ h1 h2=>Int.le_antisymm h1 h2) hs (rangeI_pairwise _) (hperm.trans hr)
theorem arguments1_c (r:Rl) (o:Nat) (H:Nat -> AHeap) (hlen:r.parts.length <= 2 ^ 31) (hloop:∀ i,isLoop (H i) o=true)
  (hy:∀ i p,r.parts[i]?=some p -> p.sort ≠ ⟨#[]⟩ -> AYields PP Gl o [encP p] (H (argsF (r.parts.take i))) (fun e h'=>e=.ret (.sc (.bool true)) /\ h'=H (argsF (r.parts.take i)+1))) :
  AEx PP Gl 121 [.yld o,.ip (encR r)] (H 0) (.ret (.tup [])) (H (argsF r.parts)):=by
 refine enter_grammar_Rule_arguments_1 (by simp) ?_
 simp [code_grammar_Rule_arguments_1,res_grammar_Rule_arguments_1,ann_grammar_Rule_arguments_1,encR]
 refine AWp.cnt r.parts.length [0,6,7] (fun i=>[(8,i64 i)]) (fun i=>H (argsF (r.parts.take i))) (fun _=>True) mixed trivial (le_of (by simp [dslot])) (by simp [argsF]) ?_ ?_
 .intro i hi _
  obtain ⟨k,hki⟩:∃ k,r.parts[i]?=some k:=⟨r.parts[i],by simp [hi]⟩
  have hlt:(i:Int) < r.parts.length:=by omega
  have hne:r.parts ≠ []:=by intro e; rw [e] at hi; simp at hi
  by_cases hk:k.sort=⟨#[]⟩
  .simp [lp0_grammar_Rule_arguments_1,hlt,hki,encP,hk]
   rw [IntWalk.i64_in ((i:Int)+1) (by omega)]
   exact ⟨le_of (by simp [dslot]),by simp [argsF_take hki,hk]⟩
  .simp [lp0_grammar_Rule_arguments_1,hlt,hki,encP,hk,hloop]
   refine yieldk (by simpa [encP] using hy i k hki hk) ?_
   rintro e h' ⟨rfl,rfl⟩
   simp
   rw [IntWalk.i64_in ((i:Int)+1) (by omega)]
   exact ⟨le_of (by simp [dslot]),by simp [argsF_take hki,hk]⟩
 .intro _
  simp [lp0_grammar_Rule_arguments_1]
  exact retE (by simp [deferred,dslot]) rfl rfl rfl
theorem arguments_c (r:Rl) {h:AHeap}:AEx PP Gl 112 [encR r] h (.ret (.fn (.func 121) [] [.ip (encR r)])) h:=by
 refine enter_grammar_Rule_arguments (by simp) ?_
 simp [code_grammar_Rule_arguments,res_grammar_Rule_arguments,ann_grammar_Rule_arguments,encR]
 exact retE (by simp [deferred,dslot]) rfl (by simp [encR]) rfl
end Go.Apx
end
section
namespace Go.Apx
open Go.Proofs
set_option maxRecDepth 4000
theorem indexP_c (l:List Pt) (c:Cap) (fid:FuncId) (a b:List AV) (p:Pt -> Bool) (hl:l.length <= 2 ^ 31) {h:AHeap} (hf:∀ e ∈ l,AEx PP Gl fid (a++[encP e]++b) h (.ret (.sc (.bool (p e)))) h) :
  AEx PP Gl 75 [.sl 3 (l.map encP) c,.fn (.func fid) a b] h (.ret (i64 (placeF p l))) h:=by
 refine enter_slices_IndexFunc_grammar_Part_grammar_Part (by simp) ?_
 simp [code_slices_IndexFunc_grammar_Part_grammar_Part,res_slices_IndexFunc_grammar_Part_grammar_Part,ann_slices_IndexFunc_grammar_Part_grammar_Part]
 refine AWp.cnt l.length [0,1,7] (fun i=>[(8,i64 i)]) (fun _=>h) (fun i=>∀ y ∈ l.take i,p y=false) mixed (by simp) (le_of (by simp [dslot])) rfl ?_ ?_
 .intro i hi hz
  obtain ⟨k,hki⟩:∃ k,l[i]?=some k:=⟨l[i],by simp [hi]⟩
  have hlt:(i:Int) < l.length:=by omega
  have hne:l ≠ []:=by intro e; rw [e] at hi; simp at hi
  simp [lp0_slices_IndexFunc_grammar_Part_grammar_Part,hlt,hki,encP]
  refine callk (hf k (List.mem_of_getElem? hki)) (by simp [encP]) rfl ?_
  generalize hb:p k=bk
  cases bk with
  | true =>
   simp
   exact retE (by simp [deferred,dslot]) rfl (by simp [placeF_some hki hb hz]) rfl
  | false =>
   simp
   rw [IntWalk.i64_in ((i:Int)+1) (by omega)]
   exact ⟨by simpa using take_ext hki (q:=fun y=>p y=false) hz hb,le_of (by simp [dslot])⟩
 .intro hz
  simp [lp0_slices_IndexFunc_grammar_Part_grammar_Part]
  exact retE (by simp [deferred,dslot]) rfl (by simp [placeF_none (take_all hz)]) rfl
theorem placeF_any {α:Type} (p:α -> Bool) (l:List α):decide (0 <= placeF p l)=l.any p:=by
 unfold placeF
 cases hf:l.findIdx? p with
 | none =>
  have:l.any p=false:=by
   rw [List.any_eq_false]
   intro x hx
   simp [List.findIdx?_eq_none_iff.1 hf x hx]
  simp [this]
 | some i =>
  obtain ⟨h1,h2,_⟩:=List.findIdx?_eq_some_iff_getElem.1 hf
  have:l.any p=true:=by
   rw [List.any_eq_true]
   exact ⟨_,List.getElem_mem h1,h2⟩
  simp [this]
theorem anyP_c (l:List Pt) (c:Cap) (fid:FuncId) (a b:List AV) (p:Pt -> Bool) (hl:l.length <= 2 ^ 31) {h:AHeap} (hf:∀ e ∈ l,AEx PP Gl fid (a++[encP e]++b) h (.ret (.sc (.bool (p e)))) h) :
  AEx PP Gl 42 [.sl 3 (l.map encP) c,.fn (.func fid) a b] h (.ret (.sc (.bool (l.any p)))) h:=by
 refine enter_slices_ContainsFunc_grammar_Part_grammar_Part (by simp) ?_
 simp [code_slices_ContainsFunc_grammar_Part_grammar_Part,res_slices_ContainsFunc_grammar_Part_grammar_Part,ann_slices_ContainsFunc_grammar_Part_grammar_Part]
 refine callk (indexP_c l c fid a b p hl hf) rfl rfl ?_
 simp
 exact retE (by simp [deferred,dslot]) rfl (by rw [<- placeF_any]) rfl
theorem indexR_c (l:List Rl) (c:Cap) (fid:FuncId) (a b:List AV) (p:Rl -> Bool) (hl:l.length <= 2 ^ 31) {h:AHeap} (hf:∀ e ∈ l,AEx PP Gl fid (a++[encR e]++b) h (.ret (.sc (.bool (p e)))) h) :
  AEx PP Gl 109 [.sl 4 (l.map encR) c,.fn (.func fid) a b] h (.ret (i64 (placeF p l))) h:=by
 refine enter_slices_IndexFunc_grammar_Rule_grammar_Rule (by simp) ?_
 simp [code_slices_IndexFunc_grammar_Rule_grammar_Rule,res_slices_IndexFunc_grammar_Rule_grammar_Rule,ann_slices_IndexFunc_grammar_Rule_grammar_Rule]
 refine AWp.cnt l.length [0,1,7] (fun i=>[(8,i64 i)]) (fun _=>h) (fun i=>∀ y ∈ l.take i,p y=false) mixed (by simp) (le_of (by simp [dslot])) rfl ?_ ?_
 .intro i hi hz
  obtain ⟨k,hki⟩:∃ k,l[i]?=some k:=⟨l[i],by simp [hi]⟩
  have hlt:(i:Int) < l.length:=by omega
  have hne:l ≠ []:=by intro e; rw [e] at hi; simp at hi
  simp [lp0_slices_IndexFunc_grammar_Rule_grammar_Rule,hlt,hki,encR]
  refine callk (hf k (List.mem_of_getElem? hki)) (by simp [encR]) rfl ?_
  generalize hb:p k=bk
  cases bk with
  | true =>
   simp
   exact retE (by simp [deferred,dslot]) rfl (by simp [placeF_some hki hb hz]) rfl
  | false =>
   simp
   rw [IntWalk.i64_in ((i:Int)+1) (by omega)]
   exact ⟨by simpa using take_ext hki (q:=fun y=>p y=false) hz hb,le_of (by simp [dslot])⟩
 .intro hz
  simp [lp0_slices_IndexFunc_grammar_Rule_grammar_Rule]
  exact retE (by simp [deferred,dslot]) rfl (by simp [placeF_none (take_all hz)]) rfl
theorem anyR_c (l:List Rl) (c:Cap) (fid:FuncId) (a b:List AV) (p:Rl -> Bool) (hl:l.length <= 2 ^ 31) {h:AHeap} (hf:∀ e ∈ l,AEx PP Gl fid (a++[encR e]++b) h (.ret (.sc (.bool (p e)))) h) :
  AEx PP Gl 79 [.sl 4 (l.map encR) c,.fn (.func fid) a b] h (.ret (.sc (.bool (l.any p)))) h:=by
 refine enter_slices_ContainsFunc_grammar_Rule_grammar_Rule (by simp) ?_
 simp [code_slices_ContainsFunc_grammar_Rule_grammar_Rule,res_slices_ContainsFunc_grammar_Rule_grammar_Rule,ann_slices_ContainsFunc_grammar_Rule_grammar_Rule]
 refine callk (indexR_c l c fid a b p hl hf) rfl rfl ?_
 simp
 exact retE (by simp [deferred,dslot]) rfl (by rw [<- placeF_any]) rfl
theorem long_c (r:Rl) {h:AHeap}:AEx PP Gl 78 [encR r] h (.ret (.sc (.bool (longF r)))) h:=by
 refine enter_grammar_Check_1 (by simp) ?_
 simp [code_grammar_Check_1,res_grammar_Check_1,ann_grammar_Check_1,encR]
 exact retE (by simp [deferred,dslot]) rfl (by simp [longF]) rfl
theorem notPart_c (g:Gr) (p:Pt) (hs:g.sorts.length <= 2 ^ 31) {h:AHeap}:AEx PP Gl 110 [encP p,.ip (encG g)] h (.ret (.sc (.bool (!partF g p)))) h:=by
 refine enter_grammar_Rule_valid_1 (by simp) ?_
 simp [code_grammar_Rule_valid_1,res_grammar_Rule_valid_1,ann_grammar_Rule_valid_1,encP,encG]
 refine callk (part_c g p hs) (by simp [encP,encG]) rfl ?_
 simp
 exact retE (by simp [deferred,dslot]) rfl (by simp) rfl
def argV (l:List Int) (o:Nat):AV:=if l=[] then .sl 0 [] .nil else .rf o (l.length - 1) 0 l.length (.own 1)
def argH (l:List Int):AHeap:=if l=[] then [] else [.cells (l.length - 1) (l.map i64)]
def validH (h:AHeap) (l:List Int) (E:Env) (X:LoopX) (st:LoopState):AHeap:=h++([.cells 0 [argV l (h.length+3)],.queue,.loop E X st none]++argH l)
theorem validRound (r:Rl) (g:Gr) (l:List Int) (p:Pt) (E:Env) (X:LoopX) {h:AHeap} (hl:l.length <= 2 ^ 31) (hX:XOk ⟨PP,Gl,62,ann_grammar_Rule_valid,0,none⟩ [29] ra0_grammar_Rule_valid rb0_grammar_Rule_valid X)
  (e5:E.get 5=some (.ptr h.length 0 0)) (ed:E.get dslot=none) :
  AYields PP Gl (h.length+2) [encP p] (validH h l E X .ready) (fun e h'=>e=.ret (.sc (.bool true)) /\ h'=validH h (l++[p.arg]) E X .ready):=by
 refine ayields_of_code (C:=⟨PP,Gl,62,ann_grammar_Rule_valid,(validH h l E X .ready).length,some (h.length+2)⟩) (env:=E) (X:=X) (st:=.ready) (pd:=none) (ps:=[29]) (by simp [validH]) hX rfl ed rfl rfl (codeWp_sound mixed ?_)
 cases l with
 | nil =>
  simp [ra0_grammar_Rule_valid,beginP,validH,encP,argV,argH]
  refine codeWp_sound mixed ?_
  have hm:1 <= maxLenA:=len_tok (by omega)
  simp [rb0_grammar_Rule_valid,e5,roundP,evW,hm]
 | cons a l =>
  simp [ra0_grammar_Rule_valid,beginP,validH,encP,argV,argH]
  refine codeWp_sound mixed ?_
  have hm:l.length+1+1 <= maxLenA:=len_tok (by simp at hl; omega)
  simp [rb0_grammar_Rule_valid,e5,roundP,evW,hm]
theorem sort0_c {h:AHeap}:AEx PP Gl 113 [.sl 0 [] .nil] h (.ret (.tup [])) h :=
 KOk.at (KOk.interp (k:=⟨113,[.sl 0 [] .nil],[],.tup [],[]⟩) (K:=[]) mixed (findT_ok tbl_ok) (by simp) 20 (by kernel_rfl)) rfl rfl
def pruleF (g:Gr) (r:Rl):Bool:=okName r.label && hasF g.sorts r.sort && r.parts.all (partF g) && placedF (sortF (argL r.parts)) && lastF r
theorem prule_eq (g:Gr) (r:Rl):pruleF g r=rruleF g r:=by simp [pruleF,rruleF,placed_once]
theorem rule_c (g:Gr) (r:Rl) (hs:g.sorts.length <= 2 ^ 31) (hp:r.parts.length <= 12) {h:AHeap}:AEx PP Gl 81 [encR r,encG g] h (.ret (.sc (.bool (rruleF g r)))) h:=by
 rw [<- prule_eq]
 refine enter_grammar_Rule_valid (by simp) ?_
 simp -implicitDefEqProofs [code_grammar_Rule_valid,res_grammar_Rule_valid,ann_grammar_Rule_valid,encR,encG]
 refine callk (name_c r.label) rfl rfl ?_
 generalize hb1:okName r.label=b1
 cases b1 with
 | false=>simp; exact retE (by simp [deferred,dslot]) rfl (by simp [pruleF,hb1]) rfl
 | true =>
 simp
 refine callk (contains_c g.sorts g.sc r.sort hs) rfl rfl ?_
 generalize hb2:hasF g.sorts r.sort=b2
 cases b2 with
 | false=>simp; exact retE (by simp [deferred,dslot]) rfl (by simp [pruleF,hb2]) rfl
 | true =>
 simp
 refine callk (anyP_c r.parts r.cap 110 [] [.ip (encG g)] (fun p=>!partF g p) (by omega) (fun e he=>by simpa using notPart_c g e hs)) (by simp [encG]) rfl ?_
 generalize hb3:r.parts.any (fun p=>!partF g p)=b3
 cases b3 with
 | true =>
  simp
  refine retE (by simp [deferred,dslot]) rfl ?_ rfl
  have:r.parts.all (partF g)=false:=by
   rw [List.any_eq_true] at hb3
   obtain ⟨x,hx,hx2⟩:=hb3
   rw [List.all_eq_false]
   exact ⟨x,hx,by simpa using hx2⟩
  simp [pruleF,this]
 | false =>
 have hall:r.parts.all (partF g)=true:=by
  rw [List.all_eq_true]
  intro x hx
  rw [List.any_eq_false] at hb3
  simpa using hb3 x hx
 simp
 refine callk (arguments_c r) (by simp [encR]) rfl ?_
 simp
 refine AWp.keep [2,5,28] (le_of (by simp [dslot])) ?_
 simp
 refine AWp.rangeF (gf:=121) (fa:=[]) (fb:=[.ip (encR r)]) (dl:=[]) rfl (by simp) (by simp [noPend]) (by simp [deferred,dslot]) ?_
 intro X hX
 simp [dslot]
 have hpre:∀ i,(argL r.parts).take (argsF (r.parts.take i))=argL (r.parts.take i):=fun i=>by
  have e:argL r.parts=argL (r.parts.take i)++argL (r.parts.drop i):=by
   rw [argL,argL,argL,<- List.map_append,<- List.filter_append,List.take_append_drop]
  rw [e,<- argL_length,List.take_left]
 have hal:(argL r.parts).length <= 12:=by rw [argL_length]; have:=argsF_le r.parts; omega
 generalize hE:([(2,(AV.agg [AV.sc (Value.string r.label),AV.sc (Value.string r.sort),AV.sl 3 (List.map encP r.parts) r.cap,AV.sc (Value.bool r.var)]).ip),(5,AV.ptr (List.length h) 0 0),(28,AV.fn (Fn.func 121) [] [(encR r).ip])]:Env)=E
 have hcall:=arguments1_c r (h.length+2) (fun j=>validH h ((argL r.parts).take j) E X .ready) (by omega) (fun i=>by simp [isLoop,validH]) (fun i p hi hs2=>?_)
 rotate_left
 .have:=validRound r g ((argL r.parts).take (argsF (r.parts.take i))) p E X (h:=h) (by rw [List.length_take]; omega) hX (by subst hE; simp) (by subst hE; simp [dslot])
  have e2:(argL r.parts).take (argsF (r.parts.take i))++[p.arg]=(argL r.parts).take (argsF (r.parts.take i)+1):=by
   have h1:=hpre i
   have h2:=hpre (i+1)
   rw [argsF_take hi,if_neg hs2,argL_take hi,if_neg hs2] at h2
   rw [h1,h2]
  rw [e2] at this
  exact this
 have hheap:validH h ((argL r.parts).take 0) E X .ready=h++[.cells 0 [.sl 0 [] .nil],.queue,.loop E X .ready none]:=by simp [validH,argV,argH]
 simp only [hheap] at hcall
 refine ⟨_,hcall,?_⟩
 intro r' h' hrr
 obtain ⟨rfl,rfl⟩:=hrr
 have hfull:(argL r.parts).take (argsF r.parts)=argL r.parts:=by rw [<- argL_length,List.take_length]
 rw [hfull]
 have e1:h.length+1+1=h.length+2:=rfl
 subst hE
 have hres:pruleF g r=(placedF (sortF (argL r.parts)) && lastF r):=by simp [pruleF,hb1,hb2,hall]
 have hnn:=argL_length r.parts
 generalize hL:argL r.parts=L at *
 cases L with
 | nil =>
  have hn0:argsF r.parts=0:=by simpa using hnn.symm
  have hs0:placedF (sortF [])=true:=by rw [placed_iff]; rfl
  simp -implicitDefEqProofs [rangeEnd,validH,argV,argH,e1]
  refine callk sort0_c rfl rfl ?_
  simp -implicitDefEqProofs
  refine AWp.cnt 0 [2,5,37,38,1000000] (fun i=>[(39,i64 i)]) (fun _=>h++[.cells 0 [.sl 0 [] .nil],.queue,.dead]) (fun _=>True) mixed trivial (le_of (by simp [dslot])) rfl (fun i hi=>by omega) ?_
  intro _
  generalize hv:r.var=v
  cases v with
  | false =>
   simp -implicitDefEqProofs [lp0_grammar_Rule_valid]
   refine retDefer [.it (h.length+1)] (by simp [deferred,dslot]) (leaveIt (by simp [isQueue]) ?_)
   simp
   exact leaveD (v:=.sc (.bool true)) (by simp [evalRes,evalRes1]) (by simp [AV.strip,AV.inb]) (by simp [AV.strip,hres,hs0,lastF,hv]) rfl
  | true =>
   by_cases hl1:r.parts.length=1
   .simp -implicitDefEqProofs [lp0_grammar_Rule_valid,hl1]
    refine retDefer [.it (h.length+1)] (by simp [deferred,dslot]) (leaveIt (by simp [isQueue]) ?_)
    simp
    exact leaveD (v:=.sc (.bool true)) (by simp [evalRes,evalRes1]) (by simp [AV.strip,AV.inb]) (by simp [AV.strip,hres,hs0,lastF,hv,hl1,hn0]) rfl
   .have hl1':¬ (r.parts.length:Int)=1:=by omega
    simp -implicitDefEqProofs [lp0_grammar_Rule_valid,hl1,hl1']
    refine retDefer [.it (h.length+1)] (by simp [deferred,dslot]) (leaveIt (by simp [isQueue]) ?_)
    simp
    exact leaveD (v:=.sc (.bool false)) (by simp [evalRes,evalRes1]) (by simp [AV.strip,AV.inb]) (by simp [AV.strip,hres,hs0,lastF,hv,hl1]) rfl
 | cons a l =>
  simp -implicitDefEqProofs [rangeEnd,validH,argV,argH,e1]
  refine callk (sort_c (a :: l) (h.length+3) l.length (.own 1) hal (by simp)) (by simp) rfl ?_
  have hSl:(sortF (a :: l)).length=l.length+1:=by simp
  have hll:l.length+1 <= 12:=by simpa using hal
  have hn0:¬ argsF r.parts=0:=by rw [<- hnn]; simp
  generalize hS:sortF (a :: l)=S at *
  simp -implicitDefEqProofs
  refine AWp.cnt (l.length+1) [2,5,37,38,1000000] (fun i=>[(39,i64 i)]) (fun _=>h++[.cells 0 [.rf (h.length+3) l.length 0 (l.length+1) (.own 1)],.queue,.dead,.cells l.length (S.map i64)]) (fun i=>∀ j x,j < i -> S[j]?=some x -> x=(j:Int)) mixed (by simp) (le_of (by simp [dslot])) (by simp) ?_ ?_
  .intro i hi hz
   obtain ⟨x,hx⟩:∃ x,S[i]?=some x:=⟨S[i]'(by omega),by simp [show i < S.length by omega]⟩
   have hlt:(i:Int) < (l.length:Int)+1:=by omega
   have hi':i < l.length+1:=hi
   simp -implicitDefEqProofs [lp0_grammar_Rule_valid,hlt,hi',hx]
   refine ⟨fun hxi=>?_,fun hxi=>?_⟩
   .rw [IntWalk.i64_in ((i:Int)+1) (by omega)]
    refine ⟨fun j y hj hy=>?_,le_of (by simp [dslot])⟩
    by_cases e:j=i
    .subst e; rw [hx] at hy; cases hy; exact hxi
    .exact hz j y (by omega) hy
   .refine retDefer [.it (h.length+1)] (by simp [deferred,dslot]) (leaveIt (by simp [isQueue]) ?_)
    simp
    have:placedF S=false:=allIdx_false hx (by simpa using hxi)
    exact leaveD (v:=.sc (.bool false)) (by simp [evalRes,evalRes1]) (by simp [AV.strip,AV.inb]) (by simp [AV.strip,hres,this]) rfl
  .intro hz
   have hpl:placedF S=true:=allIdx_true fun i x hx=>by simpa using hz i x (by have:=(List.getElem?_eq_some_iff.1 hx).1; omega) hx
   have hnl:¬ (l.length:Int)+1=0:=by omega
   generalize hv:r.var=v
   cases v with
   | false =>
    simp -implicitDefEqProofs [lp0_grammar_Rule_valid]
    refine retDefer [.it (h.length+1)] (by simp [deferred,dslot]) (leaveIt (by simp [isQueue]) ?_)
    simp
    exact leaveD (v:=.sc (.bool true)) (by simp [evalRes,evalRes1]) (by simp [AV.strip,AV.inb]) (by simp [AV.strip,hres,hpl,lastF,hv]) rfl
   | true =>
    by_cases hl1:r.parts.length=1
    .simp -implicitDefEqProofs [lp0_grammar_Rule_valid,hl1,hnl]
     refine retDefer [.it (h.length+1)] (by simp [deferred,dslot]) (leaveIt (by simp [isQueue]) ?_)
     simp
     exact leaveD (v:=.sc (.bool false)) (by simp [evalRes,evalRes1]) (by simp [AV.strip,AV.inb]) (by simp [AV.strip,hres,hpl,lastF,hv,hl1,hn0]) rfl
    .have hl1':¬ (r.parts.length:Int)=1:=by omega
     simp -implicitDefEqProofs [lp0_grammar_Rule_valid,hl1,hl1']
     refine retDefer [.it (h.length+1)] (by simp [deferred,dslot]) (leaveIt (by simp [isQueue]) ?_)
     simp
     exact leaveD (v:=.sc (.bool false)) (by simp [evalRes,evalRes1]) (by simp [AV.strip,AV.inb]) (by simp [AV.strip,hres,hpl,lastF,hv,hl1]) rfl
end Go.Apx
end
section
namespace Go.Apx
open Go.Proofs
set_option maxRecDepth 4000
def metOf (out:List ByteArray):List (ByteArray × Bool):=out.map fun v=>(v,true)
@[simp] theorem metOf_find (out:List ByteArray) (s:ByteArray):sfind (metOf out) s=if s ∈ out then some true else none:=by
 induction out with
 | nil=>rfl
 | cons v r ih =>
  simp only [metOf,List.map_cons,sfind,List.mem_cons] at ih ⊢
  by_cases e:s=v
  .simp [e]
  .simp [e,ih]
theorem metOf_set (out:List ByteArray) (s:ByteArray) (h:s ∉ out):sset (metOf out) s true=metOf (out++[s]):=by
 rw [sset_none _ _ _ (by simp [h])]
 simp [metOf]
theorem metOf_nil:smap bv (metOf [])=[]:=rfl
theorem place_first {α:Type} {p:α -> Bool} {l:List α} {i:Nat} {x:α} (hi:l[i]?=some x) (hp:p x=true):placeF p l=(i:Int) ↔ ∀ y ∈ l.take i,p y=false:=by
 constructor
 .intro h y hy
  cases hpy:p y with
  | false=>rfl
  | true =>
   exfalso
   obtain ⟨j,hj⟩:=List.getElem?_of_mem hy
   rw [List.getElem?_take] at hj
   split at hj
   .rename_i hlt
    unfold placeF at h
    cases hf:l.findIdx? p with
    | none =>
     have:=List.findIdx?_eq_none_iff.1 hf y (List.mem_of_getElem? hj)
     rw [hpy] at this; cases this
    | some k =>
     rw [hf] at h
     simp only at h
     obtain ⟨h1,h2,h3⟩:=List.findIdx?_eq_some_iff_getElem.1 hf
     have hk:k=i:=by omega
     subst hk
     have:=h3 j hlt
     obtain ⟨h4,h5⟩:=List.getElem?_eq_some_iff.1 hj
     rw [h5,hpy] at this
     simp at this
   .cases hj
 .exact placeF_some hi hp
theorem check_c (g:Gr) (hp:g.sorts.length <= 32 -> g.rules.length <= 600 -> ∀ r ∈ g.rules,longF r=false -> r.parts.length <= 12) (hs:g.sorts.length <= 2 ^ 31) (hr:g.rules.length <= 2 ^ 31) {h:AHeap}:AEx PP Gl 47 [encG g] h (.ret (i64 (checkF g))) h:=by
 refine enter_grammar_Check (by simp) ?_
 by_cases c1:(32:Int) < g.sorts.length
 .simp -implicitDefEqProofs [code_grammar_Check,res_grammar_Check,ann_grammar_Check,encG,c1]
  exact retE (by simp [deferred,dslot]) rfl (by unfold checkF; rw [if_pos (by omega)]) rfl
 by_cases c2:(600:Int) < g.rules.length
 .simp -implicitDefEqProofs [code_grammar_Check,res_grammar_Check,ann_grammar_Check,encG,c1,c2]
  exact retE (by simp [deferred,dslot]) rfl (by unfold checkF; rw [if_pos (by omega)]) rfl
 simp -implicitDefEqProofs [code_grammar_Check,res_grammar_Check,ann_grammar_Check,encG,c1,c2]
 refine callk (anyR_c g.rules g.rc 78 [] [] longF hr (fun e he=>by simpa using long_c e)) rfl rfl ?_
 generalize hlong:g.rules.any longF=lg
 cases lg with
 | true =>
  simp
  exact retE (by simp [deferred,dslot]) rfl (by unfold checkF; rw [if_neg (by omega),if_pos hlong]) rfl
 | false =>
 have hlong':¬ g.rules.any longF=true:=by rw [hlong]; simp
 have hpl:∀ r ∈ g.rules,r.parts.length <= 12:=fun r hr=>hp (by omega) (by omega) r hr (by
  rw [List.any_eq_false] at hlong
  simpa using hlong r hr)
 simp -implicitDefEqProofs
 refine AWp.cnt g.sorts.length [1,4,27,28] (fun i=>[(29,i64 i)]) (fun i=>h++[.amap (smap bv (metOf (g.sorts.take i)))]) (fun i=>∀ j x,j < i -> g.sorts[j]?=some x -> nameOkF g x j=true) mixed (by simp) (le_of (by simp [dslot])) (by simp [metOf_nil]) ?_ ?_
 .intro i hi hz2
  obtain ⟨k,hki⟩:∃ k,g.sorts[i]?=some k:=⟨g.sorts[i],by simp [hi]⟩
  have hlt:(i:Int) < g.sorts.length:=by omega
  have hne:g.sorts ≠ []:=by intro e; rw [e] at hi; simp at hi
  have hbad:nameOkF g k i=false -> checkF g=151:=fun hb=>by
   unfold checkF
   rw [if_neg (by omega),if_neg hlong',if_neg (by rw [allIdx_false hki hb]; simp)]
  have hfst:indexF g.sorts k=(i:Int) ↔ k ∉ g.sorts.take i:=by
   unfold indexF
   rw [place_first hki (by simp)]
   constructor
   .intro h1 h2; have:=h1 k h2; simp at this
   .intro h1 y hy; simp; rintro rfl; exact h1 hy
  simp -implicitDefEqProofs [lp0_grammar_Check,hlt,hki,sv]
  refine callk (name_c k) rfl rfl ?_
  generalize hb1:okName k=b1
  cases b1 with
  | false =>
   simp -implicitDefEqProofs
   exact retD (by simp [deferred,dslot]) rfl (by simp [AV.strip,AV.inb]) (by rw [hbad (by simp [nameOkF,hb1])]; rfl) rfl
  | true =>
   by_cases hmem:k ∈ g.sorts.take i
   .simp -implicitDefEqProofs [hmem]
    refine retD (by simp [deferred,dslot]) rfl (by simp [AV.strip,AV.inb]) ?_ rfl
    rw [hbad (by simp only [nameOkF,hb1,Bool.true_and,decide_eq_false_iff_not]; rw [hfst]; simpa using hmem)]; rfl
   .simp -implicitDefEqProofs [hmem,metOf_set _ _ hmem]
    rw [IntWalk.i64_in ((i:Int)+1) (by omega)]
    refine ⟨fun j x hj hx=>?_,le_of (by simp [dslot]),?_⟩
    .by_cases e:j=i
     .subst e; rw [hki] at hx; cases hx; simp only [nameOkF,hb1,Bool.true_and,decide_eq_true_eq]; rw [hfst]; exact hmem
     .exact hz2 j x (by omega) hx
    .rw [List.take_add_one,hki]; rfl
 .intro hz2
  have hnames:allIdx (nameOkF g) g.sorts=true:=allIdx_true fun i x hx=>hz2 i x (List.getElem?_eq_some_iff.1 hx).1 hx
  simp -implicitDefEqProofs [lp0_grammar_Check]
  refine AWp.cnt g.rules.length [1,4,46,47] (fun i=>[(48,i64 i)]) (fun i=>h++[.amap (smap bv (metOf ((g.rules.map (·.label)).take i)))]) (fun i=>∀ j x,j < i -> g.rules[j]?=some x -> ruleOkF g x j=true) mixed (by simp) (le_of (by simp [dslot])) (by simp [metOf_nil]) ?_ ?_
  .intro i hi hz3
   obtain ⟨k,hki⟩:∃ k,g.rules[i]?=some k:=⟨g.rules[i],by simp [hi]⟩
   have hlt:(i:Int) < g.rules.length:=by omega
   have hne:g.rules ≠ []:=by intro e; rw [e] at hi; simp at hi
   have hbad:ruleOkF g k i=false -> checkF g=151:=fun hb=>by
    unfold checkF
    rw [if_neg (by omega),if_neg hlong',if_pos hnames,if_neg (by rw [allIdx_false hki hb]; simp)]
   have hfst:findF g k.label=(i:Int) ↔ k.label ∉ (g.rules.map (·.label)).take i:=by
    unfold findF
    rw [place_first hki (by simp)]
    constructor
    .intro h1 h2
     rw [<- List.map_take] at h2
     obtain ⟨y,hy,e⟩:=List.mem_map.1 h2
     have:=h1 y hy; simp [e] at this
    .intro h1 y hy; simp; intro e; rw [<- List.map_take] at h1; exact h1 (List.mem_map.2 ⟨y,hy,e⟩)
   simp -implicitDefEqProofs [lp1_grammar_Check,hlt,hki,encR]
   refine callk (rule_c g k hs (hpl k (List.mem_of_getElem? hki))) (by simp [encG,encR]) rfl ?_
   generalize hb1:rruleF g k=b1
   cases b1 with
   | false =>
    simp -implicitDefEqProofs
    exact retD (by simp [deferred,dslot]) rfl (by simp [AV.strip,AV.inb]) (by rw [hbad (by simp [ruleOkF,hb1])]; rfl) rfl
   | true =>
    by_cases hmem:k.label ∈ (g.rules.map (·.label)).take i
    .simp -implicitDefEqProofs [hmem]
     refine retD (by simp [deferred,dslot]) rfl (by simp [AV.strip,AV.inb]) ?_ rfl
     rw [hbad (by simp only [ruleOkF,hb1,Bool.true_and,decide_eq_false_iff_not]; rw [hfst]; simpa using hmem)]; rfl
    .simp -implicitDefEqProofs [hmem,metOf_set _ _ hmem]
     rw [IntWalk.i64_in ((i:Int)+1) (by omega)]
     refine ⟨fun j x hj hx=>?_,le_of (by simp [dslot]),?_⟩
     .by_cases e:j=i
      .subst e; rw [hki] at hx; cases hx; simp only [ruleOkF,hb1,Bool.true_and,decide_eq_true_eq]; rw [hfst]; exact hmem
      .exact hz3 j x (by omega) hx
     .rw [List.take_add_one,List.getElem?_map,hki]; rfl
  .intro hz3
   have hrules:allIdx (ruleOkF g) g.rules=true:=allIdx_true fun i x hx=>hz3 i x (List.getElem?_eq_some_iff.1 hx).1 hx
   simp -implicitDefEqProofs [lp1_grammar_Check]
   exact retD (by simp [deferred,dslot]) rfl (by simp [AV.strip,AV.inb]) (by unfold checkF; rw [if_neg (by omega),if_neg hlong',if_pos hnames,if_pos hrules]; rfl) rfl
end Go.Apx
end
section
namespace Go.Apx
open Go.Proofs
set_option maxRecDepth 4000
def ruleAt (g:Gr) (s:ByteArray):Option Rl:=g.rules.find? fun r=>decide (r.label=s)
def numF:List Rl -> Nat -> List (ByteArray × Int)
 | [],_=>[]
 | r :: l,j=>(r.label,(j:Int)) :: numF l (j+1)
theorem numF_append (a b:List Rl) (j:Nat):numF (a++b) j=numF a j++numF b (j+a.length):=by
 induction a generalizing j with
 | nil=>rfl
 | cons r a ih=>simp only [List.cons_append,numF,ih,List.length_cons]; rw [show j+1+a.length=j+(a.length+1) by omega]
theorem numF_find (l:List Rl) (j:Nat) (s:ByteArray):sfind (numF l j) s=(l.findIdx? fun r=>decide (r.label=s)).map fun i=>((j+i:Nat):Int):=by
 induction l generalizing j with
 | nil=>rfl
 | cons r l ih =>
  simp only [numF,sfind,List.findIdx?_cons,ih]
  by_cases e:s=r.label
  .simp [e]
  .have e':¬ r.label=s:=fun h=>e h.symm
   simp only [if_neg e,e',decide_false,Bool.false_eq_true,if_false,Option.map_map]
   congr 1
   funext i
   simp only [Function.comp]
   congr 1
   omega
theorem find_of_idx {α:Type} {p:α -> Bool} {l:List α}:l.find? p=(l.findIdx? p).bind fun i=>l[i]?:=by
 induction l with
 | nil=>rfl
 | cons x l ih =>
  simp only [List.find?_cons,List.findIdx?_cons]
  cases hp:p x with
  | true=>simp
  | false=>simp [ih,Option.bind_map,Function.comp_def]
def zeroR:AV:=.agg [.sc (.string ⟨#[]⟩),.sc (.string ⟨#[]⟩),.sl 0 [] .nil,.sc (.bool false)]
def ruleV (o:Option Rl):AV:=match o with
 | some r=>encR r
 | none=>zeroR
def SpOk (g:Gr) (o om:Nat) (h:AHeap):Prop:=h[o]?=some (.cells 0 [.sl 1 (g.sorts.map sv) g.sc,.sl 4 (g.rules.map encR) g.rc,.mp om]) /\ h[om]?=some (.amap (smap iv (numF g.rules 0)))
theorem SpOk.app {g:Gr} {o om:Nat} {h x:AHeap} (hs:SpOk g o om h):SpOk g o om (h++x):=by
 obtain ⟨h1,h2⟩:=hs
 exact ⟨by rw [List.getElem?_append_left (List.getElem?_eq_some_iff.1 h1).1]; exact h1,by rw [List.getElem?_append_left (List.getElem?_eq_some_iff.1 h2).1]; exact h2⟩
def Rl.plain (r:Rl):Prop:=r.cap.strip=r.cap
theorem strip_parts (l:List Pt):stripL (l.map encP)=l.map encP:=by
 induction l with
 | nil=>rfl
 | cons p l ih=>simp only [List.map_cons,stripL,ih]; rfl
theorem inb_parts (n:Nat) (l:List Pt):inbL n (l.map encP)=true:=by
 induction l with
 | nil=>rfl
 | cons p l ih=>simp only [List.map_cons,inbL,ih,Bool.and_true]; rfl
theorem cap_inb {c:Cap} (h:c.strip=c) (n:Nat):c.inb n=true:=by cases c <;> first | rfl | cases h
theorem strip_encR {r:Rl} (h:r.plain):(encR r).strip=encR r:=by
 unfold Rl.plain at h
 simp only [encR,AV.strip,stripL,strip_parts,h]
theorem inb_encR {r:Rl} (h:r.plain) (n:Nat):(encR r).inb n=true:=by
 simp [encR,AV.inb,inbL,inb_parts,cap_inb h]
theorem rule_at_c (g:Gr) (o om:Nat) (s:ByteArray) {h:AHeap} (hs:SpOk g o om h) (hp:∀ r ∈ g.rules,r.plain) (hl:g.rules.length <= 2 ^ 31) :
  AEx PP Gl 60 [.ptr o 0 0,.sc (.string s)] h (.ret (.tup [ruleV (ruleAt g s),.sc (.bool (ruleAt g s).isSome)])) h:=by
 obtain ⟨h1,h2⟩:=hs
 have ho:=(List.getElem?_eq_some_iff.1 h1).1
 have hom:=(List.getElem?_eq_some_iff.1 h2).1
 have ho1:∀ x,(h++x)[o]?=some (.cells 0 [.sl 1 (g.sorts.map sv) g.sc,.sl 4 (g.rules.map encR) g.rc,.mp om]):=fun x=>by rw [List.getElem?_append_left ho,h1]
 have hom1:∀ x,(h++x)[om]?=some (.amap (smap iv (numF g.rules 0))):=fun x=>by rw [List.getElem?_append_left hom,h2]
 have hfi:=find_of_idx (p:=fun r=>decide (r.label=s)) (l:=g.rules)
 have hfn:=numF_find g.rules 0 s
 refine enter_earley_speller_rule (by simp) ?_
 cases hix:g.rules.findIdx? (fun r=>decide (r.label=s)) with
 | none =>
  rw [hix] at hfi hfn
  have hra:ruleAt g s=none:=hfi
  simp at hfn
  simp [code_earley_speller_rule,res_earley_speller_rule,ann_earley_speller_rule,ho1,hom1,hfn]
  exact retD (by simp [deferred,dslot]) (by simp [evalRes,evalRes1]; rfl) (by simp [AV.strip,stripL,AV.inb,inbL,Cap.strip,Cap.inb]) (by simp [AV.strip,stripL,Cap.strip,hra,ruleV,zeroR]) rfl
 | some i =>
  obtain ⟨hi,_,_⟩:=List.findIdx?_eq_some_iff_getElem.1 hix
  have hget:g.rules[i]?=some g.rules[i]:=List.getElem?_eq_getElem hi
  rw [hix] at hfi hfn
  generalize hk:g.rules[i]=k at hget
  have hra:ruleAt g s=some k:=by
   show g.rules.find? _=_
   rw [hfi]; simpa using hget
  have hkm:k ∈ g.rules:=List.mem_of_getElem? hget
  have hne:g.rules ≠ []:=by intro e; rw [e] at hi; simp at hi
  simp at hfn
  have hstr:=strip_encR (hp k hkm)
  have hinb:=inb_encR (hp k hkm) h.length
  rw [encR] at hstr hinb
  simp [code_earley_speller_rule,res_earley_speller_rule,ann_earley_speller_rule,ho1,hom1,hfn,hget,encR]
  refine retD (by simp [deferred,dslot]) (by simp [evalRes,evalRes1]; rfl) ?_ ?_ rfl
  .simp only [AV.strip,stripL] at hstr ⊢
   simp only [AV.inb,inbL,Bool.and_true] at hinb ⊢
   simp only [AV.agg.injEq,List.cons.injEq,AV.sl.injEq,true_and,and_true] at hstr
   rw [hstr.1,hstr.2]; exact hinb
  .simp only [AV.strip,stripL] at hstr ⊢
   rw [hstr,hra]; rfl
def partFit (g:Gr) (ks:List Tr) (fs:List Bool) (p:Pt):Bool:=decide (p.sort=⟨#[]⟩) || (match ks[p.arg.toNat]? with
 | none=>false
 | some k=>(match ruleAt g k.label with | some kr=>decide (kr.sort=p.sort) | none=>false) && fs.getD p.arg.toNat false)
def formR (g:Gr) (o:Option Rl) (ks:List Tr) (fs:List Bool):Bool:=match o with
 | none=>false
 | some r=>r.parts.all (partFit g ks fs) && decide (argsF r.parts=ks.length)
mutual
def formedF (g:Gr):Tr -> Bool
 | .node l ks _=>formR g (ruleAt g l) ks (formedL g ks)
def formedL (g:Gr):List Tr -> List Bool
 | []=>[]
 | t :: r=>formedF g t :: formedL g r
end
theorem formedL_map (g:Gr):∀ l,formedL g l=l.map (formedF g)
 | []=>rfl
 | t :: r=>by simp [formedL,formedL_map g r]
theorem formedF_eq (g:Gr) (t:Tr):formedF g t=formR g (ruleAt g t.label) t.kids (t.kids.map (formedF g)):=by
 cases t; simp [formedF,formedL_map,Tr.label,Tr.kids]
def ArgOk (g:Gr):Prop:=∀ r ∈ g.rules,∀ p ∈ r.parts,p.sort ≠ ⟨#[]⟩ -> 0 <= p.arg /\ p.arg < argsF r.parts
theorem ruleAt_mem {g:Gr} {s:ByteArray} {r:Rl} (h:ruleAt g s=some r):r ∈ g.rules /\ r.label=s:=by
 have h1:=List.mem_of_find?_eq_some h
 have h2:=List.find?_some h
 exact ⟨h1,by simpa using h2⟩
set_option maxHeartbeats 2000000 in
theorem formed_c (g:Gr) (o om:Nat) (t:Tr) {h:AHeap} (hs:SpOk g o om h) (hp:∀ r ∈ g.rules,r.plain) (ha:ArgOk g) (hl:g.rules.length <= 2 ^ 31) (hpl:∀ r ∈ g.rules,r.parts.length <= 2 ^ 31) (hn:t.nodes <= 2 ^ 31) :
  AEx PP Gl 88 [.ptr o 0 0,encT t] h (.ret (.sc (.bool (formedF g t)))) h:=by
 have hnn:=Tr.nodes_eq t
 have hlen:=Tr.length_le t.kids
 have hfe:=formedF_eq g t
 refine enter_earley_speller_formed (by simp) ?_
 simp -implicitDefEqProofs [code_earley_speller_formed,res_earley_speller_formed,ann_earley_speller_formed,encT_eq t]
 refine callk (rule_at_c g o om t.label hs hp hl) rfl rfl ?_
 cases hra:ruleAt g t.label with
 | none =>
  rw [hra] at hfe
  simp -implicitDefEqProofs [ruleV,zeroR]
  exact retE (by simp [deferred,dslot]) rfl (by simp [hfe,formR]) rfl
 | some r =>
  rw [hra] at hfe
  obtain ⟨hrm,hrl⟩:=ruleAt_mem hra
  have har:=ha r hrm
  have hrp:=hpl r hrm
  simp -implicitDefEqProofs [ruleV,encR]
  refine AWp.cnt r.parts.length [0,3,22,23] (fun i=>[(7,i64 (argsF (r.parts.take i))),(24,i64 i)]) (fun _=>h) (fun i=>∀ y ∈ r.parts.take i,partFit g t.kids (t.kids.map (formedF g)) y=true) mixed (by simp) (le_of (by simp [dslot,argsF])) rfl ?_ ?_
  .intro i hi hz
   obtain ⟨p,hpi⟩:∃ k,r.parts[i]?=some k:=⟨r.parts[i],by simp [hi]⟩
   have hlt:(i:Int) < r.parts.length:=by omega
   have hne:r.parts ≠ []:=by intro e; rw [e] at hi; simp at hi
   have hpm:=List.mem_of_getElem? hpi
   have h2:=argsF_le (r.parts.take i)
   simp at h2
   have hbad:partFit g t.kids (t.kids.map (formedF g)) p=false -> formedF g t=false:=fun hb=>by
    rw [hfe]
    have:r.parts.all (partFit g t.kids (t.kids.map (formedF g)))=false:=by
     rw [List.all_eq_false]; exact ⟨p,hpm,by simp [hb]⟩
    simp [formR,this]
   by_cases hse:p.sort=⟨#[]⟩
   .simp -implicitDefEqProofs [lp0_earley_speller_formed,hlt,hpi,encP,hse]
    rw [IntWalk.i64_in ((i:Int)+1) (by omega)]
    exact ⟨by simpa using take_ext hpi (q:=fun y=>partFit g t.kids (t.kids.map (formedF g)) y=true) hz (by simp [partFit,hse]),le_of (by simp [dslot,argsF_take hpi,hse])⟩
   .obtain ⟨ha1,ha2⟩:=har p hpm hse
    obtain ⟨n,hnp⟩:∃ n:Nat,p.arg=n:=⟨p.arg.toNat,by omega⟩
    have hnt:p.arg.toNat=n:=by omega
    cases hkn:t.kids[n]? with
    | none =>
     have hge:(t.kids.length:Int) <= n:=by have:=List.getElem?_eq_none_iff.1 hkn; omega
     simp -implicitDefEqProofs [lp0_earley_speller_formed,hlt,hpi,encP,hse,hnp,hge]
     exact retE (by simp [deferred,dslot]) rfl (by rw [hbad (by simp [partFit,hse,hnt,hkn])]) rfl
    | some k =>
     have hnl:=(List.getElem?_eq_some_iff.1 hkn).1
     have hnlt:¬ (t.kids.length:Int) <= n:=by omega
     have hkm:=List.mem_of_getElem? hkn
     have hkno:=Tr.nodesL_mem hkm
     have hkne:t.kids ≠ []:=by intro e; rw [e] at hnl; simp at hnl
     simp -implicitDefEqProofs [lp0_earley_speller_formed,hlt,hpi,encP,hse,hnp,hnlt,hkn,encT_eq k]
     refine callk (rule_at_c g o om k.label hs hp hl) rfl rfl ?_
     cases hrk:ruleAt g k.label with
     | none =>
      simp -implicitDefEqProofs [ruleV,zeroR]
      exact retE (by simp [deferred,dslot]) rfl (by rw [hbad (by simp [partFit,hse,hnt,hkn,hrk])]) rfl
     | some kr =>
      by_cases hsk:kr.sort=p.sort
      .simp -implicitDefEqProofs [ruleV,encR,hsk,hkn,encT_eq k]
       refine callk (formed_c g o om k hs hp ha hl hpl (by omega)) (by simp [encT_eq k]) rfl ?_
       have hfit:partFit g t.kids (t.kids.map (formedF g)) p=formedF g k:=by simp [partFit,hse,hnt,hkn,hrk,hsk]
       generalize hbf:formedF g k=bf at hfit
       cases bf with
       | false =>
        simp
        exact retE (by simp [deferred,dslot]) rfl (by rw [hbad hfit]) rfl
       | true =>
        simp
        rw [IntWalk.i64_in ((i:Int)+1) (by omega),IntWalk.i64_in ((argsF (r.parts.take i):Int)+1) (by omega)]
        exact ⟨by simpa using take_ext hpi (q:=fun y=>partFit g t.kids (t.kids.map (formedF g)) y=true) hz hfit,le_of (by simp [dslot,argsF_take hpi,hse])⟩
      .simp -implicitDefEqProofs [ruleV,encR,hsk]
       exact retE (by simp [deferred,dslot]) rfl (by rw [hbad (by simp [partFit,hse,hnt,hkn,hrk,hsk])]) rfl
  .intro hz
   have hall:r.parts.all (partFit g t.kids (t.kids.map (formedF g)))=true:=by rw [List.all_eq_true]; exact take_all hz
   simp -implicitDefEqProofs [lp0_earley_speller_formed]
   exact retE (by simp [deferred,dslot]) rfl (by simp [hfe,formR,hall]; omega) rfl
termination_by t.nodes
decreasing_by
 have:=Tr.nodesL_mem hkm
 omega
end Go.Apx
end
section
namespace Go.Apx
open Go.Proofs
set_option maxRecDepth 4000
theorem appkL {C:Cx} {k b:Nat} {x y:Opd} {d:Option Nat} {env:Env} {H:AHeap} {K:Env -> AHeap -> Prop} (es vs:List AV) (h:AHeap) (hx:evalOpd C.G env x=some (apd k es h.length)) (hy:(evalOpd C.G env y).bind (elems H k)=some vs)
  (hH:H=h++apdH es.length) (hm:es.length+vs.length <= maxLenA) (hK:K (putD env d (apd k (es++vs) h.length)) (h++apdH (es.length+vs.length))):appW C k b x y d env H K:=by
 subst hH
 unfold appW
 have he:evalOp C.G env (h++apdH es.length) (.append k b x y)=some (apd k (es++vs) h.length,h++apdH (es.length+vs.length)):=by
  simp only [evalOp,hx,hy]
  cases es with
  | nil =>
   cases vs with
   | nil=>simp
   | cons v vs =>
    have:vs.length+1 <= maxLenA:=by simpa using hm
    simp [this]
  | cons a es =>
   cases vs with
   | nil=>simp
   | cons v vs =>
    have:es.length+1+(vs.length+1) <= maxLenA:=hm
    simp [this]
    rw [show es.length+1+(vs.length+1)=es.length+1+vs.length+1 by omega]
    simp
 rw [he]
 exact hK
def apdK (k:Nat) (es:List AV):Nat:=if es=[] then 0 else k
def apdC (es:List AV) (t:Nat):Cap:=if es=[] then .nil else .tok t
theorem apd_sl (k:Nat) (es:List AV) (t:Nat):apd k es t=.sl (apdK k es) es (apdC es t):=rfl
abbrev gsl (l:List ByteArray) (n:Nat):AV:=.sl (apdK 1 (l.map sv)) (l.map sv) (apdC (l.map sv) n)
def spParts:List Pt -> List (List ByteArray -> List ByteArray) -> List ByteArray -> List ByteArray
 | [],_,l=>l
 | p :: ps,fs,l=>if l.length > 2000 then l else spParts ps fs (if p.sort=⟨#[]⟩ then l++[p.sym] else (fs.getD p.arg.toNat id) l)
def spR (o:Option Rl) (fs:List (List ByteArray -> List ByteArray)) (l:List ByteArray):List ByteArray:=match o with
 | none=>l
 | some r=>spParts r.parts fs l
mutual
def spellF (g:Gr):Tr -> List ByteArray -> List ByteArray
 | .node s ks _=>spR (ruleAt g s) (spellL g ks)
def spellL (g:Gr):List Tr -> List (List ByteArray -> List ByteArray)
 | []=>[]
 | t :: r=>spellF g t :: spellL g r
end
theorem spellL_map (g:Gr):∀ l,spellL g l=l.map (spellF g)
 | []=>rfl
 | t :: r=>by simp [spellL,spellL_map g r]
theorem spellF_eq (g:Gr) (t:Tr):spellF g t=spR (ruleAt g t.label) (t.kids.map (spellF g)):=by
 cases t; simp [spellF,spellL_map,Tr.label,Tr.kids]
theorem spParts_big (ps:List Pt) (fs) (l:List ByteArray) (h:l.length > 2000):spParts ps fs l=l:=by cases ps <;> simp [spParts,h]
theorem spParts_append (a b:List Pt) (fs) (l:List ByteArray):spParts (a++b) fs l=spParts b fs (spParts a fs l):=by
 induction a generalizing l with
 | nil=>rfl
 | cons p a ih =>
  simp only [List.cons_append,spParts]
  split
  .rename_i h; rw [spParts_big _ _ _ h]
  .exact ih _
theorem spParts_take {ps:List Pt} {fs} {l:List ByteArray} {i:Nat} {p:Pt} (hi:ps[i]?=some p) :
  spParts (ps.take (i+1)) fs l=if (spParts (ps.take i) fs l).length > 2000 then spParts (ps.take i) fs l else if p.sort=⟨#[]⟩ then spParts (ps.take i) fs l++[p.sym] else (fs.getD p.arg.toNat id) (spParts (ps.take i) fs l):=by
 rw [List.take_add_one,hi,spParts_append]
 simp [spParts]
theorem spParts_stop {ps:List Pt} {fs} {l:List ByteArray} {i:Nat} (h:(spParts (ps.take i) fs l).length > 2000):spParts ps fs l=spParts (ps.take i) fs l:=by
 conv=>lhs; rw [<- List.take_append_drop i ps,spParts_append,spParts_big _ _ _ h]
theorem getD_map {α β:Type} (l:List α) (f:α -> β) (d:β) (i:Nat):(l.map f).getD i d=(l[i]?.map f).getD d:=by simp [List.getD]
mutual
theorem spellF_le (g:Gr):∀ (t:Tr) (l:List ByteArray),l.length <= 2001 -> (spellF g t l).length <= 2001
 | .node s ks c,l,h=>by
  simp only [spellF]
  unfold spR
  split
  .exact h
  .exact spParts_le (spellL g ks) (spellL_le g ks) _ l h
theorem spellL_le (g:Gr):∀ (ks:List Tr),∀ f ∈ spellL g ks,∀ l:List ByteArray,l.length <= 2001 -> (f l).length <= 2001
 | [],f,hf=>by simp [spellL] at hf
 | t :: r,f,hf=>by
  simp only [spellL,List.mem_cons] at hf
  rcases hf with rfl | hf
  .exact spellF_le g t
  .exact spellL_le g r f hf
theorem spParts_le (fs:List (List ByteArray -> List ByteArray)) (hf:∀ f ∈ fs,∀ l:List ByteArray,l.length <= 2001 -> (f l).length <= 2001):∀ (ps:List Pt) (l:List ByteArray),l.length <= 2001 -> (spParts ps fs l).length <= 2001
 | [],l,h=>h
 | p :: ps,l,h=>by
  simp only [spParts]
  split
  .exact h
  .refine spParts_le fs hf ps _ ?_
   split
   .simp; omega
   .simp only [List.getD]
    cases hk:fs[p.arg.toNat]? with
    | none=>simpa using h
    | some f=>simpa using hf f (List.mem_of_getElem? hk) l h
end
set_option maxHeartbeats 2000000 in
theorem spell_c (g:Gr) (o om:Nat) (t:Tr) (l:List ByteArray) {h:AHeap} (hs:SpOk g o om h) (hp:∀ r ∈ g.rules,r.plain) (ha:ArgOk g) (hl:g.rules.length <= 2 ^ 31) (hpl:∀ r ∈ g.rules,r.parts.length <= 2 ^ 31) (hn:t.nodes <= 2 ^ 31) (hf:formedF g t=true) (hll:l.length <= 2001) :
  AEx PP Gl 59 [.ptr o 0 0,encT t,gsl l h.length] (h++apdH l.length) (.ret (gsl (spellF g t l) h.length)) (h++apdH (spellF g t l).length):=by
 have hnn:=Tr.nodes_eq t
 have hlen:=Tr.length_le t.kids
 have hfe:=formedF_eq g t
 have hse:=spellF_eq g t
 rw [hf] at hfe
 cases hra:ruleAt g t.label with
 | none=>rw [hra] at hfe; simp [formR] at hfe
 | some r =>
 rw [hra] at hfe hse
 obtain ⟨hrm,hrl⟩:=ruleAt_mem hra
 have har:=ha r hrm
 have hrp:=hpl r hrm
 simp only [formR,Bool.true_eq,Bool.and_eq_true,List.all_eq_true,decide_eq_true_eq] at hfe
 obtain ⟨hfit,hargs⟩:=hfe
 have hsp:spellF g t l=spParts r.parts (t.kids.map (spellF g)) l:=by rw [hse]; rfl
 refine enter_earley_speller_spell (by simp) ?_
 simp -implicitDefEqProofs [code_earley_speller_spell,res_earley_speller_spell,ann_earley_speller_spell,encT_eq t]
 refine callk (rule_at_c g o om t.label hs.app hp hl) rfl rfl ?_
 simp -implicitDefEqProofs [hra,ruleV,encR]
 refine AWp.cnt r.parts.length [0,4,19,20] (fun i=>[(2,gsl (spParts (r.parts.take i) (t.kids.map (spellF g)) l) h.length),(21,i64 i)]) (fun i=>h++apdH (spParts (r.parts.take i) (t.kids.map (spellF g)) l).length) (fun i=>True) mixed trivial (le_of (by simp [dslot,spParts])) (by simp [spParts]) ?_ ?_
 .intro i hi _
  obtain ⟨p,hpi⟩:∃ k,r.parts[i]?=some k:=⟨r.parts[i],by simp [hi]⟩
  have hlt:(i:Int) < r.parts.length:=by omega
  have hne:r.parts ≠ []:=by intro e; rw [e] at hi; simp at hi
  have hpm:=List.mem_of_getElem? hpi
  have hst:=spParts_take (fs:=t.kids.map (spellF g)) (l:=l) hpi
  have hcl:(spParts (r.parts.take i) (t.kids.map (spellF g)) l).length <= 2001:=spParts_le _ (fun f hf'=>by
   obtain ⟨k,_,rfl⟩:=List.mem_map.1 hf'
   exact spellF_le g k) _ l hll
  have hstop:=spParts_stop (ps:=r.parts) (fs:=t.kids.map (spellF g)) (l:=l) (i:=i)
  generalize hcur:spParts (r.parts.take i) (t.kids.map (spellF g)) l=cur at *
  by_cases hbig:(2000:Int) < cur.length
  .simp -implicitDefEqProofs [lp0_earley_speller_spell,hlt,hpi,encP,hbig]
   refine retE (by simp [deferred,dslot]) rfl ?_ ?_
   .rw [hsp,hstop (by omega)]
   .rw [hsp,hstop (by omega)]
  .rw [if_neg (by omega)] at hst
   by_cases hsy:p.sort=⟨#[]⟩
   .rw [if_pos hsy] at hst
    simp -implicitDefEqProofs [lp0_earley_speller_spell,hlt,hpi,encP,hbig,hsy]
    refine appkL (cur.map sv) [sv p.sym] h (by simp [apd_sl]) (by simp) (by simp) (len_tok (by simp; omega)) ?_
    simp -implicitDefEqProofs
    rw [IntWalk.i64_in ((i:Int)+1) (by omega)]
    exact ⟨le_of (by simp [dslot,hst,apd_sl]),by rw [hst]; simp⟩
   .rw [if_neg hsy] at hst
    obtain ⟨ha1,ha2⟩:=har p hpm hsy
    have hfp:=hfit p hpm
    obtain ⟨n,hnp⟩:∃ n:Nat,p.arg=n:=⟨p.arg.toNat,by omega⟩
    have hnt:p.arg.toNat=n:=by omega
    simp only [partFit,hsy,hnt,decide_false,Bool.false_or] at hfp
    cases hkn:t.kids[n]? with
    | none=>rw [hkn] at hfp; simp at hfp
    | some k =>
     rw [hkn] at hfp
     simp only [Bool.and_eq_true,getD_map,hkn] at hfp
     have hfk:formedF g k=true:=by simpa using hfp.2
     have hnl:=(List.getElem?_eq_some_iff.1 hkn).1
     have hkm:=List.mem_of_getElem? hkn
     have hkno:=Tr.nodesL_mem hkm
     have hkne:t.kids ≠ []:=by intro e; rw [e] at hnl; simp at hnl
     have hgd:(t.kids.map (spellF g)).getD n id=spellF g k:=by rw [getD_map,hkn]; rfl
     rw [hnt,hgd] at hst
     simp -implicitDefEqProofs [lp0_earley_speller_spell,hlt,hpi,encP,hbig,hsy,hnp,hkn,encT_eq k]
     refine callk (spell_c g o om k cur hs hp ha hl hpl (by omega) hfk hcl) (by simp [encT_eq k]) rfl ?_
     simp -implicitDefEqProofs
     rw [IntWalk.i64_in ((i:Int)+1) (by omega)]
     exact ⟨le_of (by simp [dslot,hst]),by rw [hst]⟩
 .intro _
  simp -implicitDefEqProofs [lp0_earley_speller_spell]
  refine retE (by simp [deferred,dslot]) rfl ?_ ?_
  .rw [hsp]
  .rw [hsp]
termination_by t.nodes
decreasing_by
 have:=Tr.nodesL_mem hkm
 omega
end Go.Apx
end
section
namespace Go.Apx
open Go.Proofs
set_option maxRecDepth 4000
theorem once_arg {l:List Pt} (h:onceF l=true):∀ p ∈ l,p.sort ≠ ⟨#[]⟩ -> 0 <= p.arg /\ p.arg < argsF l:=by
 intro p hp hs
 have h1:=placed_once l
 rw [h,placed_iff] at h1
 have hperm:=sortF_perm (argL l)
 rw [h1,sortF_length,argL_length] at hperm
 have hm:p.arg ∈ argL l:=List.mem_map.2 ⟨p,List.mem_filter.2 ⟨hp,by simpa using hs⟩,rfl⟩
 have:=hperm.symm.subset hm
 simp only [rangeI,List.mem_map,List.mem_range] at this
 obtain ⟨a,h2,h3⟩:=this
 omega
theorem check_ok {g:Gr} (h:checkF g=0):g.rules.length <= 600 /\ (∀ r ∈ g.rules,r.parts.length <= 200) /\ ∀ i r,g.rules[i]?=some r -> ruleOkF g r i=true:=by
 unfold checkF at h
 split at h
 .omega
 .rename_i c1
  split at h
  .omega
  .rename_i c2
   split at h
   .split at h
    .rename_i c4
     refine ⟨by omega,fun r hr=>?_,allIdx_iff.1 c4⟩
     have:g.rules.any longF=false:=by simpa using c2
     rw [List.any_eq_false] at this
     have:=this r hr
     simp [longF] at this; omega
    .omega
   .omega
theorem check_args {g:Gr} (h:checkF g=0):ArgOk g:=by
 intro r hr
 obtain ⟨i,hi⟩:=List.getElem?_of_mem hr
 have:=(check_ok h).2.2 i r hi
 simp only [ruleOkF,rruleF,Bool.and_eq_true] at this
 exact once_arg this.1.1.2
theorem check_fresh {g:Gr} (h:checkF g=0) {i:Nat} {r:Rl} (hi:g.rules[i]?=some r):sfind (numF (g.rules.take i) 0) r.label=none:=by
 have:=(check_ok h).2.2 i r hi
 simp only [ruleOkF,Bool.and_eq_true,decide_eq_true_eq] at this
 have h2:placeF (fun x=>decide (x.label=r.label)) g.rules=(i:Int):=this.2
 rw [place_first hi (by simp)] at h2
 rw [numF_find,List.findIdx?_eq_none_iff.2 (fun x hx=>h2 x hx)]
 rfl
def errF (g:Gr) (t:Tr):Int:=if checkF g ≠ 0 then checkF g else if (szF t 1).1 > 4000 then 4 else if (szF t 1).2 > 100 then 9 else if formedF g t=true then 0 else 2
theorem errF_zero {g:Gr} {t:Tr} (h:errF g t=0):checkF g=0 /\ formedF g t=true:=by
 unfold errF at h
 split at h
 .rename_i h1; exact (h1 h).elim
 .rename_i h1
  split at h
  .omega
  .split at h
   .omega
   .split at h
    .rename_i hf; exact ⟨by omega,hf⟩
    .omega
def spH (g:Gr) (h:AHeap):AHeap:=h++[.amap (smap iv (numF g.rules 0)),.cells 0 [.sl 1 (g.sorts.map sv) g.sc,.sl 4 (g.rules.map encR) g.rc,.mp h.length]]
theorem spH_ok (g:Gr) (h:AHeap):SpOk g (h.length+1) h.length (spH g h):=by
 constructor <;> simp [spH]
structure InOk (g:Gr) (t:Tr):Prop where
 parts:g.sorts.length <= 32 -> g.rules.length <= 600 -> ∀ r ∈ g.rules,longF r=false -> r.parts.length <= 12
 sorts:g.sorts.length <= 2 ^ 31
 rules:g.rules.length <= 2 ^ 31
 plain:∀ r ∈ g.rules,r.plain
 nodes:t.nodes <= 2 ^ 20
theorem new_c (g:Gr) (t:Tr) (hi:InOk g t) {h:AHeap}:AEx PP Gl 58 [encG g,encT t] h
  (.ret (if errF g t=0 then .tup [.ptr (h.length+1) 0 0,i64 0] else .tup [.sc (.pointer none),i64 (errF g t)])) (if errF g t=0 then spH g h else h):=by
 have hnod:=hi.nodes
 have hru:=hi.rules
 refine enter_earley_newSpeller (by simp) ?_
 simp -implicitDefEqProofs [code_earley_newSpeller,res_earley_newSpeller,ann_earley_newSpeller,encG,encT_eq t]
 refine callk (check_c g hi.parts hi.sorts hi.rules) (by simp [encG]) rfl ?_
 simp -implicitDefEqProofs
 refine ⟨fun hc=>?_,fun hc=>?_⟩
 rotate_left
 .have he:errF g t=checkF g:=by unfold errF; rw [if_pos hc]
  refine retE (by simp [deferred,dslot]) rfl ?_ ?_
  .rw [he,if_neg hc]
  .rw [he,if_neg hc]
 refine callk (size_c t 1 (by omega) (by omega) (by omega)) (by simp [encT_eq t]) rfl ?_
 simp -implicitDefEqProofs
 refine ⟨fun hb=>?_,fun hb=>?_⟩
 .have he:errF g t=4:=by unfold errF; rw [if_neg (by omega),if_pos (by omega)]
  refine retE (by simp [deferred,dslot]) rfl ?_ ?_
  .rw [he]; rfl
  .rw [he]; rfl
 refine ⟨fun hd=>?_,fun hd=>?_⟩
 .have he:errF g t=9:=by unfold errF; rw [if_neg (by omega),if_neg (by omega),if_pos (by omega)]
  refine retE (by simp [deferred,dslot]) rfl ?_ ?_
  .rw [he]; rfl
  .rw [he]; rfl
 have hfr:=fun {i:Nat} {r:Rl}=>@check_fresh g hc i r
 refine AWp.cnt g.rules.length [3,9,31,32] (fun i=>[(33,i64 i)]) (fun i=>h++[.amap (smap iv (numF (g.rules.take i) 0)),.cells 0 [.sl 1 (g.sorts.map sv) g.sc,.sl 4 (g.rules.map encR) g.rc,.mp h.length]]) (fun _=>True) mixed trivial (le_of (by simp [dslot])) (by simp [numF,smap]) ?_ ?_
 .intro i hil _
  obtain ⟨k,hki⟩:∃ k,g.rules[i]?=some k:=⟨g.rules[i],by simp [hil]⟩
  have hlt:(i:Int) < g.rules.length:=by omega
  have hne:g.rules ≠ []:=by intro e; rw [e] at hil; simp at hil
  have hset:sset (numF (g.rules.take i) 0) k.label (i:Int)=numF (g.rules.take (i+1)) 0:=by
   rw [sset_none _ _ _ (hfr hki),List.take_add_one,hki,numF_append]
   simp [numF,Nat.min_eq_left (Nat.le_of_lt hil)]
  simp -implicitDefEqProofs [lp0_earley_newSpeller,hlt,hki,encR,hset]
  rw [IntWalk.i64_in ((i:Int)+1) (by omega)]
  exact le_of (by simp [dslot])
 .intro _
  simp -implicitDefEqProofs [lp0_earley_newSpeller]
  have hsp:=spH_ok g h
  unfold spH at hsp
  have hck:=check_ok hc
  refine callk (formed_c g (h.length+1) h.length t hsp hi.plain (check_args hc) hi.rules (fun r hr=>by have:=hck.2.1 r hr; omega) (by omega)) (by simp [encT_eq t]) rfl ?_
  generalize hf:formedF g t=bf
  cases bf with
  | true =>
   have he:errF g t=0:=by unfold errF; rw [if_neg (by omega),if_neg (by omega),if_neg (by omega),if_pos hf]
   simp -implicitDefEqProofs
   refine retE (by simp [deferred,dslot]) rfl ?_ ?_
   .rw [he]; rfl
   .rw [he]; rfl
  | false =>
   have he:errF g t=2:=by unfold errF; rw [if_neg (by omega),if_neg (by omega),if_neg (by omega),if_neg (by simp [hf])]
   simp -implicitDefEqProofs
   refine retD (by simp [deferred,dslot]) rfl (by simp [AV.strip,stripL,AV.inb,inbL]) ?_ ?_
   .rw [he]; rfl
   .rw [he]; rfl
abbrev seen (l:List ByteArray):AV:=.sl (apdK 1 (l.map sv)) (l.map sv) (if l=[] then .nil else .any)
theorem strip_sv (l:List ByteArray):stripL (l.map sv)=l.map sv:=by
 induction l with
 | nil=>rfl
 | cons a l ih=>simp only [List.map_cons,stripL,ih]; rfl
theorem inb_sv (n:Nat) (l:List ByteArray):inbL n (l.map sv)=true:=by
 induction l with
 | nil=>rfl
 | cons a l ih=>simp only [List.map_cons,inbL,ih,Bool.and_true]; rfl
theorem strip_gsl (l:List ByteArray) (n:Nat):(gsl l n).strip=seen l:=by
 cases l with
 | nil=>rfl
 | cons a l=>simp only [gsl,seen,AV.strip,strip_sv,apdC,Cap.strip]; simp [Cap.strip]
def textF (g:Gr) (t:Tr):List ByteArray × Int :=
 if errF g t ≠ 0 then ([],errF g t) else if (spellF g t []).length > 2000 then ([],15) else (spellF g t [],0)
theorem text_c (g:Gr) (t:Tr) (hi:InOk g t) {h:AHeap}:AEx PP Gl 23 [encG g,encT t] h (.ret (.tup [seen (textF g t).1,i64 (textF g t).2])) h:=by
 have hnod:=hi.nodes
 refine enter_earley_Text (by simp) ?_
 simp -implicitDefEqProofs [code_earley_Text,res_earley_Text,ann_earley_Text,encG,encT_eq t]
 refine callk (new_c g t hi) (by simp [encG,encT_eq t]) rfl ?_
 by_cases he:errF g t=0
 .obtain ⟨hc,hf⟩:=errF_zero he
  have hck:=check_ok hc
  simp -implicitDefEqProofs [he]
  have hsp:=spell_c g (h.length+1) h.length t [] (spH_ok g h) hi.plain (check_args hc) hi.rules (fun r hr=>by have:=hck.2.1 r hr; omega) (by omega) hf (by simp)
  refine callk hsp (by simp [encT_eq t,apdK,apdC]) (by simp) ?_
  by_cases hbig:(2000:Int) < (spellF g t []).length
  .have ht:textF g t=([],15):=by unfold textF; rw [if_neg (by omega),if_pos (by omega)]
   simp -implicitDefEqProofs [hbig,spH]
   exact retD (by simp [deferred,dslot]) rfl (by simp [AV.strip,stripL,AV.inb,inbL,Cap.strip,Cap.inb]) (by rw [ht] <;> rfl) rfl
  .have ht:textF g t=(spellF g t [],0):=by unfold textF; rw [if_neg (by omega),if_neg (by omega)]
   simp -implicitDefEqProofs [hbig,spH]
   refine retD (by simp [deferred,dslot]) rfl ?_ ?_ rfl
   .simp only [AV.strip,stripL]
    have h1:=strip_gsl (spellF g t []) (h.length+2)
    simp only [gsl,AV.strip] at h1
    rw [h1]
    simp [AV.inb,inbL]
    refine ⟨inb_sv _ _,?_⟩
    split <;> rfl
   .simp only [AV.strip,stripL]
    have h1:=strip_gsl (spellF g t []) (h.length+2)
    simp only [gsl,AV.strip] at h1
    rw [h1,ht]
 .have ht:textF g t=([],errF g t):=by unfold textF; rw [if_pos he]
  simp -implicitDefEqProofs [he]
  exact retE (by simp [deferred,dslot]) rfl (by rw [ht] <;> rfl) rfl
def sortF2 (g:Gr) (t:Tr):ByteArray × Int:=if errF g t ≠ 0 then (⟨#[]⟩,errF g t) else (match ruleAt g t.label with | some r=>r.sort | none=>⟨#[]⟩,0)
theorem esort_c (g:Gr) (t:Tr) (hi:InOk g t) {h:AHeap}:AEx PP Gl 24 [encG g,encT t] h (.ret (.tup [sv (sortF2 g t).1,i64 (sortF2 g t).2])) h:=by
 have hnod:=hi.nodes
 refine enter_earley_Sort (by simp) ?_
 simp -implicitDefEqProofs [code_earley_Sort,res_earley_Sort,ann_earley_Sort,encG,encT_eq t]
 refine callk (new_c g t hi) (by simp [encG,encT_eq t]) rfl ?_
 by_cases he:errF g t=0
 .obtain ⟨hc,hf⟩:=errF_zero he
  simp -implicitDefEqProofs [he]
  refine callk (rule_at_c g (h.length+1) h.length t.label (spH_ok g h) hi.plain hi.rules) rfl rfl ?_
  cases hra:ruleAt g t.label with
  | none =>
   have ht:sortF2 g t=(⟨#[]⟩,0):=by unfold sortF2; rw [if_neg (by omega),hra]
   simp -implicitDefEqProofs [ruleV,zeroR,spH]
   exact retD (by simp [deferred,dslot]) rfl (by simp [AV.strip,stripL,AV.inb,inbL]) (by rw [ht] <;> rfl) rfl
  | some r =>
   have ht:sortF2 g t=(r.sort,0):=by unfold sortF2; rw [if_neg (by omega),hra]
   simp -implicitDefEqProofs [ruleV,encR,spH]
   exact retD (by simp [deferred,dslot]) rfl (by simp [AV.strip,stripL,AV.inb,inbL]) (by rw [ht] <;> rfl) rfl
 .have ht:sortF2 g t=(⟨#[]⟩,errF g t):=by unfold sortF2; rw [if_pos he]
  simp -implicitDefEqProofs [he]
  exact retE (by simp [deferred,dslot]) rfl (by rw [ht] <;> rfl) rfl
end Go.Apx
end
section
namespace Go.Apx
open Go.Proofs
set_option maxRecDepth 4000
def ftParts (fs:List (List ByteArray)) (ps:List Pt):List ByteArray:=ps.flatMap fun p=>if p.sort=⟨#[]⟩ then [p.sym] else fs.getD p.arg.toNat []
def ftR (o:Option Rl) (fs:List (List ByteArray)):List ByteArray:=match o with
 | none=>[]
 | some r=>ftParts fs r.parts
mutual
def ftF (g:Gr):Tr -> List ByteArray
 | .node s ks _=>ftR (ruleAt g s) (ftL g ks)
def ftL (g:Gr):List Tr -> List (List ByteArray)
 | []=>[]
 | t :: r=>ftF g t :: ftL g r
end
def SpS (f:List ByteArray -> List ByteArray) (u:List ByteArray):Prop:=∀ l:List ByteArray,((l++u).length <= 2000 -> f l=l++u) /\ ((l++u).length > 2000 -> (f l).length > 2000)
def SpL:List (List ByteArray -> List ByteArray) -> List (List ByteArray) -> Prop
 | [],[]=>True
 | f :: fs,u :: us=>SpS f u /\ SpL fs us
 | _,_=>False
theorem SpL.get:∀ {fs us},SpL fs us -> ∀ i,SpS (fs.getD i id) (us.getD i [])
 | [],[],_,i=>by intro l; simp
 | f :: fs,u :: us,h,0=>h.1
 | f :: fs,u :: us,h,i+1=>by simpa using SpL.get h.2 i
 | [],_ :: _,h,_=>h.elim
 | _ :: _,[],h,_=>h.elim
theorem spParts_spec {fs us} (h:SpL fs us):∀ (ps:List Pt),SpS (spParts ps fs) (ftParts us ps)
 | []=>by intro l; simp [spParts,ftParts]
 | p :: ps=>by
  intro l
  have ih:=spParts_spec h ps
  have hft:ftParts us (p :: ps)=(if p.sort=⟨#[]⟩ then [p.sym] else us.getD p.arg.toNat [])++ftParts us ps:=by simp [ftParts]
  rw [hft]
  simp only [spParts]
  by_cases hb:l.length > 2000
  .rw [if_pos hb]
   refine ⟨fun h1=>?_,fun _=>hb⟩
   rw [List.length_append] at h1; omega
  .rw [if_neg hb]
   generalize hu:(if p.sort=⟨#[]⟩ then [p.sym] else us.getD p.arg.toNat [])=u
   have hstep:((l++u).length <= 2000 -> (if p.sort=⟨#[]⟩ then l++[p.sym] else (fs.getD p.arg.toNat id) l)=l++u) /\ ((l++u).length > 2000 -> (if p.sort=⟨#[]⟩ then l++[p.sym] else (fs.getD p.arg.toNat id) l).length > 2000):=by
    by_cases hs:p.sort=⟨#[]⟩
    .rw [if_pos hs] at hu ⊢
     subst hu
     exact ⟨fun _=>rfl,fun h=>h⟩
    .rw [if_neg hs] at hu ⊢
     subst hu
     exact h.get _ l
   generalize (if p.sort=⟨#[]⟩ then l++[p.sym] else (fs.getD p.arg.toNat id) l)=l' at hstep
   by_cases hc:(l++u).length <= 2000
   .rw [hstep.1 hc,<- List.append_assoc]
    exact ih (l++u)
   .have hbig:=hstep.2 (by omega)
    rw [spParts_big _ _ _ hbig]
    refine ⟨fun h1=>?_,fun _=>hbig⟩
    simp only [List.length_append] at h1 hc
    omega
mutual
theorem spell_spec (g:Gr):∀ t:Tr,SpS (spellF g t) (ftF g t)
 | .node s ks c=>by
  simp only [spellF,ftF]
  cases hr:ruleAt g s with
  | none=>intro l; simp [spR,ftR]
  | some r=>exact spParts_spec (spell_specL g ks) r.parts
theorem spell_specL (g:Gr):∀ ks:List Tr,SpL (spellL g ks) (ftL g ks)
 | []=>trivial
 | t :: r=>⟨spell_spec g t,spell_specL g r⟩
end
end Go.Apx
end
section
namespace Go.Apx
open Go.Proofs
set_option maxRecDepth 4000
theorem appNil {C:Cx} {k b:Nat} {x y:Opd} {d:Option Nat} {env:Env} {H:AHeap} {K:Env -> AHeap -> Prop} (v:AV) (hx:evalOpd C.G env x=some (.sl 0 [] .nil)) (hy:(evalOpd C.G env y).bind (elems H k)=some [v])
  (hK:K (putD env d (.sl k [v] (.tok H.length))) (H++[.tok 1])):appW C k b x y d env H K:=by
 have:=appkL (C:=C) (k:=k) (b:=b) (x:=x) (y:=y) (d:=d) (env:=env) (H:=H) (K:=K) [] [v] H (by simpa using hx) hy (by simp) (len_tok (by simp)) (by simpa using hK)
 exact this
theorem appTok {C:Cx} {k b:Nat} {x y:Opd} {d:Option Nat} {env:Env} {H:AHeap} {K:Env -> AHeap -> Prop} (es:List AV) (v:AV) (T:Nat) (hx:evalOpd C.G env x=some (.sl k es (.tok T))) (hy:(evalOpd C.G env y).bind (elems H k)=some [v])
  (hT:H[T]?=some (.tok es.length)) (hm:es.length+1 <= maxLenA) (hK:K (putD env d (.sl k (es++[v]) (.tok T))) (H.set T (.tok (es.length+1)))):appW C k b x y d env H K:=by
 unfold appW
 have he:evalOp C.G env H (.append k b x y)=some (.sl k (es++[v]) (.tok T),H.set T (.tok (es.length+1))):=by
  simp only [evalOp,hx,hy]
  simp [hT,hm]
 rw [he]
 exact hK
end Go.Apx
end
section
namespace Go.Apx
open Go.Proofs
set_option maxRecDepth 4000
theorem AVLe.agg {cs ds:List AV} (hl:cs.length=ds.length) (h1:∀ d ∈ ds,d.one=true) (h:∀ (i:Nat) (a b:AV),cs[i]?=some a -> ds[i]?=some b -> AVLe a b):AVLe (.agg cs) (.agg ds):=fun I m x hx=>by
 cases hx with
 | agg _ vs hl' h1' hr =>
  refine .agg ds vs (by omega) h1 fun i b x hb hx=>?_
  have hi:i < cs.length:=by rw [hl]; exact (List.getElem?_eq_some_iff.1 hb).1
  exact h i _ b (List.getElem?_eq_getElem hi) hb I m x (hr i _ x (List.getElem?_eq_getElem hi) hx)
def PW (cs ds:List AV):Prop:=cs.length=ds.length /\ ∀ (i:Nat) (a b:AV),cs[i]?=some a -> ds[i]?=some b -> AVLe a b
theorem PW.append {a b c d:List AV} (h:PW a b) (h':PW c d):PW (a++c) (b++d):=by
 refine ⟨by simp [h.1,h'.1],fun i x y hx hy=>?_⟩
 rcases Nat.lt_or_ge i a.length with h1 | h1
 .rw [List.getElem?_append_left h1] at hx
  rw [List.getElem?_append_left (by rw [<- h.1]; exact h1)] at hy
  exact h.2 i x y hx hy
 .rw [List.getElem?_append_right h1] at hx
  rw [List.getElem?_append_right (by rw [<- h.1]; exact h1),<- h.1] at hy
  exact h'.2 _ x y hx hy
theorem PW.flat {α:Type} {f g:α -> AV}:∀ (l:List α),(∀ a ∈ l,PW (f a).cells (g a).cells) -> PW ((l.map f).flatMap AV.cells) ((l.map g).flatMap AV.cells)
 | [],_=>⟨rfl,fun i a b ha=>by simp at ha⟩
 | a :: l,h=>by
  simp only [List.map_cons,List.flatMap_cons]
  exact (h a (by simp)).append (PW.flat l fun b hb=>h b (by simp [hb]))
theorem AVLe.slMap {α:Type} {k:Nat} (l:List α) (f g:α -> AV) (c:Cap) (h:∀ a ∈ l,PW (f a).cells (g a).cells) (h1:∀ a ∈ l,∀ d ∈ (g a).cells,d.one=true):AVLe (.sl k (l.map f) c) (.sl k (l.map g) c):=fun I m x hx=>by
 have hpw:=PW.flat l h
 cases l with
 | nil=>exact hx
 | cons a0 l0 =>
 generalize hl0:a0 :: l0=l at *
 have hne:l.map f ≠ []:=by rw [<- hl0]; simp
 generalize hm:l.map f=lf at *
 cases hx with
 | slnil=>exact (hne rfl).elim
 | sl _ _ _ a cap vs hc hle hk hw h1' hl hr hI hs hcap =>
  subst hm
  have e:(l.map f).length=(l.map g).length:=by simp
  rw [e]
  refine .sl k (l.map g) c a cap vs hc (by rw [<- e]; exact hle) hk (fun v hv=>?_) (fun d hd=>?_) (by rw [<- hpw.1]; exact hl) (fun i u x hu hx=>?_) hI (fun hne=>hs fun e2=>hne ?_) (by rw [<- e]; exact hcap)
  .obtain ⟨b,hb,rfl⟩:=List.mem_map.1 hv
   rw [<- (h b hb).1]
   exact hw _ (List.mem_map.2 ⟨b,hb,rfl⟩)
  .obtain ⟨v,hv,hd2⟩:=List.mem_flatMap.1 hd
   obtain ⟨b,hb,rfl⟩:=List.mem_map.1 hv
   exact h1 b hb d hd2
  .have hi:i < ((l.map f).flatMap AV.cells).length:=by rw [hpw.1]; exact (List.getElem?_eq_some_iff.1 hu).1
   exact hpw.2 i _ u (List.getElem?_eq_getElem hi) hu I m x (hr i _ x (List.getElem?_eq_getElem hi) hx)
  .have:l=[]:=by simpa using e2
   subst this; rfl
end Go.Apx
end
