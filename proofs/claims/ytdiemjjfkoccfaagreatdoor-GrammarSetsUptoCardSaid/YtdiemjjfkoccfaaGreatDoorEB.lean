/- Walks: sort of a few numbers, and what it gives. -/
import Derived.Test.YtdiemjjfkoccfaaGreatDoorEA
import Derived.Test.YtdiemjjfkoccfaaGreatDoorCodeT
import Derived.Test.YtdiemjjfkoccfaaGreatDoorAmC
set_option linter.unusedVariables false
set_option linter.unusedSimpArgs false
set_option linter.unnecessarySimpa false
section
namespace Go.Apx
open Go.Proofs
set_option maxRecDepth 100000
theorem Lends.same {h:AHeap}:∀ {us:List AV},inbL 0 us=true -> Lends h us us
 | [],_=>.nil
 | v :: r,hb=>by
  simp only [inbL,Bool.and_eq_true] at hb
  exact .cons (lend_same hb.1) (Lends.same hb.2)
theorem KOk.at {P:Program} {G:Globs} {f:FuncId} {args:List AV} {v:AV} (hk:KOk P G ⟨f,args,[],v,[]⟩) (hv:flatV v=true) (ha:inbL 0 args=true) {h:AHeap}:AEx P G f args h (.ret v) h:=by
 refine lend (vs:=args) ((hk [] rfl).mono fun r h' hr=>?_) hv (Lends.same ha)
 obtain ⟨h1,h2,_⟩:=hr
 refine ⟨h1,?_⟩
 cases h' with
 | nil=>rfl
 | cons a b=>simp at h2
def lenK (n k:Nat):KI:=⟨90,[.sc (.int .u64 n)],[],.sc (.int .i64 k),[]⟩
theorem len_c (n:Nat) (hn:n <= 12) {h:AHeap}:∃ k:Nat,AEx PP Gl 90 [.sc (.int .u64 n)] h (.ret (.sc (.int .i64 k))) h:=by
 have key:∀ n k:Nat,(match callI PP Gl (findT tbl) [] 20 [] (lenK n k).f (lenK n k).args (lenK n k).h with
   | some (v,h')=>v.eqb (lenK n k).v && eqbH h' (lenK n k).h'
   | none=>false)=true -> AEx PP Gl 90 [.sc (.int .u64 n)] h (.ret (.sc (.int .i64 k))) h:=fun n k hk =>
  KOk.at (KOk.interp (k:=lenK n k) mixed (findT_ok tbl_ok) (by simp) 20 hk) rfl rfl
 have cases:n=0 \/ n=1 \/ n=2 \/ n=3 \/ n=4 \/ n=5 \/ n=6 \/ n=7 \/ n=8 \/ n=9 \/ n=10 \/ n=11 \/ n=12:=by omega
 rcases cases with rfl | rfl | rfl | rfl | rfl | rfl | rfl | rfl | rfl | rfl | rfl | rfl | rfl
 .exact ⟨0,key 0 0 (by kernel_rfl)⟩
 .exact ⟨1,key 1 1 (by kernel_rfl)⟩
 .exact ⟨2,key 2 2 (by kernel_rfl)⟩
 .exact ⟨2,key 3 2 (by kernel_rfl)⟩
 .exact ⟨3,key 4 3 (by kernel_rfl)⟩
 .exact ⟨3,key 5 3 (by kernel_rfl)⟩
 .exact ⟨3,key 6 3 (by kernel_rfl)⟩
 .exact ⟨3,key 7 3 (by kernel_rfl)⟩
 .exact ⟨4,key 8 4 (by kernel_rfl)⟩
 .exact ⟨4,key 9 4 (by kernel_rfl)⟩
 .exact ⟨4,key 10 4 (by kernel_rfl)⟩
 .exact ⟨4,key 11 4 (by kernel_rfl)⟩
 .exact ⟨4,key 12 4 (by kernel_rfl)⟩
theorem pdq_c (l:List Int) (o g:Nat) (rc:RCap) (lim:Int) (hl:l.length <= 12) {h:AHeap} (ho:h[o]?=some (.cells g (l.map i64))) :
  AEx PP Gl 118 [.rf o g 0 l.length rc,i64 0,i64 l.length,i64 lim] h (.ret (.tup [])) (h.set o (.cells g ((sortF l).map i64))):=by
 refine enter_118 (by simp) ?_
 simp [code_118,res_118,ann_118]
 refine AWp.cnt 0 [0,1,2,3,8,9] (fun i=>[]) (fun i=>h) (fun _=>True) mixed trivial (aI (by simp [dslot])) rfl (fun i hi=>by omega) ?_
 intro _
 have hle:(l.length:Int) <= 12:=by omega
 have hw:IntKind.i64.wrap (l.length:Int)=l.length:=IntWalk.i64_in _ (by omega)
 simp -implicitDefEqProofs [lp0_118,hle,hw]
 refine aP (insertion_c l o g rc (by omega) ho) rfl rfl ?_
 simp
 exact aZ (by simp [deferred,dslot]) rfl rfl rfl
theorem sort_c (l:List Int) (o g:Nat) (rc:RCap) (hl:l.length <= 12) {h:AHeap} (ho:h[o]?=some (.cells g (l.map i64))) :
  AEx PP Gl 97 [.rf o g 0 l.length rc] h (.ret (.tup [])) (h.set o (.cells g ((sortF l).map i64))):=by
 obtain ⟨k,hk⟩:=len_c l.length hl (h:=h)
 have hw:IntKind.u64.wrap (l.length:Int)=l.length:=by
  simp only [IntKind.wrap,IntKind.bits,IntKind.signed]
  simp
  omega
 refine enter_97 (by simp) ?_
 simp [code_97,res_97,ann_97,hw]
 refine aP hk rfl rfl ?_
 simp
 refine aP (pdq_c l o g rc k hl ho) rfl rfl ?_
 simp
 exact aZ (by simp [deferred,dslot]) rfl rfl rfl
theorem swp_perm (l:List Int) (j:Nat) (h:j+1 < l.length):(swp l j).Perm l:=by
 have e:swp l j=(l.set (j+1) l[j]).set j l[j+1]:=by
  simp [swp,List.getD,List.getElem?_eq_getElem h,List.getElem?_eq_getElem (show j < l.length by omega)]
 rw [e]
 have h1:l=l.take j++(l[j] :: l[j+1] :: l.drop (j+2)):=by
  rw [<- List.drop_eq_getElem_cons (i:=j+1) h,<- List.drop_eq_getElem_cons (i:=j) (by omega),List.take_append_drop]
 have h2:(l.set (j+1) l[j]).set j l[j+1]=l.take j++(l[j+1] :: l[j] :: l.drop (j+2)):=by
  apply List.ext_getElem?
  intro i
  rw [List.getElem?_set,List.getElem?_set]
  simp only [List.length_set]
  by_cases c1:j=i
  .subst c1
   rw [List.getElem?_append_right (by simp; omega)]
   simp [show j < l.length by omega,Nat.min_eq_left (show j <= l.length by omega)]
  .by_cases c2:j+1=i
   .subst c2
    rw [List.getElem?_append_right (by simp; omega)]
    simp [h,Nat.min_eq_left (show j <= l.length by omega)]
   .rw [if_neg c1,if_neg c2]
    rcases Nat.lt_or_ge i j with c3 | c3
    .rw [List.getElem?_append_left (by simp; omega),List.getElem?_take,if_pos c3]
    .rw [List.getElem?_append_right (by simp; omega)]
     simp only [List.length_take,Nat.min_eq_left (show j <= l.length by omega)]
     obtain ⟨q,rfl⟩:∃ q,i=j+2+q:=⟨i - (j+2),by omega⟩
     rw [show j+2+q - j=q+1+1 by omega]
     simp
 rw [h2]
 conv=>rhs; rw [h1]
 exact List.Perm.append_left _ (List.Perm.swap _ _ _)
theorem sink_perm:∀ (j:Nat) (l:List Int),j < l.length -> (sink j l).Perm l
 | 0,l,_=>.refl _
 | j+1,l,h=>by
  simp only [sink]
  split
  .exact (sink_perm j (swp l j) (by simp; omega)).trans (swp_perm l j h)
  .exact .refl _
theorem isortN_perm (l:List Int):∀ i,i < l.length -> (isortN l i).Perm l
 | 0,_=>.refl _
 | i+1,h=>(sink_perm (i+1) _ (by simp; omega)).trans (isortN_perm l i (by omega))
theorem sortF_perm (l:List Int):(sortF l).Perm l:=by
 unfold sortF
 cases l with
 | nil=>exact .refl _
 | cons a l=>exact isortN_perm _ _ (by simp)
@[simp] theorem sortF_length (l:List Int):(sortF l).length=l.length:=by simp [sortF]
def Ord (l:List Int) (n:Nat):Prop:=∀ i k (x y:Int),i < k -> k < n -> l[i]?=some x -> l[k]?=some y -> x <= y
def OrdBut (l:List Int) (n j:Nat):Prop:=∀ i k (x y:Int),i < k -> k < n -> (k ≠ j) -> l[i]?=some x -> l[k]?=some y -> x <= y
theorem swp_get (l:List Int) (j:Nat) (h:j+1 < l.length) (i:Nat):(swp l j)[i]?=if i=j then l[j+1]? else if i=j+1 then l[j]? else l[i]?:=by
 have h0:j < l.length:=by omega
 simp only [swp,List.getD,List.getElem?_eq_getElem h,List.getElem?_eq_getElem h0,Option.getD_some]
 rw [List.getElem?_set,List.getElem?_set]
 simp only [List.length_set]
 by_cases c1:j=i
 .subst c1; simp [h0]
 .by_cases c2:j+1=i
  .subst c2; simp [h]
  .simp [c1,c2,Ne.symm c1,Ne.symm c2]
theorem sink_ord:∀ (j:Nat) (l:List Int) (n:Nat),j < n -> n <= l.length -> OrdBut l n j -> (∀ k (x y:Int),j < k -> k < n -> l[j]?=some x -> l[k]?=some y -> x <= y) -> Ord (sink j l) n
 | 0,l,n,hj,hn,ho,hr=>by
  intro i k x y hik hk hx hy
  exact ho i k x y hik hk (by omega) hx hy
 | j+1,l,n,hj,hn,ho,hr=>by
  have e1:l[j+1]?=some (l[j+1]'(by omega)):=List.getElem?_eq_getElem _
  have e0:l[j]?=some (l[j]'(by omega)):=List.getElem?_eq_getElem _
  generalize l[j+1]'(by omega)=a at e1
  generalize l[j]'(by omega)=b at e0
  simp only [sink,List.getD,e1,e0,Option.getD_some]
  split
  .rename_i hlt
   refine sink_ord j (swp l j) n (by omega) (by simpa using hn) ?_ ?_
   .intro i k x y hik hk hkj hx hy
    rw [swp_get l j (by omega)] at hx hy
    rw [if_neg hkj] at hy
    by_cases c1:k=j+1
    .rw [if_pos c1,e0] at hy; cases hy
     by_cases c2:i=j
     .rw [if_pos c2,e1] at hx; cases hx; omega
     .rw [if_neg c2,if_neg (by omega)] at hx
      exact ho i j x b (by omega) (by omega) (by omega) hx e0
    .rw [if_neg c1] at hy
     by_cases c2:i=j
     .rw [if_pos c2,e1] at hx; cases hx
      exact hr k a y (by omega) hk e1 hy
     .rw [if_neg c2] at hx
      by_cases c3:i=j+1
      .rw [if_pos c3,e0] at hx; cases hx
       exact ho j k b y (by omega) hk (by omega) e0 hy
      .rw [if_neg c3] at hx
       exact ho i k x y hik hk c1 hx hy
   .intro k x y hjk hk hx hy
    rw [swp_get l j (by omega)] at hx hy
    rw [if_pos rfl,e1] at hx; cases hx
    rw [if_neg (by omega)] at hy
    by_cases c1:k=j+1
    .rw [if_pos c1,e0] at hy; cases hy; omega
    .rw [if_neg c1] at hy
     exact hr k a y (by omega) hk e1 hy
  .rename_i hge
   intro i k x y hik hk hx hy
   by_cases c1:k=j+1
   .subst c1
    rw [e1] at hy; cases hy
    by_cases c2:i=j
    .subst c2; rw [e0] at hx; cases hx; omega
    .have:=ho i j x b (by omega) (by omega) (by omega) hx e0
     omega
   .exact ho i k x y hik hk c1 hx hy
theorem isortN_ord (l:List Int):∀ i,i < l.length -> Ord (isortN l i) (i+1)
 | 0,h=>by intro i k x y hik hk; omega
 | i+1,h=>by
  have ih:=isortN_ord l i (by omega)
  refine sink_ord (i+1) (isortN l i) (i+2) (by omega) (by simp; omega) ?_ ?_
  .intro a k x y hak hk hki hx hy
   exact ih a k x y hak (by omega) hx hy
  .intro k x y h1 h2; omega
theorem sortF_ord (l:List Int):Ord (sortF l) l.length:=by
 cases l with
 | nil=>intro i k x y h1 h2; simp at h2
 | cons a l =>
  have:=isortN_ord (a :: l) l.length (by simp)
  simpa [sortF] using this
end Go.Apx
end
section
namespace Go.Apx
open Go.Proofs
set_option maxRecDepth 4000
def argL (l:List Pt):List Int:=(l.filter fun p=>!decide (p.sort=⟨#[]⟩)).map (·.arg)
theorem argL_length (l:List Pt):(argL l).length=argsF l:=by simp [argL,argsF]
theorem argL_take {l:List Pt} {i:Nat} {p:Pt} (h:l[i]?=some p):argL (l.take (i+1))=argL (l.take i)++(if p.sort=⟨#[]⟩ then [] else [p.arg]):=by
 rw [List.take_add_one,h]
 by_cases hp:p.sort=⟨#[]⟩ <;> simp [argL,hp]
theorem argL_count (l:List Pt) (k:Int):(argL l).count k=timesF l k:=by
 induction l with
 | nil=>rfl
 | cons p l ih =>
  by_cases hp:p.sort=⟨#[]⟩
  .have e1:argL (p :: l)=argL l:=by simp [argL,hp]
   have e2:timesF (p :: l) k=timesF l k:=by simp [timesF,hp]
   rw [e1,e2,ih]
  .have e1:argL (p :: l)=p.arg :: argL l:=by simp [argL,hp]
   rw [e1,List.count_cons,ih]
   by_cases ha:p.arg=k <;> simp [timesF,hp,ha]
def rangeI (n:Nat):List Int:=(List.range n).map fun (i:Nat)=>(i:Int)
theorem rangeI_count (n:Nat) (k:Nat):(rangeI n).count (k:Int)=if k < n then 1 else 0:=by
 induction n with
 | zero=>simp [rangeI]
 | succ n ih =>
  have:rangeI (n+1)=rangeI n++[(n:Int)]:=by simp [rangeI,List.range_succ]
  rw [this,List.count_append,ih,List.count_cons]
  simp only [List.count_nil,beq_iff_eq]
  by_cases h1:k < n
  .rw [if_pos h1,if_neg (by omega),if_pos (by omega)]
  .by_cases h2:k=n
   .subst h2; simp
   .rw [if_neg h1,if_neg (by omega),if_neg (by omega)]
theorem perm_range:∀ (n:Nat) (l:List Int),l.length=n -> (∀ k,k < n -> l.count (k:Int)=1) -> l.Perm (rangeI n)
 | 0,l,hl,_=>by
  have:l=[]:=List.eq_nil_of_length_eq_zero hl
  subst this; exact .refl _
 | n+1,l,hl,hc=>by
  have hm:(n:Int) ∈ l:=List.count_pos_iff.1 (by rw [hc n (by omega)]; omega)
  have hp:=List.perm_cons_erase hm
  have ih:=perm_range n (l.erase n) (by rw [List.length_erase_of_mem hm]; omega) (fun k hk=>by
   rw [List.count_erase_of_ne (by omega)]; exact hc k (by omega))
  have e:rangeI (n+1)=rangeI n++[(n:Int)]:=by simp [rangeI,List.range_succ]
  rw [e]
  exact hp.trans ((List.Perm.cons _ ih).trans (List.perm_append_singleton _ _).symm)
theorem ord_pairwise {l:List Int} (h:Ord l l.length):l.Pairwise (· <= ·):=by
 rw [List.pairwise_iff_getElem]
 intro i j hi hj hij
 exact h i j _ _ hij hj (List.getElem?_eq_getElem hi) (List.getElem?_eq_getElem hj)
theorem rangeI_pairwise (n:Nat):(rangeI n).Pairwise (· <= ·):=by
 rw [List.pairwise_iff_getElem]
 intro i j hi hj hij
 simp [rangeI]; omega
def placedF (l:List Int):Bool:=allIdx (fun x i=>decide (x=(i:Int))) l
theorem placed_iff (l:List Int):placedF l=true ↔ l=rangeI l.length:=by
 unfold placedF
 rw [allIdx_iff]
 constructor
 .intro h
  apply List.ext_getElem?
  intro i
  rcases Nat.lt_or_ge i l.length with h1 | h1
  .have:=h i l[i] (List.getElem?_eq_getElem h1)
   simp at this
   simp [rangeI,h1,this]
  .rw [List.getElem?_eq_none h1,List.getElem?_eq_none (by simp [rangeI]; exact h1)]
 .intro h i x hx
  rw [h] at hx
  simp [rangeI] at hx
  obtain ⟨w,hx1,hx2⟩:=hx
  obtain ⟨h4,h5⟩:=List.getElem?_eq_some_iff.1 hx1
  simp at h5
  simp [<- hx2,h5]
theorem placed_once (l:List Pt):placedF (sortF (argL l))=onceF l:=by
 rw [Bool.eq_iff_iff,placed_iff,sortF_length]
 have hperm:=sortF_perm (argL l)
 unfold onceF
 rw [List.all_eq_true]
 constructor
 .intro h k hk
  have hk':k < argsF l:=by simpa using hk
  have h1:=rangeI_count (argL l).length k
  rw [<- h,hperm.count_eq,argL_count,argL_length,if_pos hk'] at h1
  simpa using h1
 .intro h
  have hr:=perm_range (argL l).length (argL l) rfl (fun k hk=>by
   rw [argL_count]
   have:=h k (by rw [argL_length] at hk; simpa using hk)
   simpa using this)
  have hs:=ord_pairwise (l:=sortF (argL l)) (by rw [sortF_length]; exact sortF_ord _)
  exact List.Perm.eq_of_pairwise (le:=(· <= ·)) (fun a b _ _ h1 h2=>Int.le_antisymm h1 h2) hs (rangeI_pairwise _) (hperm.trans hr)
theorem arguments1_c (r:Rl) (o:Nat) (H:Nat -> AHeap) (hlen:r.parts.length <= 2 ^ 31) (hloop:∀ i,isLoop (H i) o=true)
  (hy:∀ i p,r.parts[i]?=some p -> p.sort ≠ ⟨#[]⟩ -> AYields PP Gl o [encP p] (H (argsF (r.parts.take i))) (fun e h'=>e=.ret (.sc (.bool true)) /\ h'=H (argsF (r.parts.take i)+1))) :
  AEx PP Gl 103 [.yld o,.ip (ab r)] (H 0) (.ret (.tup [])) (H (argsF r.parts)):=by
 refine enter_103 (by simp) ?_
 simp [code_103,res_103,ann_103,ab]
 refine AWp.cnt r.parts.length [0,6,7] (fun i=>[(8,i64 i)]) (fun i=>H (argsF (r.parts.take i))) (fun _=>True) mixed trivial (aI (by simp [dslot])) (by simp [argsF]) ?_ ?_
 .intro i hi _
  obtain ⟨k,hki⟩:∃ k,r.parts[i]?=some k:=⟨r.parts[i],by simp [hi]⟩
  have hlt:(i:Int) < r.parts.length:=by omega
  have hne:r.parts ≠ []:=by intro e; rw [e] at hi; simp at hi
  by_cases hk:k.sort=⟨#[]⟩
  .simp [lp0_103,hlt,hki,encP,hk]
   rw [IntWalk.i64_in ((i:Int)+1) (by omega)]
   exact ⟨aI (by simp [dslot]),by simp [argsF_take hki,hk]⟩
  .simp [lp0_103,hlt,hki,encP,hk,hloop]
   refine yieldk (by simpa [encP] using hy i k hki hk) ?_
   rintro e h' ⟨rfl,rfl⟩
   simp
   rw [IntWalk.i64_in ((i:Int)+1) (by omega)]
   exact ⟨aI (by simp [dslot]),by simp [argsF_take hki,hk]⟩
 .intro _
  simp [lp0_103]
  exact aZ (by simp [deferred,dslot]) rfl rfl rfl
theorem arguments_c (r:Rl) {h:AHeap}:AEx PP Gl 85 [ab r] h (.ret (.fn (.func 103) [] [.ip (ab r)])) h:=by
 refine enter_85 (by simp) ?_
 simp [code_85,res_85,ann_85,ab]
 exact aZ (by simp [deferred,dslot]) rfl (by simp [ab]) rfl
end Go.Apx
end
section
namespace Go.Apx
open Go.Proofs
set_option maxRecDepth 4000
theorem indexP_c (l:List Pt) (c:Cap) (fid:FuncId) (a b:List AV) (p:Pt -> Bool) (hl:l.length <= 2 ^ 31) {h:AHeap} (hf:∀ e ∈ l,AEx PP Gl fid (a++[encP e]++b) h (.ret (.sc (.bool (p e)))) h) :
  AEx PP Gl 77 [.sl 3 (l.map encP) c,.fn (.func fid) a b] h (.ret (i64 (placeF p l))) h:=by
 refine enter_77 (by simp) ?_
 simp [code_77,res_77,ann_77]
 refine AWp.cnt l.length [0,1,7] (fun i=>[(8,i64 i)]) (fun _=>h) (fun i=>∀ y ∈ l.take i,p y=false) mixed (by simp) (aI (by simp [dslot])) rfl ?_ ?_
 .intro i hi hz
  obtain ⟨k,hki⟩:∃ k,l[i]?=some k:=⟨l[i],by simp [hi]⟩
  have hlt:(i:Int) < l.length:=by omega
  have hne:l ≠ []:=by intro e; rw [e] at hi; simp at hi
  simp [lp0_77,hlt,hki,encP]
  refine aP (hf k (List.mem_of_getElem? hki)) (by simp [encP]) rfl ?_
  generalize hb:p k=bk
  cases bk with
  | true =>
   simp
   exact aZ (by simp [deferred,dslot]) rfl (by simp [placeF_some hki hb hz]) rfl
  | false =>
   simp
   rw [IntWalk.i64_in ((i:Int)+1) (by omega)]
   exact ⟨by simpa using take_ext hki (q:=fun y=>p y=false) hz hb,aI (by simp [dslot])⟩
 .intro hz
  simp [lp0_77]
  exact aZ (by simp [deferred,dslot]) rfl (by simp [placeF_none (take_all hz)]) rfl
theorem placeF_any {α:Type} (p:α -> Bool) (l:List α):decide (0 <= placeF p l)=l.any p:=by
 unfold placeF
 cases hf:l.findIdx? p with
 | none =>
  have:l.any p=false:=by
   rw [List.any_eq_false]
   intro x hx
   simp [List.findIdx?_eq_none_iff.1 hf x hx]
  simp [this]
 | some i =>
  obtain ⟨h1,h2,_⟩:=List.findIdx?_eq_some_iff_getElem.1 hf
  have:l.any p=true:=by
   rw [List.any_eq_true]
   exact ⟨_,List.getElem_mem h1,h2⟩
  simp [this]
theorem anyP_c (l:List Pt) (c:Cap) (fid:FuncId) (a b:List AV) (p:Pt -> Bool) (hl:l.length <= 2 ^ 31) {h:AHeap} (hf:∀ e ∈ l,AEx PP Gl fid (a++[encP e]++b) h (.ret (.sc (.bool (p e)))) h) :
  AEx PP Gl 41 [.sl 3 (l.map encP) c,.fn (.func fid) a b] h (.ret (.sc (.bool (l.any p)))) h:=by
 refine enter_41 (by simp) ?_
 simp [code_41,res_41,ann_41]
 refine aP (indexP_c l c fid a b p hl hf) rfl rfl ?_
 simp
 exact aZ (by simp [deferred,dslot]) rfl (by rw [<- placeF_any]) rfl
theorem indexR_c (l:List Rl) (c:Cap) (fid:FuncId) (a b:List AV) (p:Rl -> Bool) (hl:l.length <= 2 ^ 31) {h:AHeap} (hf:∀ e ∈ l,AEx PP Gl fid (a++[ab e]++b) h (.ret (.sc (.bool (p e)))) h) :
  AEx PP Gl 65 [.sl 4 (l.map ab) c,.fn (.func fid) a b] h (.ret (i64 (placeF p l))) h:=by
 refine enter_65 (by simp) ?_
 simp [code_65,res_65,ann_65]
 refine AWp.cnt l.length [0,1,7] (fun i=>[(8,i64 i)]) (fun _=>h) (fun i=>∀ y ∈ l.take i,p y=false) mixed (by simp) (aI (by simp [dslot])) rfl ?_ ?_
 .intro i hi hz
  obtain ⟨k,hki⟩:∃ k,l[i]?=some k:=⟨l[i],by simp [hi]⟩
  have hlt:(i:Int) < l.length:=by omega
  have hne:l ≠ []:=by intro e; rw [e] at hi; simp at hi
  simp [lp0_65,hlt,hki,ab]
  refine aP (hf k (List.mem_of_getElem? hki)) (by simp [ab]) rfl ?_
  generalize hb:p k=bk
  cases bk with
  | true =>
   simp
   exact aZ (by simp [deferred,dslot]) rfl (by simp [placeF_some hki hb hz]) rfl
  | false =>
   simp
   rw [IntWalk.i64_in ((i:Int)+1) (by omega)]
   exact ⟨by simpa using take_ext hki (q:=fun y=>p y=false) hz hb,aI (by simp [dslot])⟩
 .intro hz
  simp [lp0_65]
  exact aZ (by simp [deferred,dslot]) rfl (by simp [placeF_none (take_all hz)]) rfl
theorem anyR_c (l:List Rl) (c:Cap) (fid:FuncId) (a b:List AV) (p:Rl -> Bool) (hl:l.length <= 2 ^ 31) {h:AHeap} (hf:∀ e ∈ l,AEx PP Gl fid (a++[ab e]++b) h (.ret (.sc (.bool (p e)))) h) :
  AEx PP Gl 60 [.sl 4 (l.map ab) c,.fn (.func fid) a b] h (.ret (.sc (.bool (l.any p)))) h:=by
 refine enter_60 (by simp) ?_
 simp [code_60,res_60,ann_60]
 refine aP (indexR_c l c fid a b p hl hf) rfl rfl ?_
 simp
 exact aZ (by simp [deferred,dslot]) rfl (by rw [<- placeF_any]) rfl
theorem long_c (r:Rl) {h:AHeap}:AEx PP Gl 59 [ab r] h (.ret (.sc (.bool (longF r)))) h:=by
 refine enter_59 (by simp) ?_
 simp [code_59,res_59,ann_59,ab]
 exact aZ (by simp [deferred,dslot]) rfl (by simp [longF]) rfl
theorem notPart_c (g:Gr) (p:Pt) (hs:g.sorts.length <= 2 ^ 31) {h:AHeap}:AEx PP Gl 95 [encP p,.ip (aM g)] h (.ret (.sc (.bool (!partF g p)))) h:=by
 refine enter_95 (by simp) ?_
 simp [code_95,res_95,ann_95,encP,aM]
 refine aP (part_c g p hs) (by simp [encP,aM]) rfl ?_
 simp
 exact aZ (by simp [deferred,dslot]) rfl (by simp) rfl
def argV (l:List Int) (o:Nat):AV:=if l=[] then .sl 0 [] .nil else .rf o (l.length - 1) 0 l.length (.own 1)
def argH (l:List Int):AHeap:=if l=[] then [] else [.cells (l.length - 1) (l.map i64)]
@[simp] theorem isPend_argV (l:List Int) (o:Nat):(argV l o).isPend=false:=by unfold argV; split <;> rfl
@[simp] theorem one_argV (l:List Int) (o:Nat):(argV l o).one=true:=by unfold argV; split <;> rfl
@[simp] theorem cells_argV (l:List Int) (o:Nat):(argV l o).cells=[argV l o]:=by unfold argV; split <;> rfl
def validH (h:AHeap) (l:List Int) (E:Env) (X:LoopX) (st:LoopState):AHeap:=h++([.cells 0 [argV l (h.length+3)],.queue,.loop E X st none]++argH l)
theorem validRound (r:Rl) (g:Gr) (l:List Int) (p:Pt) (E:Env) (X:LoopX) {h:AHeap} (hl:l.length <= 2 ^ 31) (hX:XOk ⟨PP,Gl,62,ann_62,0,none⟩ [29] ra0_62 rb0_62 X)
  (e5:E.get 5=some (.ptr h.length 0 0)) (ed:E.get dslot=none) :
  AYields PP Gl (h.length+2) [encP p] (validH h l E X .ready) (fun e h'=>e=.ret (.sc (.bool true)) /\ h'=validH h (l++[p.arg]) E X .ready):=by
 refine ayields_of_code (C:=⟨PP,Gl,62,ann_62,(validH h l E X .ready).length,some (h.length+2)⟩) (env:=E) (X:=X) (st:=.ready) (pd:=none) (ps:=[29]) (by simp [validH]) hX rfl ed rfl rfl (aB mixed ?_)
 cases l with
 | nil =>
  simp [ra0_62,beginP,validH,encP,argV,argH]
  refine aB mixed ?_
  have hm:1 <= maxLenA:=len_tok (by omega)
  simp [rb0_62,e5,roundP,evW,hm]
 | cons a l =>
  simp [ra0_62,beginP,validH,encP,argV,argH]
  refine aB mixed ?_
  have hm:l.length+1+1 <= maxLenA:=len_tok (by simp at hl; omega)
  have htk:List.take l.length (List.map i64 l)=List.map i64 l:=List.take_of_length_le (by simp)
  simp [rb0_62,e5,roundP,evW,hm,htk]
theorem sort0_c {h:AHeap}:AEx PP Gl 97 [.sl 0 [] .nil] h (.ret (.tup [])) h :=
 KOk.at (KOk.interp (k:=⟨97,[.sl 0 [] .nil],[],.tup [],[]⟩) (K:=[]) mixed (findT_ok tbl_ok) (by simp) 20 (by kernel_rfl)) rfl rfl
def pruleF (g:Gr) (r:Rl):Bool:=okName r.label && bU g.sorts r.sort && r.parts.all (partF g) && placedF (sortF (argL r.parts)) && lastF r
theorem prule_eq (g:Gr) (r:Rl):pruleF g r=rruleF g r:=by simp [pruleF,rruleF,placed_once]
theorem rule_c (g:Gr) (r:Rl) (hs:g.sorts.length <= 2 ^ 31) (hp:r.parts.length <= 12) {h:AHeap}:AEx PP Gl 62 [ab r,aM g] h (.ret (.sc (.bool (rruleF g r)))) h:=by
 rw [<- prule_eq]
 refine enter_62 (by simp) ?_
 simp -implicitDefEqProofs [code_62,res_62,ann_62,ab,aM]
 refine aP (name_c r.label) rfl rfl ?_
 generalize hb1:okName r.label=b1
 cases b1 with
 | false=>simp; exact aZ (by simp [deferred,dslot]) rfl (by simp [pruleF,hb1]) rfl
 | true =>
 simp
 refine aP (contains_c g.sorts g.sc r.sort hs) rfl rfl ?_
 generalize hb2:bU g.sorts r.sort=b2
 cases b2 with
 | false=>simp; exact aZ (by simp [deferred,dslot]) rfl (by simp [pruleF,hb2]) rfl
 | true =>
 simp
 refine aP (anyP_c r.parts r.cap 95 [] [.ip (aM g)] (fun p=>!partF g p) (by omega) (fun e he=>by simpa using notPart_c g e hs)) (by simp [aM]) rfl ?_
 generalize hb3:r.parts.any (fun p=>!partF g p)=b3
 cases b3 with
 | true =>
  simp
  refine aZ (by simp [deferred,dslot]) rfl ?_ rfl
  have:r.parts.all (partF g)=false:=by
   rw [List.any_eq_true] at hb3
   obtain ⟨x,hx,hx2⟩:=hb3
   rw [List.all_eq_false]
   exact ⟨x,hx,by simpa using hx2⟩
  simp [pruleF,this]
 | false =>
 have hall:r.parts.all (partF g)=true:=by
  rw [List.all_eq_true]
  intro x hx
  rw [List.any_eq_false] at hb3
  simpa using hb3 x hx
 simp
 refine aP (arguments_c r) (by simp [ab]) rfl ?_
 simp
 refine AWp.keep [2,5,28] (aI (by simp [dslot])) ?_
 simp
 refine AWp.rangeF (gf:=103) (fa:=[]) (fb:=[.ip (ab r)]) (dl:=[]) rfl (by simp) (by simp [noPend]) (by simp [deferred,dslot]) ?_
 intro X hX
 simp [dslot]
 have hpre:∀ i,(argL r.parts).take (argsF (r.parts.take i))=argL (r.parts.take i):=fun i=>by
  have e:argL r.parts=argL (r.parts.take i)++argL (r.parts.drop i):=by
   rw [argL,argL,argL,<- List.map_append,<- List.filter_append,List.take_append_drop]
  rw [e,<- argL_length,List.take_left]
 have hal:(argL r.parts).length <= 12:=by rw [argL_length]; have:=argsF_le r.parts; omega
 generalize hE:([(2,(AV.agg [AV.sc (Value.string r.label),AV.sc (Value.string r.sort),AV.sl 3 (List.map encP r.parts) r.cap,AV.sc (Value.bool r.var)]).ip),(5,AV.ptr (List.length h) 0 0),(28,AV.fn (Fn.func 103) [] [(ab r).ip])]:Env)=E
 have hcall:=arguments1_c r (h.length+2) (fun j=>validH h ((argL r.parts).take j) E X .ready) (by omega) (fun i=>by simp [isLoop,validH]) (fun i p hi hs2=>?_)
 rotate_left
 .have:=validRound r g ((argL r.parts).take (argsF (r.parts.take i))) p E X (h:=h) (by rw [List.length_take]; omega) hX (by subst hE; simp) (by subst hE; simp [dslot])
  have e2:(argL r.parts).take (argsF (r.parts.take i))++[p.arg]=(argL r.parts).take (argsF (r.parts.take i)+1):=by
   have h1:=hpre i
   have h2:=hpre (i+1)
   rw [argsF_take hi,if_neg hs2,argL_take hi,if_neg hs2] at h2
   rw [h1,h2]
  rw [e2] at this
  exact this
 have hheap:validH h ((argL r.parts).take 0) E X .ready=h++[.cells 0 [.sl 0 [] .nil],.queue,.loop E X .ready none]:=by simp [validH,argV,argH]
 simp only [hheap] at hcall
 refine ⟨_,hcall,?_⟩
 intro r' h' hrr
 obtain ⟨rfl,rfl⟩:=hrr
 have hfull:(argL r.parts).take (argsF r.parts)=argL r.parts:=by rw [<- argL_length,List.take_length]
 rw [hfull]
 have e1:h.length+1+1=h.length+2:=rfl
 subst hE
 have hres:pruleF g r=(placedF (sortF (argL r.parts)) && lastF r):=by simp [pruleF,hb1,hb2,hall]
 have hnn:=argL_length r.parts
 generalize hL:argL r.parts=L at *
 cases L with
 | nil =>
  have hn0:argsF r.parts=0:=by simpa using hnn.symm
  have hs0:placedF (sortF [])=true:=by rw [placed_iff]; rfl
  simp -implicitDefEqProofs [rangeEnd,validH,argV,argH,e1]
  refine aP sort0_c rfl rfl ?_
  simp -implicitDefEqProofs
  refine AWp.cnt 0 [2,5,37,38,1000000] (fun i=>[(39,i64 i)]) (fun _=>h++[.cells 0 [.sl 0 [] .nil],.queue,.dead]) (fun _=>True) mixed trivial (aI (by simp [dslot])) rfl (fun i hi=>by omega) ?_
  intro _
  generalize hv:r.var=v
  cases v with
  | false =>
   simp -implicitDefEqProofs [lp0_62]
   refine retDefer [.it (h.length+1)] (by simp [deferred,dslot]) (leaveIt (by simp [isQueue]) ?_)
   simp
   exact leaveD (v:=.sc (.bool true)) (by simp [aN,aK]) (by simp [AV.strip,AV.inb]) (by simp [AV.strip,hres,hs0,lastF,hv]) rfl
  | true =>
   by_cases hl1:r.parts.length=1
   .simp -implicitDefEqProofs [lp0_62,hl1]
    refine retDefer [.it (h.length+1)] (by simp [deferred,dslot]) (leaveIt (by simp [isQueue]) ?_)
    simp
    exact leaveD (v:=.sc (.bool true)) (by simp [aN,aK]) (by simp [AV.strip,AV.inb]) (by simp [AV.strip,hres,hs0,lastF,hv,hl1,hn0]) rfl
   .have hl1':¬ (r.parts.length:Int)=1:=by omega
    simp -implicitDefEqProofs [lp0_62,hl1,hl1']
    refine retDefer [.it (h.length+1)] (by simp [deferred,dslot]) (leaveIt (by simp [isQueue]) ?_)
    simp
    exact leaveD (v:=.sc (.bool false)) (by simp [aN,aK]) (by simp [AV.strip,AV.inb]) (by simp [AV.strip,hres,hs0,lastF,hv,hl1]) rfl
 | cons a l =>
  simp -implicitDefEqProofs [rangeEnd,validH,argV,argH,e1]
  refine aP (sort_c (a :: l) (h.length+3) l.length (.own 1) hal (by simp)) (by simp) rfl ?_
  have hSl:(sortF (a :: l)).length=l.length+1:=by simp
  have hll:l.length+1 <= 12:=by simpa using hal
  have hn0:¬ argsF r.parts=0:=by rw [<- hnn]; simp
  generalize hS:sortF (a :: l)=S at *
  simp -implicitDefEqProofs
  refine AWp.cnt (l.length+1) [2,5,37,38,1000000] (fun i=>[(39,i64 i)]) (fun _=>h++[.cells 0 [.rf (h.length+3) l.length 0 (l.length+1) (.own 1)],.queue,.dead,.cells l.length (S.map i64)]) (fun i=>∀ j x,j < i -> S[j]?=some x -> x=(j:Int)) mixed (by simp) (aI (by simp [dslot])) (by simp) ?_ ?_
  .intro i hi hz
   obtain ⟨x,hx⟩:∃ x,S[i]?=some x:=⟨S[i]'(by omega),by simp [show i < S.length by omega]⟩
   have hlt:(i:Int) < (l.length:Int)+1:=by omega
   have hi':i < l.length+1:=hi
   simp -implicitDefEqProofs [lp0_62,hlt,hi',hx]
   refine ⟨fun hxi=>?_,fun hxi=>?_⟩
   .rw [IntWalk.i64_in ((i:Int)+1) (by omega)]
    refine ⟨fun j y hj hy=>?_,aI (by simp [dslot])⟩
    by_cases e:j=i
    .subst e; rw [hx] at hy; cases hy; exact hxi
    .exact hz j y (by omega) hy
   .refine retDefer [.it (h.length+1)] (by simp [deferred,dslot]) (leaveIt (by simp [isQueue]) ?_)
    simp
    have:placedF S=false:=allIdx_false hx (by simpa using hxi)
    exact leaveD (v:=.sc (.bool false)) (by simp [aN,aK]) (by simp [AV.strip,AV.inb]) (by simp [AV.strip,hres,this]) rfl
  .intro hz
   have hpl:placedF S=true:=allIdx_true fun i x hx=>by simpa using hz i x (by have:=(List.getElem?_eq_some_iff.1 hx).1; omega) hx
   have hnl:¬ (l.length:Int)+1=0:=by omega
   generalize hv:r.var=v
   cases v with
   | false =>
    simp -implicitDefEqProofs [lp0_62]
    refine retDefer [.it (h.length+1)] (by simp [deferred,dslot]) (leaveIt (by simp [isQueue]) ?_)
    simp
    exact leaveD (v:=.sc (.bool true)) (by simp [aN,aK]) (by simp [AV.strip,AV.inb]) (by simp [AV.strip,hres,hpl,lastF,hv]) rfl
   | true =>
    by_cases hl1:r.parts.length=1
    .simp -implicitDefEqProofs [lp0_62,hl1,hnl]
     refine retDefer [.it (h.length+1)] (by simp [deferred,dslot]) (leaveIt (by simp [isQueue]) ?_)
     simp
     exact leaveD (v:=.sc (.bool false)) (by simp [aN,aK]) (by simp [AV.strip,AV.inb]) (by simp [AV.strip,hres,hpl,lastF,hv,hl1,hn0]) rfl
    .have hl1':¬ (r.parts.length:Int)=1:=by omega
     simp -implicitDefEqProofs [lp0_62,hl1,hl1']
     refine retDefer [.it (h.length+1)] (by simp [deferred,dslot]) (leaveIt (by simp [isQueue]) ?_)
     simp
     exact leaveD (v:=.sc (.bool false)) (by simp [aN,aK]) (by simp [AV.strip,AV.inb]) (by simp [AV.strip,hres,hpl,lastF,hv,hl1]) rfl
end Go.Apx
end
section
namespace Go.Apx
open Go.Proofs
set_option maxRecDepth 4000
def aT (out:List ByteArray):List (ByteArray × Bool):=out.map fun v=>(v,true)
@[simp] theorem metOf_find (out:List ByteArray) (s:ByteArray):bF (aT out) s=if s ∈ out then some true else none:=by
 induction out with
 | nil=>rfl
 | cons v r ih =>
  simp only [aT,List.map_cons,bF,List.mem_cons] at ih ⊢
  by_cases e:s=v
  .simp [e]
  .simp [e,ih]
theorem metOf_set (out:List ByteArray) (s:ByteArray) (h:s ∉ out):bE (aT out) s true=aT (out++[s]):=by
 rw [sset_none _ _ _ (by simp [h])]
 simp [aT]
theorem metOf_nil:aS bv (aT [])=[]:=rfl
theorem place_first {α:Type} {p:α -> Bool} {l:List α} {i:Nat} {x:α} (hi:l[i]?=some x) (hp:p x=true):placeF p l=(i:Int) ↔ ∀ y ∈ l.take i,p y=false:=by
 constructor
 .intro h y hy
  cases hpy:p y with
  | false=>rfl
  | true =>
   exfalso
   obtain ⟨j,hj⟩:=List.getElem?_of_mem hy
   rw [List.getElem?_take] at hj
   split at hj
   .rename_i hlt
    unfold placeF at h
    cases hf:l.findIdx? p with
    | none =>
     have:=List.findIdx?_eq_none_iff.1 hf y (List.mem_of_getElem? hj)
     rw [hpy] at this; cases this
    | some k =>
     rw [hf] at h
     simp only at h
     obtain ⟨h1,h2,h3⟩:=List.findIdx?_eq_some_iff_getElem.1 hf
     have hk:k=i:=by omega
     subst hk
     have:=h3 j hlt
     obtain ⟨h4,h5⟩:=List.getElem?_eq_some_iff.1 hj
     rw [h5,hpy] at this
     simp at this
   .cases hj
 .exact placeF_some hi hp
theorem check_c (g:Gr) (hp:g.sorts.length <= 32 -> g.rules.length <= 600 -> ∀ r ∈ g.rules,longF r=false -> r.parts.length <= 12) (hs:g.sorts.length <= 2 ^ 31) (hr:g.rules.length <= 2 ^ 31) {h:AHeap}:AEx PP Gl 23 [aM g] h (.ret (i64 (aO g))) h:=by
 refine enter_23 (by simp) ?_
 by_cases c1:(32:Int) < g.sorts.length
 .simp -implicitDefEqProofs [code_23,res_23,ann_23,aM,c1]
  exact aZ (by simp [deferred,dslot]) rfl (by unfold aO; rw [if_pos (by omega)]) rfl
 by_cases c2:(600:Int) < g.rules.length
 .simp -implicitDefEqProofs [code_23,res_23,ann_23,aM,c1,c2]
  exact aZ (by simp [deferred,dslot]) rfl (by unfold aO; rw [if_pos (by omega)]) rfl
 simp -implicitDefEqProofs [code_23,res_23,ann_23,aM,c1,c2]
 refine aP (anyR_c g.rules g.rc 59 [] [] longF hr (fun e he=>by simpa using long_c e)) rfl rfl ?_
 generalize hlong:g.rules.any longF=lg
 cases lg with
 | true =>
  simp
  exact aZ (by simp [deferred,dslot]) rfl (by unfold aO; rw [if_neg (by omega),if_pos hlong]) rfl
 | false =>
 have hlong':¬ g.rules.any longF=true:=by rw [hlong]; simp
 have hpl:∀ r ∈ g.rules,r.parts.length <= 12:=fun r hr=>hp (by omega) (by omega) r hr (by
  rw [List.any_eq_false] at hlong
  simpa using hlong r hr)
 simp -implicitDefEqProofs
 refine AWp.cnt g.sorts.length [1,4,27,28] (fun i=>[(29,i64 i)]) (fun i=>h++[.amap (aS bv (aT (g.sorts.take i)))]) (fun i=>∀ j x,j < i -> g.sorts[j]?=some x -> nameOkF g x j=true) mixed (by simp) (aI (by simp [dslot])) (by simp [metOf_nil]) ?_ ?_
 .intro i hi hz2
  obtain ⟨k,hki⟩:∃ k,g.sorts[i]?=some k:=⟨g.sorts[i],by simp [hi]⟩
  have hlt:(i:Int) < g.sorts.length:=by omega
  have hne:g.sorts ≠ []:=by intro e; rw [e] at hi; simp at hi
  have hbad:nameOkF g k i=false -> aO g=151:=fun hb=>by
   unfold aO
   rw [if_neg (by omega),if_neg hlong',if_neg (by rw [allIdx_false hki hb]; simp)]
  have hfst:aw g.sorts k=(i:Int) ↔ k ∉ g.sorts.take i:=by
   unfold aw
   rw [place_first hki (by simp)]
   constructor
   .intro h1 h2; have:=h1 k h2; simp at this
   .intro h1 y hy; simp; rintro rfl; exact h1 hy
  simp -implicitDefEqProofs [lp0_23,hlt,hki,sv]
  refine aP (name_c k) rfl rfl ?_
  generalize hb1:okName k=b1
  cases b1 with
  | false =>
   simp -implicitDefEqProofs
   exact retD (by simp [deferred,dslot]) rfl (by simp [AV.strip,AV.inb]) (by rw [hbad (by simp [nameOkF,hb1])]; rfl) rfl
  | true =>
   by_cases hmem:k ∈ g.sorts.take i
   .simp -implicitDefEqProofs [hmem]
    refine retD (by simp [deferred,dslot]) rfl (by simp [AV.strip,AV.inb]) ?_ rfl
    rw [hbad (by simp only [nameOkF,hb1,Bool.true_and,decide_eq_false_iff_not]; rw [hfst]; simpa using hmem)]; rfl
   .simp -implicitDefEqProofs [hmem,metOf_set _ _ hmem]
    rw [IntWalk.i64_in ((i:Int)+1) (by omega)]
    refine ⟨fun j x hj hx=>?_,aI (by simp [dslot]),?_⟩
    .by_cases e:j=i
     .subst e; rw [hki] at hx; cases hx; simp only [nameOkF,hb1,Bool.true_and,decide_eq_true_eq]; rw [hfst]; exact hmem
     .exact hz2 j x (by omega) hx
    .rw [List.take_add_one,hki]; rfl
 .intro hz2
  have hnames:allIdx (nameOkF g) g.sorts=true:=allIdx_true fun i x hx=>hz2 i x (List.getElem?_eq_some_iff.1 hx).1 hx
  simp -implicitDefEqProofs [lp0_23]
  refine AWp.cnt g.rules.length [1,4,46,47] (fun i=>[(48,i64 i)]) (fun i=>h++[.amap (aS bv (aT ((g.rules.map (·.label)).take i)))]) (fun i=>∀ j x,j < i -> g.rules[j]?=some x -> ruleOkF g x j=true) mixed (by simp) (aI (by simp [dslot])) (by simp [metOf_nil]) ?_ ?_
  .intro i hi hz3
   obtain ⟨k,hki⟩:∃ k,g.rules[i]?=some k:=⟨g.rules[i],by simp [hi]⟩
   have hlt:(i:Int) < g.rules.length:=by omega
   have hne:g.rules ≠ []:=by intro e; rw [e] at hi; simp at hi
   have hbad:ruleOkF g k i=false -> aO g=151:=fun hb=>by
    unfold aO
    rw [if_neg (by omega),if_neg hlong',if_pos hnames,if_neg (by rw [allIdx_false hki hb]; simp)]
   have hfst:findF g k.label=(i:Int) ↔ k.label ∉ (g.rules.map (·.label)).take i:=by
    unfold findF
    rw [place_first hki (by simp)]
    constructor
    .intro h1 h2
     rw [<- List.map_take] at h2
     obtain ⟨y,hy,e⟩:=List.mem_map.1 h2
     have:=h1 y hy; simp [e] at this
    .intro h1 y hy; simp; intro e; rw [<- List.map_take] at h1; exact h1 (List.mem_map.2 ⟨y,hy,e⟩)
   simp -implicitDefEqProofs [lp1_23,hlt,hki,ab]
   refine aP (rule_c g k hs (hpl k (List.mem_of_getElem? hki))) (by simp [aM,ab]) rfl ?_
   generalize hb1:rruleF g k=b1
   cases b1 with
   | false =>
    simp -implicitDefEqProofs
    exact retD (by simp [deferred,dslot]) rfl (by simp [AV.strip,AV.inb]) (by rw [hbad (by simp [ruleOkF,hb1])]; rfl) rfl
   | true =>
    by_cases hmem:k.label ∈ (g.rules.map (·.label)).take i
    .simp -implicitDefEqProofs [hmem]
     refine retD (by simp [deferred,dslot]) rfl (by simp [AV.strip,AV.inb]) ?_ rfl
     rw [hbad (by simp only [ruleOkF,hb1,Bool.true_and,decide_eq_false_iff_not]; rw [hfst]; simpa using hmem)]; rfl
    .simp -implicitDefEqProofs [hmem,metOf_set _ _ hmem]
     rw [IntWalk.i64_in ((i:Int)+1) (by omega)]
     refine ⟨fun j x hj hx=>?_,aI (by simp [dslot]),?_⟩
     .by_cases e:j=i
      .subst e; rw [hki] at hx; cases hx; simp only [ruleOkF,hb1,Bool.true_and,decide_eq_true_eq]; rw [hfst]; exact hmem
      .exact hz3 j x (by omega) hx
     .rw [List.take_add_one,List.getElem?_map,hki]; rfl
  .intro hz3
   have hrules:allIdx (ruleOkF g) g.rules=true:=allIdx_true fun i x hx=>hz3 i x (List.getElem?_eq_some_iff.1 hx).1 hx
   simp -implicitDefEqProofs [lp1_23]
   exact retD (by simp [deferred,dslot]) rfl (by simp [AV.strip,AV.inb]) (by unfold aO; rw [if_neg (by omega),if_neg hlong',if_pos hnames,if_pos hrules]; rfl) rfl
end Go.Apx
end
section
namespace Go.Apx
open Go.Proofs
set_option maxRecDepth 4000
abbrev emp:ByteArray:=⟨#[]⟩
abbrev bl (b:Bool):AV:=.sc (.bool b)
theorem appkL {C:Cx} {k b:Nat} {x y:Opd} {d:Option Nat} {env:Env} {H:AHeap} {K:Env -> AHeap -> Prop} (es vs:List AV) (h:AHeap) (hx:aD C.G env x=some (apd k es h.length)) (hy:(aD C.G env y).bind (elems H k)=some vs)
  (hH:H=h++apdH es.length) (hm:es.length+vs.length <= maxLenA) (hK:K (aY env d (apd k (es++vs) h.length)) (h++apdH (es.length+vs.length))):appW C k b x y d env H K:=by
 subst hH
 unfold appW
 have he:aA C.G env (h++apdH es.length) (.append k b x y)=some (apd k (es++vs) h.length,h++apdH (es.length+vs.length)):=by
  simp only [aA,hx,hy]
  cases es with
  | nil =>
   cases vs with
   | nil=>simp
   | cons v vs =>
    have:vs.length+1 <= maxLenA:=by simpa using hm
    simp [this]
  | cons a es =>
   cases vs with
   | nil=>simp
   | cons v vs =>
    have:es.length+1+(vs.length+1) <= maxLenA:=hm
    simp [this]
    rw [show es.length+1+(vs.length+1)=es.length+1+vs.length+1 by omega]
    simp
 rw [he]
 exact hK
def apdK (k:Nat) (es:List AV):Nat:=if es=[] then 0 else k
def apdC (es:List AV) (t:Nat):Cap:=if es=[] then .nil else .tok t
theorem apd_sl (k:Nat) (es:List AV) (t:Nat):apd k es t=.sl (apdK k es) es (apdC es t):=rfl
theorem strip_parts (l:List Pt):aj (l.map encP)=l.map encP:=by
 induction l with
 | nil=>rfl
 | cons p l ih=>simp only [List.map_cons,aj,ih]; rfl
theorem inb_parts (n:Nat) (l:List Pt):inbL n (l.map encP)=true:=by
 induction l with
 | nil=>rfl
 | cons p l ih=>simp only [List.map_cons,inbL,ih,Bool.and_true]; rfl
theorem strip_sv (l:List ByteArray):aj (l.map sv)=l.map sv:=by
 induction l with
 | nil=>rfl
 | cons a l ih=>simp only [List.map_cons,aj,ih]; rfl
theorem inb_sv (n:Nat) (l:List ByteArray):inbL n (l.map sv)=true:=by
 induction l with
 | nil=>rfl
 | cons a l ih=>simp only [List.map_cons,inbL,ih,Bool.and_true]; rfl
theorem cap_inb {c:Cap} (h:c.strip=c) (n:Nat):c.inb n=true:=by cases c <;> first | rfl | cases h
end Go.Apx
end
section
namespace Go.Apx
open Go.Proofs
set_option maxRecDepth 4000
theorem appNil {C:Cx} {k b:Nat} {x y:Opd} {d:Option Nat} {env:Env} {H:AHeap} {K:Env -> AHeap -> Prop} (v:AV) (hx:aD C.G env x=some (.sl 0 [] .nil)) (hy:(aD C.G env y).bind (elems H k)=some [v])
  (hK:K (aY env d (.sl k [v] (.tok H.length))) (H++[.tok 1])):appW C k b x y d env H K:=by
 have:=appkL (C:=C) (k:=k) (b:=b) (x:=x) (y:=y) (d:=d) (env:=env) (H:=H) (K:=K) [] [v] H (by simpa using hx) hy (by simp) (len_tok (by simp)) (by simpa using hK)
 exact this
theorem appTok {C:Cx} {k b:Nat} {x y:Opd} {d:Option Nat} {env:Env} {H:AHeap} {K:Env -> AHeap -> Prop} (es:List AV) (v:AV) (T:Nat) (hx:aD C.G env x=some (.sl k es (.tok T))) (hy:(aD C.G env y).bind (elems H k)=some [v])
  (hT:H[T]?=some (.tok es.length)) (hm:es.length+1 <= maxLenA) (hK:K (aY env d (.sl k (es++[v]) (.tok T))) (H.set T (.tok (es.length+1)))):appW C k b x y d env H K:=by
 unfold appW
 have he:aA C.G env H (.append k b x y)=some (.sl k (es++[v]) (.tok T),H.set T (.tok (es.length+1))):=by
  simp only [aA,hx,hy]
  simp [hT,hm]
 rw [he]
 exact hK
abbrev gpl (l:List Pt) (t:Nat):AV:=.sl (apdK 3 (l.map encP)) (l.map encP) (apdC (l.map encP) t)
def convV (r:Rl):AV:=.agg [.sc (.string r.label),.sc (.string r.sort),.sl (apdK 3 (r.parts.map encP)) (r.parts.map encP) (if r.parts=[] then .nil else .any),.sc (.bool r.var)]
theorem strip_gpl (l:List Pt) (t:Nat):(gpl l t).strip=.sl (apdK 3 (l.map encP)) (l.map encP) (if l=[] then .nil else .any):=by
 cases l with
 | nil=>rfl
 | cons a l=>simp only [gpl,AV.strip,strip_parts,apdC,Cap.strip]; simp [Cap.strip]
def convS (g:Gr):AV:=.agg [.sl 1 (g.sorts.map sv) g.sc,.sl (if g.rules=[] then 0 else 4) (g.rules.map convV) (if g.rules=[] then .nil else .any)]
structure GSt where
 i:Nat
 es:List AV
 c:Cap
 B:AHeap
def GOk (g:Gr) (h:AHeap) (s:GSt):Prop :=
 s.i <= g.rules.length /\ h.length < s.B.length /\ (∀ j,j < h.length -> s.B[j]?=h[j]?) /\ s.es.map AV.strip=(g.rules.take s.i).map convV /\
  s.B[h.length]?=some (.cells 0 [.sl 1 (g.sorts.map sv) g.sc,.sl (if s.es=[] then 0 else 4) s.es s.c]) /\
  ((s.es=[] /\ s.c=.nil) \/ (s.es ≠ [] /\ ∃ T,s.c=.tok T /\ h.length < T /\ s.B[T]?=some (.tok s.es.length)))
theorem GOk.len {g:Gr} {h:AHeap} {s:GSt} (hs:GOk g h s):s.es.length=s.i:=by
 have:=congrArg List.length hs.2.2.2.1
 simp at this
 have:=hs.1
 omega
theorem conv_c (g:Gr) (hr:g.rules.length <= 2 ^ 31) (hp:∀ r ∈ g.rules,r.parts.length <= 2 ^ 31) (hsc:g.sc.strip=g.sc) {h:AHeap}:AEx PP Gl 10 [aM g] h (.ret (convS g)) h:=by
 refine enter_10 (by simp) ?_
 simp -implicitDefEqProofs [code_10,res_10,ann_10,aM]
 refine AWp.till (S:=GSt) ⟨0,[],.nil,h++[.cells 0 [.sl 1 (g.sorts.map sv) g.sc,.sl 0 [] .nil]]⟩ (fun s=>g.rules.length - s.i) [1,2,3] (fun s=>[(4,i64 s.i)]) (fun s=>s.B) (GOk g h) mixed ?_ (aI (by simp [dslot])) (by simp) ?_
 .refine ⟨by simp,by simp,fun j hj=>?_,by simp,by simp,.inl ⟨rfl,rfl⟩⟩
  show (h++_)[j]?=_
  rw [List.getElem?_append_left hj]
 rintro ⟨i,es,c,B⟩ hs
 have hlen:=hs.len
 obtain ⟨z1,z2,z3,z4,z5,z6⟩:=hs
 simp only at z1 z2 z3 z4 z5 z6 hlen
 by_cases hi:i < g.rules.length
 .obtain ⟨r,hri⟩:∃ k,g.rules[i]?=some k:=⟨g.rules[i],by simp [hi]⟩
  have hlt:(i:Int) < g.rules.length:=by omega
  have hne:g.rules ≠ []:=by intro e; rw [e] at hi; simp at hi
  have hrm:=List.mem_of_getElem? hri
  have hrp:=hp r hrm
  have hB0:∀ x,(B++x)[h.length]?=some (.cells 0 [.sl 1 (g.sorts.map sv) g.sc,.sl (if es=[] then 0 else 4) es c]):=fun x=>by rw [List.getElem?_append_left z2]; exact z5
  have hBs:∀ x v,(B++x).set h.length v=B.set h.length v++x:=fun x v=>by rw [List.set_append_left _ _ z2]
  simp -implicitDefEqProofs [lp0_10,hlt,hri,ab]
  refine AWp.cnt r.parts.length [1,2,3,4,5] (fun j=>[(6,i64 j)]) (fun j=>B++([.cells 0 [.sc (.string r.label),.sc (.string r.sort),gpl (r.parts.take j) (B.length+1),.sc (.bool r.var)]]++apdH j)) (fun _=>True) mixed trivial (aI (by simp [dslot])) (by simp [apdK,apdC]) ?_ ?_
  .intro j hj _
   obtain ⟨p,hpj⟩:∃ k,r.parts[j]?=some k:=⟨r.parts[j],by simp [hj]⟩
   have hltj:(j:Int) < r.parts.length:=by omega
   have hnej:r.parts ≠ []:=by intro e; rw [e] at hj; simp at hj
   simp -implicitDefEqProofs [lp1_10,hlt,hri,ab,hltj,hpj,encP]
   have htl:(r.parts.take j).length=j:=by rw [List.length_take]; omega
   have hmin:min j r.parts.length=j:=by omega
   have htk:r.parts.take (j+1)=r.parts.take j++[p]:=by rw [List.take_add_one,hpj]; rfl
   refine appkL ((r.parts.take j).map encP) [encP p] (B++[.cells 0 [.sc (.string r.label),.sc (.string r.sort),gpl (r.parts.take j) (B.length+1),.sc (.bool r.var)]]) (by simp [apd_sl]) (by simp [encP]) (by simp [hmin]) (len_tok (by simp; omega)) ?_
   simp -implicitDefEqProofs [htl,hmin,apd_sl]
   rw [IntWalk.i64_in ((j:Int)+1) (by omega)]
   have hmk:List.take (j+1) (List.map encP r.parts)=List.take j (List.map encP r.parts)++[encP p]:=by rw [<- List.map_take,htk,List.map_append,List.map_take]; rfl
   exact ⟨aI (by simp [dslot]),by simp [hmin,hmk]⟩
  .intro _
   simp -implicitDefEqProofs [lp1_10,hlt,hri,ab,hB0]
   have hconv:(AV.agg [.sc (.string r.label),.sc (.string r.sort),gpl r.parts (B.length+1),.sc (.bool r.var)]).strip=convV r:=by
    simp only [AV.strip,aj,convV]
    have:=strip_gpl r.parts (B.length+1)
    simp only [gpl,AV.strip] at this
    rw [this]
   have htk:g.rules.take (i+1)=g.rules.take i++[r]:=by rw [List.take_add_one,hri]; rfl
   generalize hval:AV.agg [.sc (.string r.label),.sc (.string r.sort),gpl r.parts (B.length+1),.sc (.bool r.var)]=val at hconv
   have hvc:val.cells.length=4:=by rw [<- hval]; rfl
   rcases z6 with ⟨rfl,rfl⟩ | ⟨hes,T,rfl,hT1,hT2⟩
   .refine appNil val (by simp) (by simp [<- hval]) ?_
    simp -implicitDefEqProofs [hB0,hBs]
    rw [IntWalk.i64_in ((i:Int)+1) (by omega)]
    refine ⟨⟨i+1,[val],.tok (B.length+((apdH r.parts.length).length+1)),_⟩,?_,?_,aI (by simp [dslot]),rfl⟩
    .simp; omega
    .refine ⟨by simp; omega,by simp; omega,fun j hj=>?_,?_,?_,.inr ⟨by simp,_,rfl,by omega,?_⟩⟩
     .simp only
      rw [List.getElem?_append_left (by simp; omega),List.getElem?_set_ne (by omega)]
      exact z3 j hj
     .simp only
      rw [htk,List.map_append,<- z4]
      simp [hconv]
     .simp only
      rw [List.getElem?_append_left (by simp; omega),List.getElem?_set_self z2]
      simp
     .simp only
      rw [List.getElem?_append_right (by simp)]
      simp
   .have hTB:=(List.getElem?_eq_some_iff.1 hT2).1
    have hBt:∀ x v,(B++x).set T v=B.set T v++x:=fun x v=>by rw [List.set_append_left _ _ hTB]
    have hB1:∀ x v,(B.set T v++x)[h.length]?=some (.cells 0 [.sl 1 (g.sorts.map sv) g.sc,.sl (if es=[] then 0 else 4) es (.tok T)]):=fun x v=>by
     rw [List.getElem?_append_left (by simp; omega),List.getElem?_set_ne (by omega)]; exact z5
    have hBs1:∀ x v u,(B.set T v++x).set h.length u=(B.set T v).set h.length u++x:=fun x v u=>by rw [List.set_append_left _ _ (by simp; omega)]
    refine appTok es val T (by simp [hes]) (by simp [<- hval]) (by rw [List.getElem?_append_left hTB]; exact hT2) (len_tok (by omega)) ?_
    simp -implicitDefEqProofs [hBt,hB1,hBs1]
    rw [IntWalk.i64_in ((i:Int)+1) (by omega)]
    refine ⟨⟨i+1,es++[val],.tok T,_⟩,?_,?_,aI (by simp [dslot]),rfl⟩
    .simp; omega
    .refine ⟨by simp; omega,by simp; omega,fun j hj=>?_,?_,?_,.inr ⟨by simp,T,rfl,hT1,?_⟩⟩
     .simp only
      rw [List.getElem?_append_left (by simp; omega),List.getElem?_set_ne (by omega),List.getElem?_set_ne (by omega)]
      exact z3 j hj
     .simp only
      rw [htk,List.map_append,List.map_append,<- z4]
      simp [hconv]
     .simp only
      rw [List.getElem?_append_left (by simp; omega),List.getElem?_set_self (by simp; omega)]
      simp
     .simp only
      rw [List.getElem?_append_left (by simp; omega),List.getElem?_set_ne (by omega),List.getElem?_set_self hTB]
      simp
 .have hil:i=g.rules.length:=by omega
  have hnl:¬ (i:Int) < g.rules.length:=by omega
  simp -implicitDefEqProofs [lp0_10,hnl,z5]
  rw [hil,List.take_length] at z4
  have hbt:B.take h.length=h:=by
   apply List.ext_getElem?
   intro j
   rw [List.getElem?_take]
   split
   .rename_i hj; exact z3 j hj
   .rename_i hj; rw [List.getElem?_eq_none (by omega)]
  have hsl:aj es=g.rules.map convV:=by rw [stripL_eq]; exact z4
  have hem:es=[] ↔ g.rules=[]:=by
   rw [<- List.length_eq_zero_iff,<- List.length_eq_zero_iff,hlen,hil]
  have hcs:c.strip=if g.rules=[] then .nil else .any:=by
   rcases z6 with ⟨h1,rfl⟩ | ⟨h1,T,rfl,_⟩
   .rw [if_pos (hem.1 h1)]; rfl
   .rw [if_neg (fun e=>h1 (hem.2 e))]; rfl
  have hki:(if es=[] then 0 else 4)=(if g.rules=[] then 0 else 4):=by
   by_cases he:es=[]
   .rw [if_pos he,if_pos (hem.1 he)]
   .rw [if_neg he,if_neg (fun e=>he (hem.2 e))]
  have hstr:(AV.agg [.sl 1 (g.sorts.map sv) g.sc,.sl (if es=[] then 0 else 4) es c]).strip=convS g:=by
   simp only [AV.strip,aj,convS,strip_sv,hsc,hsl,hcs,hki]
  refine retG h.length (by simp [deferred,dslot]) rfl (Nat.le_refl _) (by omega) ?_ (fun j o hj ho=>.inl (by rw [<- z3 j hj]; exact ho)) ?_ hbt
  .rw [hstr]
   simp only [convS,AV.inb,inbL,inb_sv,cap_inb hsc,Bool.and_true,Bool.true_and,Bool.and_eq_true]
   refine ⟨?_,by split <;> rfl⟩
   rw [inbL_eq,List.all_eq_true]
   intro v hv
   obtain ⟨r,_,rfl⟩:=List.mem_map.1 hv
   simp only [convV,AV.inb,inbL,inb_parts,Bool.true_and,Bool.and_true]
   split <;> rfl
  .rw [hstr]
end Go.Apx
end
