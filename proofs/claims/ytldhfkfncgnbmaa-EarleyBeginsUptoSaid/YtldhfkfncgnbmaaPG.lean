/- Plain law: sorted and compacted lists. -/
import Derived.Test.YtldhfkfncgnbmaaPE
import Derived.Test.YtldhfkfncgnbmaaAmG
import Derived.Test.YtldhfkfncgnbmaaLays
import Derived.Test.YtldhfkfncgnbmaaEB
import Derived.Test.YtldhfkfncgnbmaaAw
section
namespace Go.Apx
open Go.Proofs
set_option linter.unusedVariables false
set_option linter.unusedSimpArgs false
set_option linter.unnecessarySimpa false
set_option maxRecDepth 4000
theorem srtS_perm (l : List ByteArray) : (srtS l).Perm l:=by
 have h:=(List.mergeSort_perm (l.map bytesL) fun x y=>decide (x ≤ y)).map strL
 rw [List.map_map] at h
 have e : l.map (strL ∘ bytesL) = l:=(List.map_congr_left fun x _=>strL_bytesL x).trans (List.map_id l)
 rw [e] at h
 exact h
theorem srtS_mem {l : List ByteArray} {s : ByteArray} : s ∈ srtS l ↔ s ∈ l:=(srtS_perm l).mem_iff
theorem lecomp (a b : List UInt8) : (decide (a ≤ b) || decide (b ≤ a)) = true:=by
 rcases List.le_total a b with h | h <;> simp [h]
theorem srtS_first {l : List ByteArray} (h : (⟨#[]⟩ : ByteArray) ∈ l) : (srtS l)[0]? = some ⟨#[]⟩:=by
 have hs : List.Pairwise (fun a b=>decide (a ≤ b) = true) ((l.map bytesL).mergeSort fun x y=>decide (x ≤ y)) :=
  List.pairwise_mergeSort (le:=fun x y : List UInt8=>decide (x ≤ y)) (fun a b c h1 h2=>by simp at h1 h2 ⊢; exact List.le_trans h1 h2) lecomp _
 have hm : ([] : List UInt8) ∈ (l.map bytesL).mergeSort fun x y=>decide (x ≤ y):=by
  rw [(List.mergeSort_perm _ _).mem_iff]
  exact List.mem_map.2 ⟨_,h,rfl⟩
 unfold srtS
 generalize (l.map bytesL).mergeSort (fun x y=>decide (x ≤ y)) = m at hs hm
 cases m with
 | nil=>cases hm
 | cons a m =>
  have ha : a = []:=by
   rcases List.mem_cons.1 hm with h' | h'
   ·exact h'.symm
   ·have:=(List.pairwise_cons.1 hs).1 _ h'
    simp at this
    exact this
  subst ha
  rfl
theorem upTo_mem {α : Type} [Inhabited α] [DecidableEq α] (d : Array α) (x : α) : ∀ m,x ∈ Lib.compactUpTo d m ↔ ∃ j,j < m ∧ d[j]! = x
 | 0=>by simp [Lib.compactUpTo]
 | m + 1=>by
  rw [Lib.compactUpTo_succ,List.mem_append,upTo_mem d x m]
  by_cases hk : Lib.keeps d m = true
  ·simp only [hk,if_true,List.mem_singleton]
   constructor
   ·rintro (⟨j,h1,h2⟩ | rfl)
    ·exact ⟨j,by omega,h2⟩
    ·exact ⟨m,by omega,rfl⟩
   ·rintro ⟨j,h1,h2⟩
    rcases Nat.lt_or_eq_of_le (Nat.le_of_lt_succ h1) with h3 | rfl
    ·exact .inl ⟨j,h3,h2⟩
    ·exact .inr h2.symm
  ·simp only [hk,List.not_mem_nil,or_false]
   simp only [Lib.keeps,decide_eq_true_eq,not_or,Decidable.not_not] at hk
   constructor
   ·rintro (⟨j,h1,h2⟩ | h)
    ·exact ⟨j,by omega,h2⟩
    ·simp at h
   ·rintro ⟨j,h1,h2⟩
    rcases Nat.lt_or_eq_of_le (Nat.le_of_lt_succ h1) with h3 | rfl
    ·exact .inl ⟨j,h3,h2⟩
    ·exact .inl ⟨j - 1,by omega,by rw [← hk.2]; exact h2⟩
theorem upTo_first {α : Type} [Inhabited α] [DecidableEq α] (d : Array α) : ∀ m,(Lib.compactUpTo d (m + 1))[0]? = some d[0]!
 | 0=>by rw [Lib.compactUpTo_succ]; simp [Lib.compactUpTo,Lib.keeps]
 | m + 1=>by
  rw [Lib.compactUpTo_succ,List.getElem?_append_left]
  ·exact upTo_first d m
  ·have:=upTo_first d m
   exact (List.getElem?_eq_some_iff.1 this).1
theorem cmpS_mem {l : List ByteArray} {s : ByteArray} : s ∈ cmpS l ↔ s ∈ l:=by
 unfold cmpS Lib.compact
 constructor
 ·intro h
  obtain ⟨x,hx,rfl⟩:=List.mem_map.1 h
  obtain ⟨j,hj,hx⟩:=(upTo_mem _ _ _).1 hx
  have hj' : j < l.length:=by simpa using hj
  rw [getElem!_pos _ j (by simpa using hj')] at hx
  simp at hx
  rw [← hx,strL_bytesL]
  exact List.getElem_mem hj'
 ·intro h
  obtain ⟨j,hj⟩:=List.getElem?_of_mem h
  have hj':=(List.getElem?_eq_some_iff.1 hj).1
  refine List.mem_map.2 ⟨bytesL s,(upTo_mem _ _ _).2 ⟨j,by simpa using hj',?_⟩,strL_bytesL s⟩
  rw [getElem!_pos _ j (by simpa using hj')]
  simp [(List.getElem?_eq_some_iff.1 hj).2]
theorem cmpS_first {l : List ByteArray} : (cmpS l)[0]? = l[0]?:=by
 cases l with
 | nil=>rfl
 | cons a l =>
  unfold cmpS Lib.compact
  rw [List.length_map,List.length_cons,List.getElem?_map,upTo_first]
  rw [getElem!_pos _ 0 (by simp)]
  simp [strL_bytesL]
def outS (l : List ByteArray) : List ByteArray:=cmpS (srtS l)
theorem outS_mem {l : List ByteArray} {s : ByteArray} : s ∈ outS l ↔ s ∈ l:=cmpS_mem.trans srtS_mem
theorem outS_first {l : List ByteArray} : (outS l)[0]? = some ⟨#[]⟩ ↔ (⟨#[]⟩ : ByteArray) ∈ l:=by
 constructor
 ·intro h
  exact outS_mem.1 (List.mem_of_getElem? h)
 ·intro h
  unfold outS
  rw [cmpS_first]; exact srtS_first h
end Go.Apx
end
section
namespace Go.Apx
open Go.Proofs
set_option linter.unusedVariables false
set_option linter.unusedSimpArgs false
set_option linter.unnecessarySimpa false
set_option maxRecDepth 4000
def outVal (o : Nat) (l : List ByteArray) : AV:=if l = [] then .sl 0 [] .nil else .rf o (l.length - 1) 0 l.length (.own 1)
def outH (H : AHeap) (l : List ByteArray) : AHeap:=if l = [] then H else H ++ [.cells (l.length - 1) (l.map sv)]
theorem outH_get {H : AHeap} {l : List ByteArray} {z : Nat} {x : AObj} (h : H[z]? = some x) : (outH H l)[z]? = some x:=by
 unfold outH
 split
 ·exact h
 ·rw [List.getElem?_append_left (List.getElem?_eq_some_iff.1 h).1]; exact h
@[simp] theorem isPend_outVal (o : Nat) (l : List ByteArray) : (outVal o l).isPend = false:=by unfold outVal; split <;> rfl
@[simp] theorem one_outVal (o : Nat) (l : List ByteArray) : (outVal o l).one = true:=by unfold outVal; split <;> rfl
theorem outVal_cons (o : Nat) (l : List ByteArray) (n : Nat) (h : l.length = n + 1) : outVal o l = .rf o n 0 (n + 1) (.own 1):=by
 unfold outVal
 rw [if_neg (by rintro rfl; simp at h),h]; rfl
theorem outH_cons (H : AHeap) (l : List ByteArray) (n : Nat) (h : l.length = n + 1) : outH H l = H ++ [.cells n (l.map sv)]:=by
 unfold outH
 rw [if_neg (by rintro rfl; simp at h),h]; rfl
theorem outVal_nil (o : Nat) : outVal o [] = .sl 0 [] .nil:=rfl
theorem outH_nil (H : AHeap) : outH H [] = H:=rfl
def follX (g : Gr) (x : Itm) : Option ByteArray:=match nextF g x with
 | some p=>if p.sort = emp then some p.sym else none
 | none=>none
def outL (g : Gr) (s : ByteArray) (n : Nat) (L : List Itm) (D : List Sp) : List ByteArray:=(if (⟨s,0,n⟩ : Sp) ∈ D then [emp] else []) ++ L.filterMap (follX g)
def viaG (g : Gr) (s : ByteArray) (S : List ByteArray) : Gr:={ g with us:=usF (pickS g S),st:=s }
def OutV (H : AHeap) (l : List ByteArray) (v : AV) : Prop:=(l = [] ∧ v = .sl 0 [] .nil) ∨ (l ≠ [] ∧ ∃ o gn rest rc,v = .rf o gn 0 l.length rc ∧ H[o]? = some (.cells gn (l.map sv ++ rest)))
def ViaR (g : Gr) (s : ByteArray) (tx : List ByteArray) (h : AHeap) (r : AEnd) (h' : AHeap) : Prop :=
 (∀ (z : Nat) (x : AObj),h[z]? = some x → h'[z]? = some x) ∧
 ((askedF g s tx ≠ 0 ∧ r = .ret (.tup [i64 0,.sl 0 [] .nil,i64 (askedF g s tx)])) ∨
  (askedF g s tx = 0 ∧ ∃ S,GrowS g yesP S ∧
   ((s ∉ S ∧ r = .ret (.tup [i64 0,.sl 0 [] .nil,i64 0])) ∨
   (s ∈ S ∧ ∃ Q L D,NF (viaG g s S) tx s Q L D ∧ (Q.length = tx.length ∨ scanF (viaG g s S) tx Q.length L = []) ∧
    ∃ v,OutV h' (outS (outL g s Q.length L D)) v ∧ r = .ret (.tup [i64 (Q.length : Int),v,i64 0])))))
theorem outS_nil : outS [] = []:=by simp [outS,cmpS,srtS,Lib.compact,Lib.compactUpTo]
theorem hasBody46 : hasBody PP 46 = true:=by kernel_rfl
set_option maxHeartbeats 4000000 in
theorem viable_c (g : Gr) (s : ByteArray) (tx : List ByteArray) (tc : Cap) {h : AHeap} (hs : g.sorts.length ≤ 2 ^ 31) (hr : g.rules.length ≤ 2 ^ 31) (hp : ∀ R ∈ g.rules,R.parts.length ≤ 2 ^ 31) (hc : ∀ h : AHeap,AEx PP Gl 47 [encG g] h (.ret (i64 (checkF g))) h) (hb : askedF g s tx = 0 → BdG g tx) :
  ACalls PP Gl 14 [encG g,.sc (.string s),.sl 1 (tx.map sv) tc] h (ViaR g s tx h):=by
 refine enter_earley_Viable (by simp) ?_
 simp -implicitDefEqProofs [code_earley_Viable,res_earley_Viable,ann_earley_Viable,encG]
 refine callk (asked_c g s tx tc (h:=h) hs (hc _)) (by simp [encG]) rfl ?_
 by_cases ha : askedF g s tx = 0
 case neg =>
  simp -implicitDefEqProofs [ha]
  exact ret1 (v:=.tup [i64 0,.sl 0 [] .nil,i64 (askedF g s tx)]) (by simp [deferred,dslot]) (by simp [evalRes,evalRes1]) ⟨fun _ _ hz=>hz,.inl ⟨ha,rfl⟩⟩
 have hbd:=hb ha
 have hck : checkF g = 0:=by
  unfold askedF at ha
  by_cases e : checkF g = 0
  ·exact e
  ·rw [if_pos e] at ha; exact (e ha).elim
 have hsm : s ∈ g.sorts:=by
  unfold askedF at ha
  rw [if_neg (by simpa using hck)] at ha
  cases hh : hasF g.sorts s with
  | true=>exact has_mem hh
  | false=>rw [hh] at ha; simp at ha
 simp -implicitDefEqProofs [ha]
 refine callr (Productive_c g hs hr hp (hc h)) (by simp [encG]) rfl ?_
 rintro r1 H1 ⟨hH1,⟨h1,_⟩ | ⟨_,S,hS,rfl⟩⟩
 ·exact (h1 hck).elim
 subst H1
 obtain ⟨P,hP⟩ : ∃ P,P = pickS g S:=⟨_,rfl⟩
 have hPl : P.length ≤ 2 ^ 31:=by rw [hP]; exact Nat.le_trans (List.length_filter_le _ _) hs
 rw [← hP]
 simp -implicitDefEqProofs
 refine callk (contains2_c P s hPl) rfl rfl ?_
 by_cases hsS : s ∈ S
 case neg =>
  have hno : hasF P s = false:=by
   cases hh : hasF P s with
   | false=>rfl
   | true=>rw [hP] at hh; exact (hsS (pickS_mem.1 (hasF_iff.1 hh)).2).elim
  simp -implicitDefEqProofs [hno]
  exact ret1 (v:=.tup [i64 0,.sl 0 [] .nil,i64 0]) (by simp [deferred,dslot]) (by simp [evalRes,evalRes1]) ⟨fun _ _ hz=>hz,.inr ⟨ha,S,hS,.inl ⟨hsS,rfl⟩⟩⟩
 have hyes : hasF P s = true:=by rw [hP]; exact hasF_iff.2 (pickS_mem.2 ⟨hsm,hsS⟩)
 simp -implicitDefEqProofs [hyes]
 have hbd' : BdG (viaG g s S) tx:=⟨hbd.r,hbd.p,hbd.n⟩
 refine callr (newChart_c (viaG g s S) tx tc s 41 [] [(grown 1 (P.map sv)).ip] (h:=h) hbd' (check_sorts hck) rfl (fun R hR H=>by rw [hP]; exact usable_c (pickS g S) R (by rw [← hP]; exact hPl) (hp R hR))) (by simp [encG,viaG]) rfl ?_
 rintro r1 H1 ⟨c,rfl,c1,c2,c3,c4,c5⟩
 have hch:=c1.ch
 have hdn:=c1.dn
 have hst:=c1.st
 simp only [chCells] at hch
 have hfind : amapFind (.agg [.sc (.string s),i64 0,i64 (c.S.length : Int)]) (amapOf encSp boolV (tkeys c.D)) = some ((afind (tkeys c.D) ⟨s,0,c.S.length⟩).map boolV):=amapFind_of keySp boolV (tkeys c.D) ⟨s,0,c.S.length⟩
 have hSn:=c4.li.n
 have htx:=hbd.n
 have w1 : IntKind.i64.wrap (c.S.length : Int) = (c.S.length : Int):=IntWalk.i64_in _ (by omega)
 have hst2 : (c.S.map setV ++ [setV (c.L,c.T)])[c.S.length]? = some (setV (c.L,c.T)):=by rw [List.getElem?_append_right (by simp)]; simp
 have hcl : (c.S.map setV ++ [setV (c.L,c.T)]).length = c.S.length + 1:=by simp
 have hbL:=snd_bound hbd' c4.li.sL c4.li.nd
 generalize c.S.map setV ++ [setV (c.L,c.T)] = cs at *
 have hcl1 : c.S.length < cs.length:=by omega
 have hst3 : cs[c.S.length]'hcl1 = setV (c.L,c.T):=(List.getElem?_eq_some_iff.1 hst2).2
 obtain ⟨l0,hl0⟩ : ∃ l0 : List ByteArray,l0 = if (⟨s,0,c.S.length⟩ : Sp) ∈ c.D then [emp] else []:=⟨_,rfl⟩
 obtain ⟨lF,hlF⟩ : ∃ lF : Nat → List ByteArray,lF = fun i=>l0 ++ (c.L.take i).filterMap (follX g):=⟨_,rfl⟩
 have hl01 : l0.length ≤ 1:=by rw [hl0]; split <;> simp
 have hlFl : ∀ i,(lF i).length ≤ 331101:=fun i=>by
  rw [hlF]
  have h1:=List.length_filterMap_le (follX g) (c.L.take i)
  have h2 : (c.L.take i).length ≤ c.L.length:=by simp; omega
  simp only [List.length_append]; omega
 have hol:=(List.getElem?_eq_some_iff.1 hch).1
 have hsl:=(List.getElem?_eq_some_iff.1 hst).1
 have hch1 : ∀ y,(H1 ++ [y])[c.o]? = H1[c.o]?:=fun y=>List.getElem?_append_left hol
 have hst1 : ∀ y,(H1 ++ [y])[c.os]? = H1[c.os]?:=fun y=>List.getElem?_append_left hsl
 obtain ⟨kk,cc,hsv,hkk⟩ : ∃ kk cc,setV (c.L,c.T) = .sl kk (c.L.map encI) cc ∧ (c.L ≠ [] → kk = 3):=by
  cases hcL : c.L with
  | nil=>exact ⟨_,_,rfl,fun h=>(h rfl).elim⟩
  | cons a l=>exact ⟨3,.tok c.T,rfl,fun _=>rfl⟩
 rw [hsv] at hst2 hst3
 by_cases hD : (⟨s,0,c.S.length⟩ : Sp) ∈ c.D
 ·have e0 : l0 = [emp]:=by rw [hl0,if_pos hD]
  have e1 : lF 0 = [emp]:=by rw [hlF]; simp [e0]
  simp -implicitDefEqProofs [hch,w1,hdn,hfind,tkeys_find,hD,boolV,hst,hcl,hst2,hst3,maxLenA,hch1,hst1]
  refine AWp.cnt c.L.length [12,13,63,64] (fun i=>[(14,outVal H1.length (lF i)),(65,i64 (i : Int))]) (fun i=>outH H1 (lF i)) (fun _=>True) mixed trivial (le_of (by rw [e1]; simp [dslot,outVal])) (by rw [e1]; simp [outH,emp]) (fun i hi _=>?_) fun _=>?_
  ·obtain ⟨x,hx⟩ : ∃ x,c.L[i]? = some x:=⟨c.L[i],by simp [hi]⟩
   have hxm:=List.mem_of_getElem? hx
   have hlt : (i : Int) < c.L.length:=by omega
   have wi : IntKind.i64.wrap ((i : Int) + 1) = (i : Int) + 1:=IntWalk.i64_in _ (by omega)
   have hneL : c.L ≠ []:=by intro e; rw [e] at hi; simp at hi
   have hk3:=hkk hneL
   subst hk3
   obtain ⟨R,hR,hd1,_⟩:=(c4.li.sL x hxm).ex
   have hxe : (c.L.map encI)[i]? = some (encI x):=by simp [hx]
   have hnx:=next_c (viaG g s S) c.o (.sl 1 (g.sorts.map sv) g.sc) _ x R (outH_get (l:=lF i) hch) hR hd1 (hp R (List.mem_of_getElem? hR))
   have hnv : nextF (viaG g s S) x = nextF g x:=rfl
   have hls : lF (i + 1) = lF i ++ (match follX g x with | some y=>[y] | none=>[]):=by
    rw [hlF]
    simp only
    rw [List.take_add_one,hx,List.filterMap_append,List.append_assoc]
    congr 2
    cases hf : follX g x <;> simp [hf]
   simp -implicitDefEqProofs [lp0_earley_Viable,hlt,hx,hneL,encI]
   refine callk hnx (by simp [encI]) rfl ?_
   unfold nextV
   rw [hnv]
   cases hn : nextF g x with
   | none =>
    have hf : follX g x = none:=by simp [follX,hn]
    rw [hf] at hls
    simp -implicitDefEqProofs [encP,wi]
    rw [show lF (i + 1) = lF i by rw [hls]; simp]
    exact ⟨le_of (by simp [dslot]),rfl⟩
   | some p =>
    by_cases he : p.sort = emp
    ·have he' : p.sort = (⟨#[]⟩ : ByteArray):=he
     have hf : follX g x = some p.sym:=by simp [follX,hn,he]
     rw [hf] at hls
     have hll:=hlFl i
     cases hOn : (lF i).length with
     | zero =>
      have hnil : lF i = []:=List.length_eq_zero_iff.1 hOn
      rw [hnil] at hls ⊢
      rw [outVal_nil,outH_nil]
      simp -implicitDefEqProofs [encP,he',wi,maxLenA]
      rw [show lF (i + 1) = [p.sym] by rw [hls]; simp]
      exact ⟨le_of (by simp [dslot,outVal]),by simp [outH]⟩
     | succ n =>
      rw [outVal_cons _ _ n hOn,outH_cons _ _ n hOn]
      have hm1 : n ≤ 4294967294:=by omega
      simp -implicitDefEqProofs [encP,he',wi,maxLenA,hOn,hm1]
      have hl2 : (lF (i + 1)).length = n + 1 + 1:=by rw [hls]; simp [hOn]
      rw [outVal_cons _ _ (n + 1) hl2,outH_cons _ _ (n + 1) hl2]
      exact ⟨le_of (by simp [dslot]),by rw [hls]; simp⟩
    ·have he' : ¬ p.sort = (⟨#[]⟩ : ByteArray):=he
     have hf : follX g x = none:=by simp [follX,hn,he]
     rw [hf] at hls
     simp -implicitDefEqProofs [encP,he',wi]
     rw [show lF (i + 1) = lF i by rw [hls]; simp]
     exact ⟨le_of (by simp [dslot]),rfl⟩
  ·have hall : lF c.L.length = outL g s c.S.length c.L c.D:=by
    rw [hlF]; simp only; rw [List.take_of_length_le (Nat.le_refl _),hl0]; rfl
   simp -implicitDefEqProofs [lp0_earley_Viable]
   rw [hall]
   have hOl : (outL g s c.S.length c.L c.D).length ≤ 331101:=by rw [← hall]; exact hlFl _
   have hpre : ∀ (z : Nat) (x : AObj),h[z]? = some x → H1[z]? = some x:=fun z x hz=>c3 z x (lt_of hz) hz
   generalize hO : outL g s c.S.length c.L c.D = O at *
   cases hOn : O.length with
   | zero =>
    obtain rfl : O = []:=List.length_eq_zero_iff.1 hOn
    rw [outVal_nil,outH_nil]
    refine callk (sort_nil laysSort (f:=45) rfl body_slices_Sort_string_string) rfl rfl ?_
    simp -implicitDefEqProofs
    refine callk (compact_nil laysCompact (f:=46) rfl hasBody46) rfl rfl ?_
    simp -implicitDefEqProofs
    exact ret1 (v:=.tup [i64 (c.S.length : Int),.sl 0 [] .nil,i64 0]) (by simp [deferred,dslot]) (by simp [evalRes,evalRes1]) ⟨hpre,.inr ⟨ha,S,hS,.inr ⟨hsS,c.S,c.L,c.D,c4,c5,_,.inl ⟨by rw [hO]; exact outS_nil,rfl⟩,rfl⟩⟩⟩
   | succ n =>
    have hOne : O ≠ []:=by rintro rfl; simp at hOn
    rw [outVal_cons _ _ n hOn,outH_cons _ _ n hOn]
    have hcell : (H1 ++ [.cells n (O.map sv)])[H1.length]? = some (.cells n (O.map sv ++ [])):=by simp
    have hsort:=sort_lib (G:=Gl) (rc:=.own 1) laysSort (f:=45) rfl body_slices_Sort_string_string hcell hOne (by omega)
    rw [hOn] at hsort
    refine callk hsort rfl rfl ?_
    simp -implicitDefEqProofs
    have hcell2 : (H1 ++ [.cells n ((srtS O).map sv)])[H1.length]? = some (.cells n ((srtS O).map sv ++ [])):=by simp
    have hsl2:=srtS_length O
    have hcomp:=compact_lib (G:=Gl) (rc:=.own 1) laysCompact (f:=46) rfl hasBody46 hcell2 (by intro e; rw [e] at hsl2; simp at hsl2; omega) (by omega)
    rw [hsl2,hOn] at hcomp
    refine callk hcomp rfl (by simp) ?_
    simp -implicitDefEqProofs
    refine ret1 (v:=.tup [i64 (c.S.length : Int),.rf H1.length n 0 (cmpS (srtS O)).length .any,i64 0]) (by simp [deferred,dslot]) (by simp [evalRes,evalRes1]) ⟨fun z x hz=>by rw [List.getElem?_append_left (lt_of (hpre z x hz))]; exact hpre z x hz,.inr ⟨ha,S,hS,.inr ⟨hsS,c.S,c.L,c.D,c4,c5,_,.inr ⟨?_,H1.length,n,List.replicate (n + 1 - (cmpS (srtS O)).length) (AV.sc (Value.string (strL []))),.any,by rw [hO]; rfl,by rw [hO]; simp [outS]⟩,rfl⟩⟩⟩
    rw [hO]
    obtain ⟨a,ha2⟩ : ∃ a,a ∈ O:=List.exists_mem_of_ne_nil O hOne
    have:=outS_mem.2 ha2
    intro e; rw [e] at this; cases this
 ·have e0 : l0 = []:=by rw [hl0,if_neg hD]
  have e1 : lF 0 = []:=by rw [hlF]; simp [e0]
  simp -implicitDefEqProofs [hch,w1,hdn,hfind,tkeys_find,hD,boolV,hst,hcl,hst2,hst3]
  refine AWp.cnt c.L.length [12,13,63,64] (fun i=>[(14,outVal H1.length (lF i)),(65,i64 (i : Int))]) (fun i=>outH H1 (lF i)) (fun _=>True) mixed trivial (le_of (by rw [e1]; simp [dslot,outVal])) (by rw [e1]; rfl) (fun i hi _=>?_) fun _=>?_
  ·obtain ⟨x,hx⟩ : ∃ x,c.L[i]? = some x:=⟨c.L[i],by simp [hi]⟩
   have hxm:=List.mem_of_getElem? hx
   have hlt : (i : Int) < c.L.length:=by omega
   have wi : IntKind.i64.wrap ((i : Int) + 1) = (i : Int) + 1:=IntWalk.i64_in _ (by omega)
   have hneL : c.L ≠ []:=by intro e; rw [e] at hi; simp at hi
   have hk3:=hkk hneL
   subst hk3
   obtain ⟨R,hR,hd1,_⟩:=(c4.li.sL x hxm).ex
   have hxe : (c.L.map encI)[i]? = some (encI x):=by simp [hx]
   have hnx:=next_c (viaG g s S) c.o (.sl 1 (g.sorts.map sv) g.sc) _ x R (outH_get (l:=lF i) hch) hR hd1 (hp R (List.mem_of_getElem? hR))
   have hnv : nextF (viaG g s S) x = nextF g x:=rfl
   have hls : lF (i + 1) = lF i ++ (match follX g x with | some y=>[y] | none=>[]):=by
    rw [hlF]
    simp only
    rw [List.take_add_one,hx,List.filterMap_append,List.append_assoc]
    congr 2
    cases hf : follX g x <;> simp [hf]
   simp -implicitDefEqProofs [lp0_earley_Viable,hlt,hx,hneL,encI]
   refine callk hnx (by simp [encI]) rfl ?_
   unfold nextV
   rw [hnv]
   cases hn : nextF g x with
   | none =>
    have hf : follX g x = none:=by simp [follX,hn]
    rw [hf] at hls
    simp -implicitDefEqProofs [encP,wi]
    rw [show lF (i + 1) = lF i by rw [hls]; simp]
    exact ⟨le_of (by simp [dslot]),rfl⟩
   | some p =>
    by_cases he : p.sort = emp
    ·have he' : p.sort = (⟨#[]⟩ : ByteArray):=he
     have hf : follX g x = some p.sym:=by simp [follX,hn,he]
     rw [hf] at hls
     have hll:=hlFl i
     cases hOn : (lF i).length with
     | zero =>
      have hnil : lF i = []:=List.length_eq_zero_iff.1 hOn
      rw [hnil] at hls ⊢
      rw [outVal_nil,outH_nil]
      simp -implicitDefEqProofs [encP,he',wi,maxLenA]
      rw [show lF (i + 1) = [p.sym] by rw [hls]; simp]
      exact ⟨le_of (by simp [dslot,outVal]),by simp [outH]⟩
     | succ n =>
      rw [outVal_cons _ _ n hOn,outH_cons _ _ n hOn]
      have hm1 : n ≤ 4294967294:=by omega
      simp -implicitDefEqProofs [encP,he',wi,maxLenA,hOn,hm1]
      have hl2 : (lF (i + 1)).length = n + 1 + 1:=by rw [hls]; simp [hOn]
      rw [outVal_cons _ _ (n + 1) hl2,outH_cons _ _ (n + 1) hl2]
      exact ⟨le_of (by simp [dslot]),by rw [hls]; simp⟩
    ·have he' : ¬ p.sort = (⟨#[]⟩ : ByteArray):=he
     have hf : follX g x = none:=by simp [follX,hn,he]
     rw [hf] at hls
     simp -implicitDefEqProofs [encP,he',wi]
     rw [show lF (i + 1) = lF i by rw [hls]; simp]
     exact ⟨le_of (by simp [dslot]),rfl⟩
  ·have hall : lF c.L.length = outL g s c.S.length c.L c.D:=by
    rw [hlF]; simp only; rw [List.take_of_length_le (Nat.le_refl _),hl0]; rfl
   simp -implicitDefEqProofs [lp0_earley_Viable]
   rw [hall]
   have hOl : (outL g s c.S.length c.L c.D).length ≤ 331101:=by rw [← hall]; exact hlFl _
   have hpre : ∀ (z : Nat) (x : AObj),h[z]? = some x → H1[z]? = some x:=fun z x hz=>c3 z x (lt_of hz) hz
   generalize hO : outL g s c.S.length c.L c.D = O at *
   cases hOn : O.length with
   | zero =>
    obtain rfl : O = []:=List.length_eq_zero_iff.1 hOn
    rw [outVal_nil,outH_nil]
    refine callk (sort_nil laysSort (f:=45) rfl body_slices_Sort_string_string) rfl rfl ?_
    simp -implicitDefEqProofs
    refine callk (compact_nil laysCompact (f:=46) rfl hasBody46) rfl rfl ?_
    simp -implicitDefEqProofs
    exact ret1 (v:=.tup [i64 (c.S.length : Int),.sl 0 [] .nil,i64 0]) (by simp [deferred,dslot]) (by simp [evalRes,evalRes1]) ⟨hpre,.inr ⟨ha,S,hS,.inr ⟨hsS,c.S,c.L,c.D,c4,c5,_,.inl ⟨by rw [hO]; exact outS_nil,rfl⟩,rfl⟩⟩⟩
   | succ n =>
    have hOne : O ≠ []:=by rintro rfl; simp at hOn
    rw [outVal_cons _ _ n hOn,outH_cons _ _ n hOn]
    have hcell : (H1 ++ [.cells n (O.map sv)])[H1.length]? = some (.cells n (O.map sv ++ [])):=by simp
    have hsort:=sort_lib (G:=Gl) (rc:=.own 1) laysSort (f:=45) rfl body_slices_Sort_string_string hcell hOne (by omega)
    rw [hOn] at hsort
    refine callk hsort rfl rfl ?_
    simp -implicitDefEqProofs
    have hcell2 : (H1 ++ [.cells n ((srtS O).map sv)])[H1.length]? = some (.cells n ((srtS O).map sv ++ [])):=by simp
    have hsl2:=srtS_length O
    have hcomp:=compact_lib (G:=Gl) (rc:=.own 1) laysCompact (f:=46) rfl hasBody46 hcell2 (by intro e; rw [e] at hsl2; simp at hsl2; omega) (by omega)
    rw [hsl2,hOn] at hcomp
    refine callk hcomp rfl (by simp) ?_
    simp -implicitDefEqProofs
    refine ret1 (v:=.tup [i64 (c.S.length : Int),.rf H1.length n 0 (cmpS (srtS O)).length .any,i64 0]) (by simp [deferred,dslot]) (by simp [evalRes,evalRes1]) ⟨fun z x hz=>by rw [List.getElem?_append_left (lt_of (hpre z x hz))]; exact hpre z x hz,.inr ⟨ha,S,hS,.inr ⟨hsS,c.S,c.L,c.D,c4,c5,_,.inr ⟨?_,H1.length,n,List.replicate (n + 1 - (cmpS (srtS O)).length) (AV.sc (Value.string (strL []))),.any,by rw [hO]; rfl,by rw [hO]; simp [outS]⟩,rfl⟩⟩⟩
    rw [hO]
    obtain ⟨a,ha2⟩ : ∃ a,a ∈ O:=List.exists_mem_of_ne_nil O hOne
    have:=outS_mem.2 ha2
    intro e; rw [e] at this; cases this
end Go.Apx
end
section
namespace Go.Apx
open Go.Proofs
set_option linter.unusedVariables false
set_option linter.unusedSimpArgs false
set_option linter.unnecessarySimpa false
set_option maxRecDepth 4000
def Pre (n : Nat) (tx tx' : List ByteArray) : Prop:=∀ i,i < n → tx[i]? = tx'[i]?
theorem Pre.symm {n : Nat} {tx tx' : List ByteArray} (h : Pre n tx tx') : Pre n tx' tx:=fun i hi=>(h i hi).symm
theorem DerP.pre {g : Gr} {tx tx' : List ByteArray} {n : Nat} (hp : Pre n tx tx') {ps : List Pt} {i j : Nat} (h : DerP g tx ps i j) : j ≤ n → DerP g tx' ps i j:=by
 induction h with
 | nil=>intro _; exact .nil _
 | @sym p ps i j hs ht h ih =>
  intro hj
  have:=h.le.1
  exact .sym hs (by rw [← hp i (by omega)]; exact ht) (ih hj)
 | @arg p ps i k j r R hs hr he h1 h2 ih1 ih2 =>
  intro hj
  have:=h2.le.1
  exact .arg hs hr he (ih1 (by omega)) (ih2 hj)
theorem Der.pre {g : Gr} {tx tx' : List ByteArray} {n : Nat} (hp : Pre n tx tx') {s : ByteArray} {i j : Nat} (h : Der g tx s i j) (hj : j ≤ n) : Der g tx' s i j:=by
 obtain ⟨r,R,hr,he,h⟩:=h
 exact ⟨r,R,hr,he,h.pre hp hj⟩
theorem It.pre {g : Gr} {tx tx' : List ByteArray} {n : Nat} (hp : Pre n tx tx') {k : Nat} {x : Itm} (h : It g tx k x) : k ≤ n → It g tx' k x:=by
 induction h with
 | start hr he=>intro _; exact .start hr he
 | pred h hn hs hr he ih=>intro hk; exact .pred (ih hk) hn hs hr he
 | @scan k x p h hn hs ht ih=>intro hk; exact .scan (ih (by omega)) hn hs (by rw [← hp k (by omega)]; exact ht)
 | @comp i k x p h hn hs hd ih =>
  intro hk
  have:=hd.le.1
  exact .comp (ih (by omega)) hn hs (hd.pre hp hk)
theorem Closed.all_it {g : Gr} {tx : List ByteArray} {S : Nat → Itm → Prop} {D : ByteArray → Nat → Nat → Prop} (hc : Closed g tx S D) (hb : Begun g S g.st 0) {k : Nat} {x : Itm} (h : It g tx k x) : S k x:=by
 induction h with
 | start hr he=>exact hb _ _ hr he
 | pred h hn hs hr he ih=>exact hc.pred _ _ _ ih hn hs _ _ hr he
 | scan h hn hs ht ih=>exact hc.scan _ _ _ ih hn hs ht
 | @comp i k x p h hn hs hd ih =>
  have hbg : Begun g S p.sort i:=fun r R hr he=>hc.pred _ _ _ ih hn hs r R hr he
  exact hc.move _ _ _ _ _ ((hc.iff hbg k).2 hd) ih hn rfl hs
theorem next_of {g : Gr} {x : Itm} {R : Rl} {p : Pt} {ps : List Pt} (hR : g.rules[x.r]? = some R) (hd : R.parts.drop x.d = p :: ps) : nextF g x = some p ∧ R.parts.drop (x.d + 1) = ps:=by
 constructor
 ·have : (R.parts.drop x.d)[0]? = some p:=by rw [hd]; rfl
  rw [List.getElem?_drop] at this
  simpa [nextF,hR] using this
 ·rw [← List.drop_drop,hd]; rfl
theorem der_scan {g : Gr} {tx : List ByteArray} (hu : UsOk g tx) {ps : List Pt} {i j : Nat} (h : DerP g tx ps i j) : ∀ (x : Itm) (R : Rl),It g tx i x → g.rules[x.r]? = some R → R.parts.drop x.d = ps → ∀ k,i ≤ k → k < j →
  ∃ y p,It g tx k y ∧ nextF g y = some p ∧ p.sort = emp ∧ tx[k]? = some p.sym:=by
 induction h with
 | nil=>intro x R _ _ _ k h1 h2; omega
 | @sym p ps i j hs ht h ih =>
  intro x R hx hR hd k h1 h2
  obtain ⟨hn,hd'⟩:=next_of hR hd
  rcases Nat.lt_or_eq_of_le h1 with h3 | rfl
  ·exact ih x.adv R (.scan hx hn hs ht) hR hd' k h3 h2
  ·exact ⟨x,p,hx,hn,hs,ht⟩
 | @arg p ps i m j r R' hs hr he ha hb ih1 ih2 =>
  intro x R hx hR hd k h1 h2
  obtain ⟨hn,hd'⟩:=next_of hR hd
  by_cases hk : k < m
  ·exact ih1 ⟨r,0,i⟩ R' (.pred hx hn hs hr ⟨he,hu r R' _ _ hr ha⟩) hr rfl k h1 hk
  ·exact ih2 x.adv R (.comp hx hn hs ⟨r,R',hr,he,ha⟩) hR hd' k (by omega) h2
theorem it_scan {g : Gr} {tx : List ByteArray} (hu : UsOk g tx) {k : Nat} {z : Itm} (h : It g tx k z) : ∀ n,k = n + 1 → ∃ y p,It g tx n y ∧ nextF g y = some p ∧ p.sort = emp ∧ tx[n]? = some p.sym:=by
 induction h with
 | start hr he=>intro n hn; omega
 | pred h hn hs hr he ih=>exact ih
 | @scan k x p h hn hs ht ih =>
  intro n hk
  have e : k = n:=by omega
  subst e
  exact ⟨x,p,h,hn,hs,ht⟩
 | @comp i k x p h hn hs hd ih =>
  intro n hk
  have hle:=hd.le.1
  by_cases hi : i = n + 1
  ·exact ih n hi
  ·obtain ⟨r,R,hr,he,hp⟩:=hd
   exact der_scan hu hp ⟨r,0,i⟩ R (.pred h hn hs hr ⟨he,hu r R _ _ hr hp⟩) hr rfl n (by omega) (by omega)
section
variable {g : Gr} {tx : List ByteArray} {s : ByteArray} {Q : List (List Itm × Nat)} {L : List Itm} {D : List Sp}
theorem plc_le {Q : List (List Itm × Nat)} {L : List Itm} {k : Nat} {x : Itm} (hx : x ∈ plc Q L k) : k ≤ Q.length:=by
 rcases Nat.lt_or_ge Q.length k with h' | h'
 ·exfalso
  unfold plc at hx
  rw [List.getD,List.getElem?_eq_none (by simp; omega)] at hx
  simp at hx
 ·exact h'
theorem via_mem (h : NF g tx s Q L D) (hu : UsOk g tx) (hst : g.st = s) (he : Q.length = tx.length ∨ scanF g tx Q.length L = []) {k : Nat} {x : Itm} : x ∈ plc Q L k ↔ It g tx k x:=by
 obtain ⟨hc,hb⟩:=h.all hu he
 exact ⟨hc.it k x,hc.all_it (by rw [hst]; exact hb)⟩
theorem via_last (h : NF g tx s Q L D) (hu : UsOk g tx) (hst : g.st = s) (he : Q.length = tx.length ∨ scanF g tx Q.length L = []) {x : Itm} : x ∈ L ↔ It g tx Q.length x:=by
 rw [← via_mem h hu hst he,plc_last]
theorem via_len {tx' : List ByteArray} {Q' : List (List Itm × Nat)} {L' : List Itm} {D' : List Sp} {y : ByteArray} (h : NF g tx s Q L D) (h' : NF g tx' s Q' L' D') (hu : UsOk g tx) (hu' : UsOk g tx') (hst : g.st = s)
  (he : Q.length = tx.length ∨ scanF g tx Q.length L = []) (he' : Q'.length = tx'.length ∨ scanF g tx' Q'.length L' = []) (hp : Pre Q.length tx tx') (hl : tx'.length = Q.length + 1) (hy : tx'[Q.length]? = some y) :
  Q'.length = Q.length + 1 ↔ ∃ x p,x ∈ L ∧ nextF g x = some p ∧ p.sort = emp ∧ p.sym = y:=by
 constructor
 ·intro hQ
  have hne : Q' ≠ []:=by rintro rfl; simp at hQ
  obtain ⟨z,hz⟩:=List.exists_mem_of_ne_nil _ (h'.ne hne)
  have h1:=(via_last h' hu' hst he').1 hz
  rw [hQ] at h1
  obtain ⟨x,p,h2,h3,h4,h5⟩:=it_scan hu' h1 _ rfl
  rw [hy] at h5
  exact ⟨x,p,(via_last h hu hst he).2 (h2.pre hp.symm (Nat.le_refl _)),h3,h4,(Option.some.inj h5).symm⟩
 ·rintro ⟨x,p,h2,h3,h4,h5⟩
  have h6:=((via_last h hu hst he).1 h2).pre hp (Nat.le_refl _)
  have h7 : It g tx' (Q.length + 1) x.adv:=.scan h6 h3 h4 (by rw [hy,h5])
  have h8:=plc_le ((via_mem h' hu' hst he').2 h7)
  have h9:=h'.li.n
  omega
theorem via_no (h : NF g tx s Q L D) (hu : UsOk g tx) (hst : g.st = s) (he : Q.length = tx.length ∨ scanF g tx Q.length L = []) (hl : Q.length < tx.length) : ¬ Der g tx s 0 tx.length:=by
 rintro ⟨r,R,hr,hs,hd⟩
 obtain ⟨x,p,h2,h3,h4,h5⟩:=der_scan hu hd ⟨r,0,0⟩ R (.start hr ⟨by rw [hst]; exact hs,hu r R _ _ hr hd⟩) hr rfl Q.length (Nat.zero_le _) hl
 have h6:=(via_last h hu hst he).2 h2
 rcases he with he | he
 ·omega
 ·have : x.adv ∈ scanF g tx Q.length L:=by
   unfold scanF
   exact List.mem_filterMap.2 ⟨x,h6,by simp [scanX,h3,h4,h5]⟩
  rw [he] at this; cases this
theorem via_der (h : NF g tx s Q L D) (hu : UsOk g tx) (he : Q.length = tx.length ∨ scanF g tx Q.length L = []) (j : Nat) : (⟨s,0,j⟩ : Sp) ∈ D ↔ Der g tx s 0 j:=by
 obtain ⟨hc,hb⟩:=h.all hu he
 exact hc.iff hb j
end
end Go.Apx
end
section
namespace Go.Apx
open Go.Proofs
set_option linter.unusedVariables false
set_option linter.unusedSimpArgs false
set_option linter.unnecessarySimpa false
set_option maxRecDepth 4000
theorem DerP.conv {g g' : Gr} {tx : List ByteArray} (hr : g'.rules = g.rules) {ps : List Pt} {i j : Nat} (h : DerP g tx ps i j) : DerP g' tx ps i j:=by
 induction h with
 | nil=>exact .nil _
 | sym hs ht h ih=>exact .sym hs ht ih
 | arg hs h1 he h2 h3 ih1 ih2=>exact .arg hs (by rw [hr]; exact h1) he ih1 ih2
theorem Der.conv {g g' : Gr} {tx : List ByteArray} (hr : g'.rules = g.rules) {s : ByteArray} {i j : Nat} (h : Der g tx s i j) : Der g' tx s i j:=by
 obtain ⟨r,R,h1,h2,h3⟩:=h
 exact ⟨r,R,by rw [hr]; exact h1,h2,h3.conv hr⟩
theorem outL_emp {g : Gr} {s : ByteArray} {n : Nat} {L : List Itm} {D : List Sp} (hs : ∀ x ∈ L,follX g x ≠ some emp) : emp ∈ outL g s n L D ↔ (⟨s,0,n⟩ : Sp) ∈ D:=by
 unfold outL
 rw [List.mem_append]
 constructor
 ·rintro (h | h)
  ·by_cases e : (⟨s,0,n⟩ : Sp) ∈ D
   ·exact e
   ·rw [if_neg e] at h; cases h
  ·obtain ⟨x,hx,h⟩:=List.mem_filterMap.1 h
   exact (hs x hx h).elim
 ·intro h
  rw [if_pos h]; exact .inl (by simp)
theorem outL_sym {g : Gr} {s : ByteArray} {n : Nat} {L : List Itm} {D : List Sp} {y : ByteArray} (hy : y ≠ emp) : y ∈ outL g s n L D ↔ ∃ x p,x ∈ L ∧ nextF g x = some p ∧ p.sort = emp ∧ p.sym = y:=by
 unfold outL
 rw [List.mem_append]
 constructor
 ·rintro (h | h)
  ·split at h
   ·simp at h; exact (hy h).elim
   ·cases h
  ·obtain ⟨x,hx,h⟩:=List.mem_filterMap.1 h
   unfold follX at h
   cases hn : nextF g x with
   | none=>rw [hn] at h; cases h
   | some p =>
    rw [hn] at h
    simp only at h
    split at h
    ·rename_i he; exact ⟨x,p,hx,hn,he,Option.some.inj h⟩
    ·cases h
 ·rintro ⟨x,p,hx,hn,he,rfl⟩
  exact .inr (List.mem_filterMap.2 ⟨x,hx,by simp [follX,hn,he]⟩)
theorem foll_ne {g : Gr} (hck : checkF g = 0) (x : Itm) : follX g x ≠ some emp:=by
 unfold follX
 cases hn : nextF g x with
 | none=>simp
 | some p =>
  simp only
  by_cases he : p.sort = emp
  ·rw [if_pos he]
   intro hc
   have hc' : p.sym = emp:=Option.some.inj hc
   unfold nextF at hn
   cases hR : g.rules[x.r]? with
   | none=>rw [hR] at hn; cases hn
   | some R =>
    rw [hR] at hn
    have hp:=List.mem_of_getElem? (show R.parts[x.d]? = some p from hn)
    have:=(check_rule hck R (List.mem_of_getElem? hR)).2.1 p hp
    unfold partF at this
    rw [if_pos he] at this
    simp [hc',okName,emp] at this
  ·rw [if_neg he]; simp
theorem asked_take {g : Gr} {s : ByteArray} {tx tx' : List ByteArray} (h : askedF g s tx = 0) (hl : tx'.length ≤ 200) : askedF g s tx' = 0:=by
 unfold askedF at h ⊢
 by_cases h1 : checkF g = 0
 ·rw [if_neg (by simpa using h1)] at h ⊢
  by_cases h2 : hasF g.sorts s = false
  ·rw [if_pos h2] at h; omega
  ·rw [if_neg h2] at h ⊢
   rw [if_neg (by omega)]
 ·rw [if_pos h1] at h; exact (h1 h).elim
theorem GrowS.mem {g : Gr} {pm : Pt → Bool} {S S' : List ByteArray} (h : GrowS g pm S) (h' : GrowS g pm S') {s : ByteArray} : s ∈ S ↔ s ∈ S' :=
 ⟨h.least S' h'.closed s,h'.least S h.closed s⟩
theorem GrowS.pick {g : Gr} {pm : Pt → Bool} {S S' : List ByteArray} (h : GrowS g pm S) (h' : GrowS g pm S') : pickS g S = pickS g S':=by
 unfold pickS
 congr 1
 funext s
 rw [decide_eq_decide]; exact h.mem h'
theorem GrowS.via {g : Gr} {S S' : List ByteArray} (h : GrowS g yesP S) (h' : GrowS g yesP S') (s : ByteArray) : viaG g s S = viaG g s S':=by
 unfold viaG
 rw [h.pick h']
theorem via_us {g : Gr} {S : List ByteArray} (h : GrowS g yesP S) (hck : checkF g = 0) (s : ByteArray) (tx : List ByteArray) : UsOk (viaG g s S) tx:=fun r R i j hr hd=>by
 have hn:=check_named hck
 show usF (pickS g S) R = true
 unfold usF
 rw [Bool.not_eq_true',List.any_eq_false]
 intro p hp hc
 simp only [needF,Bool.and_eq_true,Bool.not_eq_true',decide_eq_false_iff_not] at hc
 have h1:=der_prod h (DerP.conv (g:=viaG g s S) (g':=g) rfl hd) p hp hc.1
 have h2:=(hn R (List.mem_of_getElem? hr)).2 p hp hc.1
 have h3 : hasF (pickS g S) p.sort = true:=hasF_iff.2 (pickS_mem.2 ⟨h2,h1⟩)
 rw [h3] at hc
 cases hc.2
end Go.Apx
end
section
namespace Go.Apx
open Go.Proofs
set_option linter.unusedVariables false
set_option linter.unusedSimpArgs false
set_option linter.unnecessarySimpa false
set_option maxRecDepth 4000
section
variable {g : Gr} {tx : List ByteArray} {X : List Bool} {S : Nat → Itm → Prop} {D : List Sp}
def Met (g : Gr) (tx : List ByteArray) (S : Nat → Itm → Prop) (x : Sp) : Prop:=Begun g S x.s x.i ∧ x.i ≤ tx.length ∧ x.j ≤ tx.length
theorem Met.num {L : List Sp} {x : Sp} (h : ∀ y ∈ L,Met g tx S y) (hx : Met g tx S x) : ∀ y ∈ (numSp L x).1,Met g tx S y:=by
 unfold numSp
 split
 ·exact h
 ·intro y hy
  rcases List.mem_append.1 hy with h' | h'
  ·exact h y h'
  ·simp at h'; subst h'; exact hx
theorem Met.all : ∀ {w L : List Sp} {ns : List Nat},(∀ y ∈ L,Met g tx S y) → (∀ y ∈ w,Met g tx S y) → ∀ y ∈ (w.foldl (fun st x=>((numSp st.1 x).1,st.2 ++ [(numSp st.1 x).2])) (L,ns)).1,Met g tx S y
 | [],L,ns,h,_=>h
 | x :: w,L,ns,h,hw=>Met.all (w:=w) (Met.num h (hw x (by simp))) (fun y hy=>hw y (by simp [hy]))
theorem Met.run : ∀ {c : List (Nat × List Sp)} {st : List Sp × List (Nat × List Nat)},(∀ y ∈ st.1,Met g tx S y) → (∀ x ∈ c,∀ y ∈ x.2,Met g tx S y) → ∀ y ∈ (runW wayP st c).1,Met g tx S y
 | [],st,h,_=>h
 | a :: c,st,h,hc=>Met.run (c:=c) (st:=((wayP st.1 a).1,st.2 ++ [(wayP st.1 a).2])) (Met.all h (hc a (by simp))) (fun x hx=>hc x (by simp [hx]))
end
end Go.Apx
end
section
namespace Go.Apx
open Go.Proofs
set_option linter.unusedVariables false
set_option linter.unusedSimpArgs false
set_option linter.unnecessarySimpa false
set_option maxRecDepth 4000
@[simp] theorem isPend_wayV (w : Nat × List Nat) : (wayV w).isPend = false:=rfl
@[simp] theorem one_wayV (w : Nat × List Nat) : (wayV w).one = false:=rfl
@[simp] theorem isPend_nodeV (x : Sp × List (Nat × List Nat)) : (nodeV x).isPend = false:=rfl
@[simp] theorem one_nodeV (x : Sp × List (Nat × List Nat)) : (nodeV x).one = false:=rfl
@[simp] theorem isPend_forestV (l : List (Sp × List (Nat × List Nat))) : (forestV l).isPend = false:=rfl
structure CN where
 x : Sp × List (Nat × List Nat)
 T : Nat
def encCN (c : CN) : AV:=.agg [.sc (.string c.x.1.s),i64 (c.x.1.i : Int),i64 (c.x.1.j : Int),apd 2 (c.x.2.map wayV) c.T]
@[simp] theorem isPend_encCN (c : CN) : (encCN c).isPend = false:=rfl
@[simp] theorem one_encCN (c : CN) : (encCN c).one = false:=rfl
end Go.Apx
end
section
namespace Go.Apx
open Go.Proofs
set_option linter.unusedVariables false
set_option linter.unusedSimpArgs false
set_option linter.unnecessarySimpa false
set_option maxRecDepth 4000
theorem awake_c {h : AHeap} : AEx PP Gl 8 [] h (.ret (.sc (.bool true))) h:=KOk.at aw_root rfl rfl
structure LawP (g : Gr) (tx : List ByteArray) : Prop where
 sorts : g.sorts.length ≤ 2 ^ 31
 rules : g.rules.length ≤ 2 ^ 31
 rparts : ∀ r ∈ g.rules,r.parts.length ≤ 2 ^ 31
 sc : g.sc.strip = g.sc
 text : tx.length ≤ 2 ^ 31
def shortF (g : Gr) (tx : List ByteArray) (most : Int) : Bool:=smallF g 10 5 && (decide ((tx.length : Int) ≤ most) || (decide (200 < (tx.length : Int)) && decide ((tx.length : Int) < 300)))
theorem short_c (g : Gr) (tx : List ByteArray) (tc : Cap) (most : Int) {h : AHeap} (hi : LawP g tx) : AEx PP Gl 7 [encG g,.sl 1 (tx.map sv) tc,i64 most] h (.ret (bl (shortF g tx most))) h:=by
 refine enter_law14_short (by simp) ?_
 simp -implicitDefEqProofs [code_law14_short,res_law14_short,ann_law14_short,encG]
 refine callk (small_c g 10 5 hi.sorts hi.rules) (by simp [encG]) rfl ?_
 cases h1 : smallF g 10 5 with
 | false =>
  simp -implicitDefEqProofs
  exact retE (by simp [deferred,dslot]) rfl (by simp [shortF,h1]) rfl
 | true =>
  by_cases h2 : (tx.length : Int) ≤ most
  ·simp -implicitDefEqProofs [h2]
   exact retE (by simp [deferred,dslot]) rfl (by simp [shortF,h1,h2]) rfl
  ·by_cases h3 : 200 < (tx.length : Int)
   ·simp -implicitDefEqProofs [h2,h3]
    exact retE (by simp [deferred,dslot]) rfl (by simp [shortF,h1,h2,h3]) rfl
   ·simp -implicitDefEqProofs [h2,h3]
    exact retE (by simp [deferred,dslot]) rfl (by simp [shortF,h1,h2,h3]) rfl
theorem short_small {g : Gr} (hs : smallF g 10 5 = true) (hck : checkF g = 0) : g.rules.length ≤ 10 ∧ g.sorts.length ≤ 8 ∧ ∀ R ∈ g.rules,R.parts.length ≤ 5:=by
 obtain ⟨c1,c2,_⟩:=check_ok hck
 have c3 : g.sorts.length ≤ 32:=by
  unfold checkF at hck
  split at hck
  ·omega
  ·omega
 unfold smallF at hs
 rw [if_neg (by omega),if_neg (by omega)] at hs
 simp only [Bool.and_eq_true,List.all_eq_true,decide_eq_true_eq] at hs
 refine ⟨by omega,by omega,fun R hR=>?_⟩
 have h1:=hs.1.1 R hR
 have h2:=c2 R hR
 simp [badR] at h1
 omega
theorem small_parts {g : Gr} (hs : smallF g 10 5 = true) : g.sorts.length ≤ 32 → g.rules.length ≤ 600 → ∀ r ∈ g.rules,longF r = false → r.parts.length ≤ 12:=fun h1 h2 r hr hlong=>by
 unfold smallF at hs
 rw [if_neg (by omega),if_neg (by omega)] at hs
 simp only [Bool.and_eq_true,List.all_eq_true] at hs
 have:=hs.1.1 r hr
 simp [badR,longF] at this hlong
 omega
theorem asked_check {g : Gr} {s : ByteArray} {tx : List ByteArray} (h : askedF g s tx = 0) : checkF g = 0 ∧ tx.length ≤ 200:=by
 unfold askedF at h
 by_cases e : checkF g = 0
 ·refine ⟨e,?_⟩
  rw [if_neg (by simpa using e)] at h
  split at h
  ·omega
  ·split at h <;> omega
 ·rw [if_pos e] at h; exact (e h).elim
theorem short_bd {g : Gr} {s : ByteArray} {tx : List ByteArray} {most : Int} (hs : smallF g 10 5 = true) (h : askedF g s tx = 0) : BdG g tx:=by
 obtain ⟨h1,h2⟩:=asked_check h
 obtain ⟨c1,c2,c3⟩:=short_small hs h1
 exact ⟨by omega,fun R hR=>by have:=c3 R hR; omega,by omega⟩
end Go.Apx
end
section
namespace Go.Apx
open Go.Proofs
set_option linter.unusedVariables false
set_option linter.unusedSimpArgs false
set_option linter.unnecessarySimpa false
set_option maxRecDepth 4000
theorem parse_der {g : Gr} {s : ByteArray} {tx : List ByteArray} {h h' : AHeap} {r : AEnd} (hua : ∀ R : Rl,g.us R = true) (p : EParseR g s tx h r h') (ha : askedF g s tx = 0) :
  h' = h ∧ ((Der g tx s 0 tx.length ∧ (r = .ret (.tup [.agg [.sl 0 [] .nil],i64 15]) ∨ ∃ ns,r = .ret (.tup [forestV ns,i64 0]))) ∨
   (¬ Der g tx s 0 tx.length ∧ r = .ret (.tup [.agg [.sl 0 [] .nil],i64 160]))):=by
 obtain ⟨p1,p2⟩:=p
 refine ⟨p1,?_⟩
 rcases p2 with ⟨q1,_⟩ | ⟨_,S,L,D,hNF,hend,q⟩
 ·exact (q1 ha).elim
 have hd:=via_der hNF (fun r R _ _ _ _=>hua R) hend tx.length
 rcases q with ⟨q1,rfl⟩ | ⟨q1,⟨n,_,rfl⟩ | ⟨n,L1,F1,ns,_,_,_,_,rfl⟩⟩
 ·exact .inr ⟨fun hh=>q1 (hd.2 hh),rfl⟩
 ·exact .inl ⟨hd.1 q1,.inl rfl⟩
 ·exact .inl ⟨hd.1 q1,.inr ⟨ns,rfl⟩⟩
theorem pre_take (tx : List ByteArray) (n : Nat) : Pre n tx (tx.take n):=fun i hi=>by
 rw [List.getElem?_take]; simp [hi]
theorem pre_take_add (tx : List ByteArray) (n : Nat) (y : ByteArray) (hn : n ≤ tx.length) : Pre n tx (tx.take n ++ [y]):=fun i hi=>by
 rw [List.getElem?_append_left (by simp; omega),List.getElem?_take]; simp [hi]
theorem via_more {g : Gr} {s : ByteArray} {S S' : List ByteArray} {tx : List ByteArray} {Q Q' : List (List Itm × Nat)} {L L' : List Itm} {D D' : List Sp} {y : ByteArray} (hck : checkF g = 0) (hS : GrowS g yesP S) (hS' : GrowS g yesP S')
  (h : NF (viaG g s S) tx s Q L D) (he : Q.length = tx.length ∨ scanF (viaG g s S) tx Q.length L = []) (h' : NF (viaG g s S') (tx.take Q.length ++ [y]) s Q' L' D') (he' : Q'.length = (tx.take Q.length ++ [y]).length ∨ scanF (viaG g s S') (tx.take Q.length ++ [y]) Q'.length L' = []) :
  Q'.length = Q.length + 1 ↔ y ∈ outS (outL g s Q.length L D) ∧ y ≠ emp:=by
 rw [hS'.via hS s] at h' he'
 have hn:=h.li.n
 have hl : (tx.take Q.length ++ [y]).length = Q.length + 1:=by simp [Nat.min_eq_left hn]
 have hy : (tx.take Q.length ++ [y])[Q.length]? = some y:=by
  rw [List.getElem?_append_right (by simp; omega)]; simp [Nat.min_eq_left hn]
 rw [via_len h h' (via_us hS hck s tx) (via_us hS hck s _) rfl he he' (pre_take_add tx _ y hn) hl hy,outS_mem]
 constructor
 ·rintro ⟨x,p,h1,h2,h3,h4⟩
  have hne : y ≠ emp:=by
   rintro rfl
   have:=foll_ne hck x
   apply this
   unfold follX
   rw [show nextF g x = some p from h2]
   simp [h3,h4]
  exact ⟨(outL_sym hne).2 ⟨x,p,h1,h2,h3,h4⟩,hne⟩
 ·rintro ⟨h1,hne⟩
  exact (outL_sym hne).1 h1
theorem via_emp {g : Gr} {s : ByteArray} {S : List ByteArray} {tx : List ByteArray} {Q : List (List Itm × Nat)} {L : List Itm} {D : List Sp} (hck : checkF g = 0) (hS : GrowS g yesP S)
  (h : NF (viaG g s S) tx s Q L D) (he : Q.length = tx.length ∨ scanF (viaG g s S) tx Q.length L = []) : emp ∈ outS (outL g s Q.length L D) ↔ Der g (tx.take Q.length) s 0 Q.length:=by
 rw [outS_mem,outL_emp (fun x _=>foll_ne hck x),via_der h (via_us hS hck s tx) he]
 constructor
 ·intro hd
  exact (Der.conv (g:=viaG g s S) (g':=g) rfl hd).pre (pre_take tx _) (Nat.le_refl _)
 ·intro hd
  exact Der.conv (g:=g) (g':=viaG g s S) rfl (hd.pre (pre_take tx _).symm (Nat.le_refl _))
theorem via_stop {g : Gr} {s : ByteArray} {S : List ByteArray} {tx : List ByteArray} {Q : List (List Itm × Nat)} {L : List Itm} {D : List Sp} (hck : checkF g = 0) (hS : GrowS g yesP S)
  (h : NF (viaG g s S) tx s Q L D) (he : Q.length = tx.length ∨ scanF (viaG g s S) tx Q.length L = []) (hl : Q.length < tx.length) : ¬ Der g tx s 0 tx.length ∧ ∀ y,tx[Q.length]? = some y → y ≠ emp → y ∉ outS (outL g s Q.length L D):=by
 refine ⟨fun hd=>via_no h (via_us hS hck s tx) rfl he hl (Der.conv (g:=g) (g':=viaG g s S) rfl hd),fun y hy hne hm=>?_⟩
 obtain ⟨x,p,h1,h2,h3,h4⟩:=(outL_sym hne).1 (outS_mem.1 hm)
 rcases he with he | he
 ·omega
 ·have : x.adv ∈ scanF (viaG g s S) tx Q.length L:=by
   unfold scanF
   exact List.mem_filterMap.2 ⟨x,h1,by simp [scanX,show nextF (viaG g s S) x = some p from h2,h3,h4,hy]⟩
  rw [he] at this; cases this
structure BegF (g : Gr) (s : ByteArray) (tx : List ByteArray) (n : Nat) (O : List ByteArray) : Prop where
 le : n ≤ tx.length
 len : O.length ≤ 400000
 first : O[0]? = some emp ↔ Der g (tx.take n) s 0 n
 stop : n < tx.length → ¬ Der g tx s 0 tx.length ∧ ∀ y,tx[n]? = some y → y ≠ emp → y ∉ O
 more : ∀ (y : ByteArray) (H H' : AHeap) (r : AEnd),ViaR g s (tx.take n ++ [y]) H r H' → ∃ (m : Nat) (v : AV) (O' : List ByteArray),r = .ret (.tup [i64 (m : Int),v,i64 0]) ∧ OutV H' O' v ∧ (m = n + 1 ↔ y ∈ O ∧ y ≠ emp)
theorem outS_length (l : List ByteArray) : (outS l).length ≤ l.length:=by
 have h1 : ∀ (d : Array (List UInt8)) m,(Lib.compactUpTo d m).length ≤ m:=fun d m=>by
  unfold Lib.compactUpTo
  rw [List.length_map]
  exact Nat.le_trans (List.length_filter_le _ _) (by simp)
 unfold outS cmpS Lib.compact
 rw [List.length_map]
 refine Nat.le_trans (h1 _ _) ?_
 simp [srtS_length]
theorem via_facts {g : Gr} {s : ByteArray} {tx : List ByteArray} {H H' : AHeap} {r : AEnd} (hbd : BdG g tx) (hl : tx.length < 200) (h : ViaR g s tx H r H') (ha : askedF g s tx = 0) : ∃ (n : Nat) (O : List ByteArray) (v : AV),r = .ret (.tup [i64 (n : Int),v,i64 0]) ∧ OutV H' O v ∧ BegF g s tx n O:=by
 have hck:=(asked_check ha).1
 have ha' : ∀ (n : Nat) (y : ByteArray),n ≤ tx.length → askedF g s (tx.take n ++ [y]) = 0:=fun n y hn=>asked_take ha (by simp; omega)
 rcases h.2 with ⟨q1,_⟩ | ⟨_,S,hS,⟨q1,rfl⟩ | ⟨q1,Q,L,D,q2,q3,v,q4,rfl⟩⟩
 ·exact (q1 ha).elim
 ·refine ⟨0,[],_,rfl,.inl ⟨rfl,rfl⟩,Nat.zero_le _,by simp,⟨fun h=>by simp at h,fun hd=>(q1 (der_sort hS hd)).elim⟩,fun _=>⟨fun hd=>q1 (der_sort hS hd),fun y _ _=>by simp⟩,fun y K K' r' h'=>?_⟩
  rcases h'.2 with ⟨w1,_⟩ | ⟨_,S',hS',⟨w1,rfl⟩ | ⟨w1,_⟩⟩
  ·exact (w1 (ha' 0 y (Nat.zero_le _))).elim
  ·exact ⟨0,_,[],rfl,.inl ⟨rfl,rfl⟩,by simp⟩
  ·exact (q1 ((hS'.mem hS).1 w1)).elim
 ·have hbd' : BdG (viaG g s S) tx:=⟨hbd.r,hbd.p,hbd.n⟩
  have hbL:=snd_bound hbd' q2.li.sL q2.li.nd
  have hlen : (outS (outL g s Q.length L D)).length ≤ 400000:=by
   refine Nat.le_trans (outS_length _) ?_
   unfold outL
   have h1:=List.length_filterMap_le (follX g) L
   rw [List.length_append]
   split <;> simp <;> omega
  refine ⟨Q.length,_,v,rfl,q4,q2.li.n,hlen,outS_first.trans (Iff.trans ?_ (via_emp hck hS q2 q3)),via_stop hck hS q2 q3,fun y K K' r' h'=>?_⟩
  ·exact outS_mem.symm
  ·rcases h'.2 with ⟨w1,_⟩ | ⟨_,S',hS',⟨w1,rfl⟩ | ⟨w1,Q',L',D',w2,w3,v',w4,rfl⟩⟩
   ·exact (w1 (ha' Q.length y q2.li.n)).elim
   ·exact (w1 ((hS.mem hS').1 q1)).elim
   ·exact ⟨Q'.length,v',_,rfl,w4,via_more hck hS hS' q2 q3 w2 w3⟩
end Go.Apx
end
section
namespace Go.Apx
open Go.Proofs
set_option linter.unusedVariables false
set_option linter.unusedSimpArgs false
set_option linter.unnecessarySimpa false
set_option maxRecDepth 4000
def Kp (H H' : AHeap) : Prop:=∀ (z : Nat) (x : AObj),H[z]? = some x → H'[z]? = some x
theorem Kp.trans {a b c : AHeap} (h : Kp a b) (h' : Kp b c) : Kp a c:=fun z x hz=>h' z x (h z x hz)
theorem Kp.app (H J : AHeap) : Kp H (H ++ J):=fun z x hz=>by rw [List.getElem?_append_left (List.getElem?_eq_some_iff.1 hz).1]; exact hz
def CapK (H J : AHeap) (c : Cap) (n : Nat) : Prop:=(c = .full ∧ n = 0) ∨ ∃ T,c = .tok T ∧ H.length ≤ T ∧ (H ++ J)[T]? = some (.tok n)
theorem appCopy {C : Cx} {k b : Nat} {x y : Opd} {d : Option Nat} {env : Env} {H : AHeap} {K : Env → AHeap → Prop} (xs : List AV) (hx : evalOpd C.G env x = some (.sl k [] .full)) (hy : (evalOpd C.G env y).bind (elems H k) = some xs) (hm : xs.length ≤ maxLenA)
  (hK : ∀ c J,CapK H J c xs.length → K (putD env d (.sl k xs c)) (H ++ J)) : appW C k b x y d env H K:=by
 cases xs with
 | nil =>
  refine appFull0 [] hx hy ?_
  have:=hK .full [] (.inl ⟨rfl,rfl⟩)
  simpa using this
 | cons a xs =>
  refine appFull [] (a :: xs) hx hy (by simp) (by simpa using hm) ?_
  have:=hK (.tok H.length) [.tok (a :: xs).length] (.inr ⟨_,rfl,Nat.le_refl _,by simp⟩)
  simpa using this
theorem appOn {C : Cx} {k b : Nat} {x y : Opd} {d : Option Nat} {env : Env} {H J : AHeap} {K : Env → AHeap → Prop} {c : Cap} (xs : List AV) (v : AV) (hc : CapK H J c xs.length) (hx : evalOpd C.G env x = some (.sl k xs c)) (hy : (evalOpd C.G env y).bind (elems (H ++ J) k) = some [v]) (hm : xs.length + 1 ≤ maxLenA)
  (hK : ∀ c' J',K (putD env d (.sl k (xs ++ [v]) c')) (H ++ J')) : appW C k b x y d env (H ++ J) K:=by
 rcases hc with ⟨rfl,h0⟩ | ⟨T,rfl,h1,h2⟩
 ·refine appFull xs [v] hx hy (by simp) (by simpa using hm) ?_
  rw [List.append_assoc]
  exact hK _ _
 ·refine appTok xs v T hx hy h2 hm ?_
  rw [List.set_append_right _ _ h1]
  exact hK _ _
def inF (O : List ByteArray) (y : ByteArray) (i : Nat) : Bool:=decide (y ∈ O.take i) && !decide (y = emp)
@[simp] theorem inF_zero (O : List ByteArray) (y : ByteArray) : inF O y 0 = false:=by simp [inF]
theorem inF_all (O : List ByteArray) (y : ByteArray) : inF O y O.length = (decide (y ∈ O) && !decide (y = emp)):=by simp [inF]
theorem inF_step {O : List ByteArray} {i : Nat} {x : ByteArray} (y : ByteArray) (hx : O[i]? = some x) : inF O y (i + 1) = (inF O y i || (decide (x = y) && !decide (y = emp))):=by
 unfold inF
 rw [List.take_add_one,hx]
 by_cases h1 : x = y
 ·by_cases h2 : y = emp <;> by_cases h3 : y ∈ O.take i <;> simp [h1,h2,h3]
 ·by_cases h2 : y = emp <;> by_cases h3 : y ∈ O.take i <;> simp [h1,h2,h3,Ne.symm h1]
set_option maxHeartbeats 4000000 in
theorem EarleyBegins_c (g : Gr) (s : ByteArray) (tx : List ByteArray) (tc : Cap) (y : ByteArray) (hi : LawP g tx) (hss : s.size ≤ 2 ^ 31) (hua : ∀ R : Rl,g.us R = true) (hst : g.st = s) : AEx PP Gl 4 [encG g,.sc (.string s),.sl 1 (tx.map sv) tc,.sc (.string y)] [] (.ret (bl true)) []:=by
 refine enter_law14_EarleyBegins (by simp) ?_
 simp -implicitDefEqProofs [code_law14_EarleyBegins,res_law14_EarleyBegins,ann_law14_EarleyBegins,encG]
 refine callk (short_c g tx tc 6 hi) (by simp [encG]) rfl ?_
 cases hsf : shortF g tx 6 with
 | false =>
  simp -implicitDefEqProofs
  refine callk awake_c rfl rfl ?_
  simp -implicitDefEqProofs
  exact retE (by simp [deferred,dslot]) rfl rfl rfl
 | true =>
  by_cases c1 : (300 : Int) < s.size
  ·simp -implicitDefEqProofs [c1]
   refine callk awake_c rfl rfl ?_
   simp -implicitDefEqProofs
   exact retE (by simp [deferred,dslot]) rfl rfl rfl
  by_cases c2 : (6 : Int) < tx.length
  ·simp -implicitDefEqProofs [c1,c2]
   refine callk awake_c rfl rfl ?_
   simp -implicitDefEqProofs
   exact retE (by simp [deferred,dslot]) rfl rfl rfl
  simp -implicitDefEqProofs [c1,c2]
  have hsm : smallF g 10 5 = true:=by
   unfold shortF at hsf
   simp only [Bool.and_eq_true] at hsf
   exact hsf.1
  have hck0 : ∀ h : AHeap,AEx PP Gl 47 [encG g] h (.ret (i64 (checkF g))) h:=fun h=>check_c g (small_parts hsm) hi.sorts hi.rules
  refine callr (viable_c g s tx tc hi.sorts hi.rules hi.rparts hck0 (fun h=>short_bd (most:=0) hsm h)) (by simp [encG]) rfl ?_
  rintro r1 H1 p
  by_cases ha : askedF g s tx = 0
  case neg =>
   obtain ⟨_,⟨q1,rfl⟩ | ⟨q1,_⟩⟩:=p
   ·simp -implicitDefEqProofs [q1]
    refine callk awake_c rfl rfl ?_
    simp -implicitDefEqProofs
    exact retD (h0:=[]) (x:=H1) (by simp [deferred,dslot]) rfl rfl rfl rfl
   ·exact (ha q1).elim
  obtain ⟨n,O,v,rfl,hO,hB⟩:=via_facts (short_bd (most:=0) hsm ha) (by omega) p ha
  have hvp : v.isPend = false ∧ v.one = true:=by
   rcases hO with ⟨_,rfl⟩ | ⟨_,o,gn,rest,rc,rfl,_⟩ <;> exact ⟨rfl,rfl⟩
  have hnl:=hB.le
  have hOl:=hB.len
  have hn0 : (0 : Int) ≤ n:=by omega
  simp -implicitDefEqProofs [hvp.1,hvp.2,hnl]
  generalize (if n = tx.length then tc else if tc = Cap.full ∧ n = tx.length then Cap.full else Cap.any) = tc1
  have hat : askedF g s (tx.take n) = 0:=asked_take ha (by simp; omega)
  refine callr (eparse_c g s (tx.take n) tc1 (h:=H1) hi.sorts hck0 (fun h=>short_bd (most:=0) hsm h) hua hst) (by simp [encG]) rfl ?_
  intro r2 H2 p2
  obtain ⟨rfl,hpd⟩:=parse_der hua p2 hat
  have htl : (tx.take n).length = n:=by simp; omega
  rw [htl] at hpd
  have hsh : r2 = .ret (.tup [.agg [.sl 0 [] .nil],i64 15]) ∨ ∃ B e,r2 = .ret (.tup [.agg [B],i64 e]) ∧ B.isPend = false ∧ B.one = true ∧ e ≠ 15 ∧ (e = 0 ↔ O[0]? = some emp):=by
   rcases hpd with ⟨hd,rfl | ⟨ns,rfl⟩⟩ | ⟨hd,rfl⟩
   ·exact .inl rfl
   ·exact .inr ⟨_,0,rfl,rfl,rfl,by omega,by simp [hB.first.2 hd]⟩
   ·exact .inr ⟨_,160,rfl,rfl,rfl,by omega,⟨fun h=>by omega,fun h=>(hd (hB.first.1 h)).elim⟩⟩
  rcases hsh with rfl | ⟨B,e,rfl,hB1,hB2,he15,hiff⟩
  ·simp -implicitDefEqProofs
   refine callk awake_c rfl rfl ?_
   simp -implicitDefEqProofs
   exact retD (h0:=[]) (x:=H2) (by simp [deferred,dslot]) rfl rfl rfl rfl
  have hna : ∀ z : ByteArray,askedF g s (tx.take n ++ [z]) = 0:=fun z=>asked_take ha (by simp; omega)
  have hvia : ∀ (z : ByteArray) (cc : Cap) (K : AHeap),ACalls PP Gl 14 [encG g,.sc (.string s),.sl 1 ((tx.take n ++ [z]).map sv) cc] K (ViaR g s (tx.take n ++ [z]) K):=fun z cc K=>viable_c g s _ cc hi.sorts hi.rules hi.rparts hck0 (fun h=>short_bd (most:=0) hsm h)
  have hn0' : ¬ (n : Int) < 0:=by omega
  have hnl' : ¬ (tx.length : Int) < n:=by omega
  have hn6 : n ≤ 6:=by omega
  have w1 : IntKind.i64.wrap ((n : Int) + 1) = (n : Int) + 1:=IntWalk.i64_in _ (by omega)
  rcases hO with ⟨rfl,rfl⟩ | ⟨hOne,o,gn,rest,rc,rfl,hcell⟩
  ·have he0 : e ≠ 0:=fun h=>by have:=hiff.1 h; simp at this
   by_cases hlt : n < tx.length
   ·have hlt' : (n : Int) < tx.length:=by omega
    simp -implicitDefEqProofs [hB1,hB2,he15,he0,hn0',hnl',hlt']
    refine callr (eparse_c g s tx tc (h:=H2) hi.sorts hck0 (fun h=>short_bd (most:=0) hsm h) hua hst) (by simp [encG]) rfl ?_
    intro r3 H3 p3
    obtain ⟨rfl,hp3⟩:=parse_der hua p3 ha
    rcases hp3 with ⟨hd,_⟩ | ⟨_,rfl⟩
    ·exact ((hB.stop hlt).1 hd).elim
    simp -implicitDefEqProofs
    refine AWp.cnt 0 [1,2,3,4,9,10] (fun i=>[(16,i64 (i : Int))]) (fun _=>H3) (fun _=>True) mixed trivial (le_of (by simp [dslot])) rfl (fun i hi _=>absurd hi (by omega)) fun _=>?_
    simp -implicitDefEqProofs [lp0_law14_EarleyBegins]
    refine AWp.cnt 0 [1,2,3,4,9,10] (fun i=>[(17,bl false),(18,i64 (i : Int))]) (fun _=>H3) (fun _=>True) mixed trivial (le_of (by simp [dslot])) rfl (fun i hi _=>absurd hi (by omega)) fun _=>?_
    simp -implicitDefEqProofs [lp1_law14_EarleyBegins,hnl]
    generalize (if n = tx.length then tc else if tc = Cap.full ∧ n = tx.length then Cap.full else Cap.any) = tc2
    refine appCopy ((tx.take n).map sv) (by simp) (by simp [elems]) (by simp; unfold maxLenA; omega) fun c1 J1 hc1=>?_
    simp -implicitDefEqProofs
    refine appOn ((tx.take n).map sv) (sv y) hc1 (by simp) (by simp [elems,sv]) (by simp; unfold maxLenA; omega) fun c2 J2=>?_
    simp -implicitDefEqProofs
    refine callr (hvia y c2 (H3 ++ J2)) (by simp [encG,sv]) rfl ?_
    rintro r4 H4 p4
    obtain ⟨m,v4,O4,rfl,hO4,hm⟩:=hB.more y _ _ _ p4
    have hv4 : v4.isPend = false ∧ v4.one = true:=by
     rcases hO4 with ⟨_,rfl⟩ | ⟨_,o,gn,rest,rc,rfl,_⟩ <;> exact ⟨rfl,rfl⟩
    have hmn : ¬ (m : Int) = n + 1:=fun hh=>by have:=hm.1 (by omega); simp at this
    simp -implicitDefEqProofs [hv4.1,hv4.2,w1,hmn]
    refine callk awake_c rfl rfl ?_
    simp -implicitDefEqProofs
    exact retD (h0:=[]) (x:=H4) (by simp [deferred,dslot]) rfl rfl rfl rfl
   ·have hlt' : ¬ (n : Int) < tx.length:=by omega
    simp -implicitDefEqProofs [hB1,hB2,he15,he0,hn0',hnl',hlt']
    refine AWp.cnt 0 [1,2,3,4,9,10] (fun i=>[(17,bl false),(18,i64 (i : Int))]) (fun _=>H2) (fun _=>True) mixed trivial (le_of (by simp [dslot])) rfl (fun i hi _=>absurd hi (by omega)) fun _=>?_
    simp -implicitDefEqProofs [lp1_law14_EarleyBegins,hnl]
    generalize (if n = tx.length then tc else if tc = Cap.full ∧ n = tx.length then Cap.full else Cap.any) = tc2
    refine appCopy ((tx.take n).map sv) (by simp) (by simp [elems]) (by simp; unfold maxLenA; omega) fun c1 J1 hc1=>?_
    simp -implicitDefEqProofs
    refine appOn ((tx.take n).map sv) (sv y) hc1 (by simp) (by simp [elems,sv]) (by simp; unfold maxLenA; omega) fun c2 J2=>?_
    simp -implicitDefEqProofs
    refine callr (hvia y c2 (H2 ++ J2)) (by simp [encG,sv]) rfl ?_
    rintro r4 H4 p4
    obtain ⟨m,v4,O4,rfl,hO4,hm⟩:=hB.more y _ _ _ p4
    have hv4 : v4.isPend = false ∧ v4.one = true:=by
     rcases hO4 with ⟨_,rfl⟩ | ⟨_,o,gn,rest,rc,rfl,_⟩ <;> exact ⟨rfl,rfl⟩
    have hmn : ¬ (m : Int) = n + 1:=fun hh=>by have:=hm.1 (by omega); simp at this
    simp -implicitDefEqProofs [hv4.1,hv4.2,w1,hmn]
    refine callk awake_c rfl rfl ?_
    simp -implicitDefEqProofs
    exact retD (h0:=[]) (x:=H4) (by simp [deferred,dslot]) rfl rfl rfl rfl
  ·have hpos : 0 < O.length:=List.length_pos_iff.2 hOne
   obtain ⟨x0,hx0⟩ : ∃ x0,O[0]? = some x0:=⟨O[0],by simp [hpos]⟩
   have hx02 : (O.map sv ++ rest)[0]? = some (sv x0):=by rw [List.getElem?_append_left (by simpa using hpos)]; simp [hx0]
   have hee : decide (e = 0) = decide (x0 = emp):=by
    rw [hx0] at hiff; simp at hiff; simp [hiff]
   by_cases hlt : n < tx.length
   ·have hlt' : (n : Int) < tx.length:=by omega
    simp -implicitDefEqProofs [hB1,hB2,he15,hpos,hee,hcell,hx02,hx0,hn0',hnl',hlt']
    refine callr (eparse_c g s tx tc (h:=H2) hi.sorts hck0 (fun h=>short_bd (most:=0) hsm h) hua hst) (by simp [encG]) rfl ?_
    intro r3 H3 p3
    obtain ⟨rfl,hp3⟩:=parse_der hua p3 ha
    rcases hp3 with ⟨hd,_⟩ | ⟨_,rfl⟩
    ·exact ((hB.stop hlt).1 hd).elim
    simp -implicitDefEqProofs
    obtain ⟨u,hu⟩ : ∃ u,tx[n]? = some u:=⟨tx[n],by simp [hlt]⟩
    refine AWp.cnt O.length [1,2,3,4,9,10] (fun i=>[(16,i64 (i : Int))]) (fun _=>H3) (fun _=>True) mixed trivial (le_of (by simp [dslot])) rfl (fun i hi _=>?_) fun _=>?_
    ·obtain ⟨x,hx⟩ : ∃ x,O[i]? = some x:=⟨O[i],by simp [hi]⟩
     have hxm:=List.mem_of_getElem? hx
     have hilt : (i : Int) < O.length:=by omega
     have wi : IntKind.i64.wrap ((i : Int) + 1) = (i : Int) + 1:=IntWalk.i64_in _ (by omega)
     have hx2 : (O.map sv ++ rest)[i]? = some (sv x):=by rw [List.getElem?_append_left (by simpa using hi)]; simp [hx]
     have hno : ¬ (x = u ∧ x ≠ emp):=fun ⟨h1,h2⟩=>(hB.stop hlt).2 u hu (h1 ▸ h2) (h1 ▸ hxm)
     have hu2 : tx[n] = u:=(List.getElem?_eq_some_iff.1 hu).2
     by_cases hxu : x = u
     ·have hue : x = (⟨#[]⟩ : ByteArray):=Decidable.byContradiction fun hh=>hno ⟨hxu,hh⟩
      subst hue
      simp -implicitDefEqProofs [lp0_law14_EarleyBegins,hilt,hcell,hx2,hi,hx,hu,hu2,← hxu,hlt,wi]
      exact le_of (by simp [dslot])
     ·simp -implicitDefEqProofs [lp0_law14_EarleyBegins,hilt,hcell,hx2,hi,hx,hu,hu2,hxu,hlt,wi]
      exact le_of (by simp [dslot])
    simp -implicitDefEqProofs [lp0_law14_EarleyBegins]
    refine AWp.till (S:=Nat × AHeap) (0,H3) (fun q=>O.length - q.1) [1,2,3,4,9,10] (fun q=>[(17,bl (inF O y q.1)),(18,i64 (q.1 : Int))]) (fun q=>q.2) (fun q=>q.1 ≤ O.length ∧ Kp H3 q.2) mixed ⟨Nat.zero_le _,fun z x hz=>hz⟩ (le_of (by simp [dslot])) rfl ?_
    rintro ⟨i,K⟩ ⟨z1,z2⟩
    simp only at z1 z2
    have hcK:=z2 _ _ hcell
    by_cases hi : i < O.length
    case neg =>
     have hilt : ¬ (i : Int) < O.length:=by omega
     have hie : i = O.length:=by omega
     subst hie
     simp -implicitDefEqProofs [lp1_law14_EarleyBegins,hnl]
     generalize (if n = tx.length then tc else if tc = Cap.full ∧ n = tx.length then Cap.full else Cap.any) = tc2
     refine appCopy ((tx.take n).map sv) (by simp) (by simp [elems]) (by simp; unfold maxLenA; omega) fun c1 J1 hc1=>?_
     simp -implicitDefEqProofs
     refine appOn ((tx.take n).map sv) (sv y) hc1 (by simp) (by simp [elems,sv]) (by simp; unfold maxLenA; omega) fun c2 J2=>?_
     simp -implicitDefEqProofs
     refine callr (hvia y c2 (K ++ J2)) (by simp [encG,sv]) rfl ?_
     rintro r4 H4 p4
     obtain ⟨m,v4,O4,rfl,hO4,hm⟩:=hB.more y _ _ _ p4
     have hv4 : v4.isPend = false ∧ v4.one = true:=by
      rcases hO4 with ⟨_,rfl⟩ | ⟨_,o,gn,rest,rc,rfl,_⟩ <;> exact ⟨rfl,rfl⟩
     have hin : decide ((m : Int) = n + 1) = inF O y O.length:=by
      rw [inF_all,Bool.eq_iff_iff]
      simp only [decide_eq_true_eq,Bool.and_eq_true,Bool.not_eq_true',decide_eq_false_iff_not]
      rw [← hm]; omega
     simp -implicitDefEqProofs [hv4.1,hv4.2,w1,hin]
     refine callk awake_c rfl rfl ?_
     simp -implicitDefEqProofs
     exact retD (h0:=[]) (x:=H4) (by simp [deferred,dslot]) rfl rfl rfl rfl
    obtain ⟨x,hx⟩ : ∃ x,O[i]? = some x:=⟨O[i],by simp [hi]⟩
    have hxm:=List.mem_of_getElem? hx
    have hilt : (i : Int) < O.length:=by omega
    have wi : IntKind.i64.wrap ((i : Int) + 1) = (i : Int) + 1:=IntWalk.i64_in _ (by omega)
    have hx2 : (O.map sv ++ rest)[i]? = some (sv x):=by rw [List.getElem?_append_left (by simpa using hi)]; simp [hx]
    have hins:=inF_step y hx
    have hcJ : ∀ J : AHeap,(K ++ J)[o]? = some (.cells gn (O.map sv ++ rest)):=fun J=>Kp.app K J _ _ hcK
    cases hin : inF O y i with
    | true =>
     by_cases hxe : x = (⟨#[]⟩ : ByteArray)
     ·subst hxe
      simp -implicitDefEqProofs [lp1_law14_EarleyBegins,hilt,hcK,hx2,hi,hx,hnl,wi,hin]
      exact ⟨i + 1,by omega,⟨by omega,z2⟩,le_of (by simp [dslot,hins,hin])⟩
     ·skip
      simp -implicitDefEqProofs [lp1_law14_EarleyBegins,hilt,hcK,hx2,hi,hx,hnl,wi,hin,hxe]
      generalize (if n = tx.length then tc else if tc = Cap.full ∧ n = tx.length then Cap.full else Cap.any) = tc2
      refine appCopy ((tx.take n).map sv) (by simp) (by simp [elems]) (by simp; unfold maxLenA; omega) fun c1 J1 hc1=>?_
      simp -implicitDefEqProofs [hcJ,hx2,hx,hi]
      refine appOn ((tx.take n).map sv) (sv x) hc1 (by simp) (by simp [elems,sv]) (by simp; unfold maxLenA; omega) fun c2 J2=>?_
      simp -implicitDefEqProofs [hcJ,hx2,hx,hi]
      refine callr (hvia x c2 (K ++ J2)) (by simp [encG,sv]) rfl ?_
      rintro r4 H4 p4
      obtain ⟨m,v4,O4,rfl,hO4,hm⟩:=hB.more x _ _ _ p4
      have hv4 : v4.isPend = false ∧ v4.one = true:=by
       rcases hO4 with ⟨_,rfl⟩ | ⟨_,o,gn,rest,rc,rfl,_⟩ <;> exact ⟨rfl,rfl⟩
      have hmn : m = n + 1:=hm.2 ⟨hxm,hxe⟩
      subst hmn
      simp -implicitDefEqProofs [hv4.1,hv4.2,w1,wi]
      exact ⟨i + 1,by omega,⟨by omega,(z2.trans (Kp.app K J2)).trans p4.1⟩,le_of (by simp [dslot,hins,hin,hxe])⟩
    | false =>
     by_cases hxy : x = y
     ·subst hxy
      by_cases hxe : x = (⟨#[]⟩ : ByteArray)
      ·subst hxe
       simp -implicitDefEqProofs [lp1_law14_EarleyBegins,hilt,hcK,hx2,hi,hx,hnl,wi,hin]
       exact ⟨i + 1,by omega,⟨by omega,z2⟩,le_of (by simp [dslot,hins,hin])⟩
      ·skip
       simp -implicitDefEqProofs [lp1_law14_EarleyBegins,hilt,hcK,hx2,hi,hx,hnl,wi,hin,hxe]
       generalize (if n = tx.length then tc else if tc = Cap.full ∧ n = tx.length then Cap.full else Cap.any) = tc2
       refine appCopy ((tx.take n).map sv) (by simp) (by simp [elems]) (by simp; unfold maxLenA; omega) fun c1 J1 hc1=>?_
       simp -implicitDefEqProofs [hcJ,hx2,hx,hi]
       refine appOn ((tx.take n).map sv) (sv x) hc1 (by simp) (by simp [elems,sv]) (by simp; unfold maxLenA; omega) fun c2 J2=>?_
       simp -implicitDefEqProofs [hcJ,hx2,hx,hi]
       refine callr (hvia x c2 (K ++ J2)) (by simp [encG,sv]) rfl ?_
       rintro r4 H4 p4
       obtain ⟨m,v4,O4,rfl,hO4,hm⟩:=hB.more x _ _ _ p4
       have hv4 : v4.isPend = false ∧ v4.one = true:=by
        rcases hO4 with ⟨_,rfl⟩ | ⟨_,o,gn,rest,rc,rfl,_⟩ <;> exact ⟨rfl,rfl⟩
       have hmn : m = n + 1:=hm.2 ⟨hxm,hxe⟩
       subst hmn
       simp -implicitDefEqProofs [hv4.1,hv4.2,w1,wi]
       exact ⟨i + 1,by omega,⟨by omega,(z2.trans (Kp.app K J2)).trans p4.1⟩,le_of (by simp [dslot,hins,hin,hxe])⟩
     ·by_cases hxe : x = (⟨#[]⟩ : ByteArray)
      ·subst hxe
       simp -implicitDefEqProofs [lp1_law14_EarleyBegins,hilt,hcK,hx2,hi,hx,hnl,wi,hin,hxy]
       exact ⟨i + 1,by omega,⟨by omega,z2⟩,le_of (by simp [dslot,hins,hin,hxy])⟩
      ·skip
       simp -implicitDefEqProofs [lp1_law14_EarleyBegins,hilt,hcK,hx2,hi,hx,hnl,wi,hin,hxy,hxe]
       generalize (if n = tx.length then tc else if tc = Cap.full ∧ n = tx.length then Cap.full else Cap.any) = tc2
       refine appCopy ((tx.take n).map sv) (by simp) (by simp [elems]) (by simp; unfold maxLenA; omega) fun c1 J1 hc1=>?_
       simp -implicitDefEqProofs [hcJ,hx2,hx,hi]
       refine appOn ((tx.take n).map sv) (sv x) hc1 (by simp) (by simp [elems,sv]) (by simp; unfold maxLenA; omega) fun c2 J2=>?_
       simp -implicitDefEqProofs [hcJ,hx2,hx,hi]
       refine callr (hvia x c2 (K ++ J2)) (by simp [encG,sv]) rfl ?_
       rintro r4 H4 p4
       obtain ⟨m,v4,O4,rfl,hO4,hm⟩:=hB.more x _ _ _ p4
       have hv4 : v4.isPend = false ∧ v4.one = true:=by
        rcases hO4 with ⟨_,rfl⟩ | ⟨_,o,gn,rest,rc,rfl,_⟩ <;> exact ⟨rfl,rfl⟩
       have hmn : m = n + 1:=hm.2 ⟨hxm,hxe⟩
       subst hmn
       simp -implicitDefEqProofs [hv4.1,hv4.2,w1,wi]
       exact ⟨i + 1,by omega,⟨by omega,(z2.trans (Kp.app K J2)).trans p4.1⟩,le_of (by simp [dslot,hins,hin,hxy,hxe])⟩
   ·have hlt' : ¬ (n : Int) < tx.length:=by omega
    simp -implicitDefEqProofs [hB1,hB2,he15,hpos,hee,hcell,hx02,hx0,hn0',hnl',hlt']
    refine AWp.till (S:=Nat × AHeap) (0,H2) (fun q=>O.length - q.1) [1,2,3,4,9,10] (fun q=>[(17,bl (inF O y q.1)),(18,i64 (q.1 : Int))]) (fun q=>q.2) (fun q=>q.1 ≤ O.length ∧ Kp H2 q.2) mixed ⟨Nat.zero_le _,fun z x hz=>hz⟩ (le_of (by simp [dslot])) rfl ?_
    rintro ⟨i,K⟩ ⟨z1,z2⟩
    simp only at z1 z2
    have hcK:=z2 _ _ hcell
    by_cases hi : i < O.length
    case neg =>
     have hilt : ¬ (i : Int) < O.length:=by omega
     have hie : i = O.length:=by omega
     subst hie
     simp -implicitDefEqProofs [lp1_law14_EarleyBegins,hnl]
     generalize (if n = tx.length then tc else if tc = Cap.full ∧ n = tx.length then Cap.full else Cap.any) = tc2
     refine appCopy ((tx.take n).map sv) (by simp) (by simp [elems]) (by simp; unfold maxLenA; omega) fun c1 J1 hc1=>?_
     simp -implicitDefEqProofs
     refine appOn ((tx.take n).map sv) (sv y) hc1 (by simp) (by simp [elems,sv]) (by simp; unfold maxLenA; omega) fun c2 J2=>?_
     simp -implicitDefEqProofs
     refine callr (hvia y c2 (K ++ J2)) (by simp [encG,sv]) rfl ?_
     rintro r4 H4 p4
     obtain ⟨m,v4,O4,rfl,hO4,hm⟩:=hB.more y _ _ _ p4
     have hv4 : v4.isPend = false ∧ v4.one = true:=by
      rcases hO4 with ⟨_,rfl⟩ | ⟨_,o,gn,rest,rc,rfl,_⟩ <;> exact ⟨rfl,rfl⟩
     have hin : decide ((m : Int) = n + 1) = inF O y O.length:=by
      rw [inF_all,Bool.eq_iff_iff]
      simp only [decide_eq_true_eq,Bool.and_eq_true,Bool.not_eq_true',decide_eq_false_iff_not]
      rw [← hm]; omega
     simp -implicitDefEqProofs [hv4.1,hv4.2,w1,hin]
     refine callk awake_c rfl rfl ?_
     simp -implicitDefEqProofs
     exact retD (h0:=[]) (x:=H4) (by simp [deferred,dslot]) rfl rfl rfl rfl
    obtain ⟨x,hx⟩ : ∃ x,O[i]? = some x:=⟨O[i],by simp [hi]⟩
    have hxm:=List.mem_of_getElem? hx
    have hilt : (i : Int) < O.length:=by omega
    have wi : IntKind.i64.wrap ((i : Int) + 1) = (i : Int) + 1:=IntWalk.i64_in _ (by omega)
    have hx2 : (O.map sv ++ rest)[i]? = some (sv x):=by rw [List.getElem?_append_left (by simpa using hi)]; simp [hx]
    have hins:=inF_step y hx
    have hcJ : ∀ J : AHeap,(K ++ J)[o]? = some (.cells gn (O.map sv ++ rest)):=fun J=>Kp.app K J _ _ hcK
    cases hin : inF O y i with
    | true =>
     by_cases hxe : x = (⟨#[]⟩ : ByteArray)
     ·subst hxe
      simp -implicitDefEqProofs [lp1_law14_EarleyBegins,hilt,hcK,hx2,hi,hx,hnl,wi,hin]
      exact ⟨i + 1,by omega,⟨by omega,z2⟩,le_of (by simp [dslot,hins,hin])⟩
     ·skip
      simp -implicitDefEqProofs [lp1_law14_EarleyBegins,hilt,hcK,hx2,hi,hx,hnl,wi,hin,hxe]
      generalize (if n = tx.length then tc else if tc = Cap.full ∧ n = tx.length then Cap.full else Cap.any) = tc2
      refine appCopy ((tx.take n).map sv) (by simp) (by simp [elems]) (by simp; unfold maxLenA; omega) fun c1 J1 hc1=>?_
      simp -implicitDefEqProofs [hcJ,hx2,hx,hi]
      refine appOn ((tx.take n).map sv) (sv x) hc1 (by simp) (by simp [elems,sv]) (by simp; unfold maxLenA; omega) fun c2 J2=>?_
      simp -implicitDefEqProofs [hcJ,hx2,hx,hi]
      refine callr (hvia x c2 (K ++ J2)) (by simp [encG,sv]) rfl ?_
      rintro r4 H4 p4
      obtain ⟨m,v4,O4,rfl,hO4,hm⟩:=hB.more x _ _ _ p4
      have hv4 : v4.isPend = false ∧ v4.one = true:=by
       rcases hO4 with ⟨_,rfl⟩ | ⟨_,o,gn,rest,rc,rfl,_⟩ <;> exact ⟨rfl,rfl⟩
      have hmn : m = n + 1:=hm.2 ⟨hxm,hxe⟩
      subst hmn
      simp -implicitDefEqProofs [hv4.1,hv4.2,w1,wi]
      exact ⟨i + 1,by omega,⟨by omega,(z2.trans (Kp.app K J2)).trans p4.1⟩,le_of (by simp [dslot,hins,hin,hxe])⟩
    | false =>
     by_cases hxy : x = y
     ·subst hxy
      by_cases hxe : x = (⟨#[]⟩ : ByteArray)
      ·subst hxe
       simp -implicitDefEqProofs [lp1_law14_EarleyBegins,hilt,hcK,hx2,hi,hx,hnl,wi,hin]
       exact ⟨i + 1,by omega,⟨by omega,z2⟩,le_of (by simp [dslot,hins,hin])⟩
      ·skip
       simp -implicitDefEqProofs [lp1_law14_EarleyBegins,hilt,hcK,hx2,hi,hx,hnl,wi,hin,hxe]
       generalize (if n = tx.length then tc else if tc = Cap.full ∧ n = tx.length then Cap.full else Cap.any) = tc2
       refine appCopy ((tx.take n).map sv) (by simp) (by simp [elems]) (by simp; unfold maxLenA; omega) fun c1 J1 hc1=>?_
       simp -implicitDefEqProofs [hcJ,hx2,hx,hi]
       refine appOn ((tx.take n).map sv) (sv x) hc1 (by simp) (by simp [elems,sv]) (by simp; unfold maxLenA; omega) fun c2 J2=>?_
       simp -implicitDefEqProofs [hcJ,hx2,hx,hi]
       refine callr (hvia x c2 (K ++ J2)) (by simp [encG,sv]) rfl ?_
       rintro r4 H4 p4
       obtain ⟨m,v4,O4,rfl,hO4,hm⟩:=hB.more x _ _ _ p4
       have hv4 : v4.isPend = false ∧ v4.one = true:=by
        rcases hO4 with ⟨_,rfl⟩ | ⟨_,o,gn,rest,rc,rfl,_⟩ <;> exact ⟨rfl,rfl⟩
       have hmn : m = n + 1:=hm.2 ⟨hxm,hxe⟩
       subst hmn
       simp -implicitDefEqProofs [hv4.1,hv4.2,w1,wi]
       exact ⟨i + 1,by omega,⟨by omega,(z2.trans (Kp.app K J2)).trans p4.1⟩,le_of (by simp [dslot,hins,hin,hxe])⟩
     ·by_cases hxe : x = (⟨#[]⟩ : ByteArray)
      ·subst hxe
       simp -implicitDefEqProofs [lp1_law14_EarleyBegins,hilt,hcK,hx2,hi,hx,hnl,wi,hin,hxy]
       exact ⟨i + 1,by omega,⟨by omega,z2⟩,le_of (by simp [dslot,hins,hin,hxy])⟩
      ·skip
       simp -implicitDefEqProofs [lp1_law14_EarleyBegins,hilt,hcK,hx2,hi,hx,hnl,wi,hin,hxy,hxe]
       generalize (if n = tx.length then tc else if tc = Cap.full ∧ n = tx.length then Cap.full else Cap.any) = tc2
       refine appCopy ((tx.take n).map sv) (by simp) (by simp [elems]) (by simp; unfold maxLenA; omega) fun c1 J1 hc1=>?_
       simp -implicitDefEqProofs [hcJ,hx2,hx,hi]
       refine appOn ((tx.take n).map sv) (sv x) hc1 (by simp) (by simp [elems,sv]) (by simp; unfold maxLenA; omega) fun c2 J2=>?_
       simp -implicitDefEqProofs [hcJ,hx2,hx,hi]
       refine callr (hvia x c2 (K ++ J2)) (by simp [encG,sv]) rfl ?_
       rintro r4 H4 p4
       obtain ⟨m,v4,O4,rfl,hO4,hm⟩:=hB.more x _ _ _ p4
       have hv4 : v4.isPend = false ∧ v4.one = true:=by
        rcases hO4 with ⟨_,rfl⟩ | ⟨_,o,gn,rest,rc,rfl,_⟩ <;> exact ⟨rfl,rfl⟩
       have hmn : m = n + 1:=hm.2 ⟨hxm,hxe⟩
       subst hmn
       simp -implicitDefEqProofs [hv4.1,hv4.2,w1,wi]
       exact ⟨i + 1,by omega,⟨by omega,(z2.trans (Kp.app K J2)).trans p4.1⟩,le_of (by simp [dslot,hins,hin,hxy,hxe])⟩
end Go.Apx
end
