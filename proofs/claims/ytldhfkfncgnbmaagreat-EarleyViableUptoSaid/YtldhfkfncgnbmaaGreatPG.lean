/- Plain law: sorted and compacted lists. -/
import Derived.Test.YtldhfkfncgnbmaaGreatPE
import Derived.Test.YtldhfkfncgnbmaaGreatAmG
import Derived.Test.YtldhfkfncgnbmaaGreatLays
import Derived.Test.YtldhfkfncgnbmaaGreatEB
import Derived.Test.YtldhfkfncgnbmaaGreatAw
section
namespace Go.Apx
open Go.Proofs
set_option linter.unusedVariables false
set_option linter.unusedSimpArgs false
set_option linter.unnecessarySimpa false
set_option maxRecDepth 4000
theorem srtS_perm (l : List ByteArray) : (srtS l).Perm l:=by
 have h:=(List.mergeSort_perm (l.map bytesL) fun x y=>decide (x ≤ y)).map strL
 rw [List.map_map] at h
 have e : l.map (strL ∘ bytesL) = l:=(List.map_congr_left fun x _=>strL_bytesL x).trans (List.map_id l)
 rw [e] at h
 exact h
theorem srtS_mem {l : List ByteArray} {s : ByteArray} : s ∈ srtS l ↔ s ∈ l:=(srtS_perm l).mem_iff
theorem lecomp (a b : List UInt8) : (decide (a ≤ b) || decide (b ≤ a)) = true:=by
 rcases List.le_total a b with h | h <;> simp [h]
theorem upTo_mem {α : Type} [Inhabited α] [DecidableEq α] (d : Array α) (x : α) : ∀ m,x ∈ Lib.compactUpTo d m ↔ ∃ j,j < m ∧ d[j]! = x
 | 0=>by simp [Lib.compactUpTo]
 | m + 1=>by
  rw [Lib.compactUpTo_succ,List.mem_append,upTo_mem d x m]
  by_cases hk : Lib.keeps d m = true
  ·simp only [hk,if_true,List.mem_singleton]
   constructor
   ·rintro (⟨j,h1,h2⟩ | rfl)
    ·exact ⟨j,by omega,h2⟩
    ·exact ⟨m,by omega,rfl⟩
   ·rintro ⟨j,h1,h2⟩
    rcases Nat.lt_or_eq_of_le (Nat.le_of_lt_succ h1) with h3 | rfl
    ·exact .inl ⟨j,h3,h2⟩
    ·exact .inr h2.symm
  ·simp only [hk,List.not_mem_nil,or_false]
   simp only [Lib.keeps,decide_eq_true_eq,not_or,Decidable.not_not] at hk
   constructor
   ·rintro (⟨j,h1,h2⟩ | h)
    ·exact ⟨j,by omega,h2⟩
    ·simp at h
   ·rintro ⟨j,h1,h2⟩
    rcases Nat.lt_or_eq_of_le (Nat.le_of_lt_succ h1) with h3 | rfl
    ·exact .inl ⟨j,h3,h2⟩
    ·exact .inl ⟨j - 1,by omega,by rw [← hk.2]; exact h2⟩
theorem cmpS_mem {l : List ByteArray} {s : ByteArray} : s ∈ cmpS l ↔ s ∈ l:=by
 unfold cmpS Lib.compact
 constructor
 ·intro h
  obtain ⟨x,hx,rfl⟩:=List.mem_map.1 h
  obtain ⟨j,hj,hx⟩:=(upTo_mem _ _ _).1 hx
  have hj' : j < l.length:=by simpa using hj
  rw [getElem!_pos _ j (by simpa using hj')] at hx
  simp at hx
  rw [← hx,strL_bytesL]
  exact List.getElem_mem hj'
 ·intro h
  obtain ⟨j,hj⟩:=List.getElem?_of_mem h
  have hj':=(List.getElem?_eq_some_iff.1 hj).1
  refine List.mem_map.2 ⟨bytesL s,(upTo_mem _ _ _).2 ⟨j,by simpa using hj',?_⟩,strL_bytesL s⟩
  rw [getElem!_pos _ j (by simpa using hj')]
  simp [(List.getElem?_eq_some_iff.1 hj).2]
def outS (l : List ByteArray) : List ByteArray:=cmpS (srtS l)
theorem outS_mem {l : List ByteArray} {s : ByteArray} : s ∈ outS l ↔ s ∈ l:=cmpS_mem.trans srtS_mem
end Go.Apx
end
section
namespace Go.Apx
open Go.Proofs
set_option linter.unusedVariables false
set_option linter.unusedSimpArgs false
set_option linter.unnecessarySimpa false
set_option maxRecDepth 4000
def outVal (o : Nat) (l : List ByteArray) : AV:=if l = [] then .sl 0 [] .nil else .rf o (l.length - 1) 0 l.length (.own 1)
def outH (H : AHeap) (l : List ByteArray) : AHeap:=if l = [] then H else H ++ [.cells (l.length - 1) (l.map sv)]
theorem outH_get {H : AHeap} {l : List ByteArray} {z : Nat} {x : AObj} (h : H[z]? = some x) : (outH H l)[z]? = some x:=by
 unfold outH
 split
 ·exact h
 ·rw [List.getElem?_append_left (List.getElem?_eq_some_iff.1 h).1]; exact h
@[simp] theorem isPend_outVal (o : Nat) (l : List ByteArray) : (outVal o l).isPend = false:=by unfold outVal; split <;> rfl
@[simp] theorem one_outVal (o : Nat) (l : List ByteArray) : (outVal o l).one = true:=by unfold outVal; split <;> rfl
theorem outVal_cons (o : Nat) (l : List ByteArray) (n : Nat) (h : l.length = n + 1) : outVal o l = .rf o n 0 (n + 1) (.own 1):=by
 unfold outVal
 rw [if_neg (by rintro rfl; simp at h),h]; rfl
theorem outH_cons (H : AHeap) (l : List ByteArray) (n : Nat) (h : l.length = n + 1) : outH H l = H ++ [.cells n (l.map sv)]:=by
 unfold outH
 rw [if_neg (by rintro rfl; simp at h),h]; rfl
theorem outVal_nil (o : Nat) : outVal o [] = .sl 0 [] .nil:=rfl
theorem outH_nil (H : AHeap) : outH H [] = H:=rfl
def follX (g : Gr) (x : Itm) : Option ByteArray:=match nextF g x with
 | some p=>if p.sort = emp then some p.sym else none
 | none=>none
def outL (g : Gr) (s : ByteArray) (n : Nat) (L : List Itm) (D : List Sp) : List ByteArray:=(if (⟨s,0,n⟩ : Sp) ∈ D then [emp] else []) ++ L.filterMap (follX g)
def viaG (g : Gr) (s : ByteArray) (S : List ByteArray) : Gr:={ g with us:=usF (pickS g S),st:=s }
def OutV (H : AHeap) (l : List ByteArray) (v : AV) : Prop:=(l = [] ∧ v = .sl 0 [] .nil) ∨ (l ≠ [] ∧ ∃ o gn rest rc,v = .rf o gn 0 l.length rc ∧ H[o]? = some (.cells gn (l.map sv ++ rest)))
def ViaR (g : Gr) (s : ByteArray) (tx : List ByteArray) (h : AHeap) (r : AEnd) (h' : AHeap) : Prop :=
 (∀ (z : Nat) (x : AObj),h[z]? = some x → h'[z]? = some x) ∧
 ((askedF g s tx ≠ 0 ∧ r = .ret (.tup [i64 0,.sl 0 [] .nil,i64 (askedF g s tx)])) ∨
  (askedF g s tx = 0 ∧ ∃ S,GrowS g yesP S ∧
   ((s ∉ S ∧ r = .ret (.tup [i64 0,.sl 0 [] .nil,i64 0])) ∨
   (s ∈ S ∧ ∃ Q L D,NF (viaG g s S) tx s Q L D ∧ (Q.length = tx.length ∨ scanF (viaG g s S) tx Q.length L = []) ∧
    ∃ v,OutV h' (outS (outL g s Q.length L D)) v ∧ r = .ret (.tup [i64 (Q.length : Int),v,i64 0])))))
theorem outS_nil : outS [] = []:=by simp [outS,cmpS,srtS,Lib.compact,Lib.compactUpTo]
theorem hasBody46 : hasBody PP 23 = true:=by kernel_rfl
set_option maxHeartbeats 4000000 in
theorem viable_c (g : Gr) (s : ByteArray) (tx : List ByteArray) (tc : Cap) {h : AHeap} (hs : g.sorts.length ≤ 2 ^ 31) (hr : g.rules.length ≤ 2 ^ 31) (hp : ∀ R ∈ g.rules,R.parts.length ≤ 2 ^ 31) (hc : ∀ h : AHeap,AEx PP Gl 34 [encG g] h (.ret (i64 (checkF g))) h) (hb : askedF g s tx = 0 → BdG g tx) :
  ACalls PP Gl 6 [encG g,.sc (.string s),.sl 1 (tx.map sv) tc] h (ViaR g s tx h):=by
 refine enter_earley_Viable (by simp) ?_
 simp -implicitDefEqProofs [code_earley_Viable,res_earley_Viable,ann_earley_Viable,encG]
 refine callk (asked_c g s tx tc (h:=h) hs (hc _)) (by simp [encG]) rfl ?_
 by_cases ha : askedF g s tx = 0
 case neg =>
  simp -implicitDefEqProofs [ha]
  exact ret1 (v:=.tup [i64 0,.sl 0 [] .nil,i64 (askedF g s tx)]) (by simp [deferred,dslot]) (by simp [evalRes,evalRes1]) ⟨fun _ _ hz=>hz,.inl ⟨ha,rfl⟩⟩
 have hbd:=hb ha
 have hck : checkF g = 0:=by
  unfold askedF at ha
  by_cases e : checkF g = 0
  ·exact e
  ·rw [if_pos e] at ha; exact (e ha).elim
 have hsm : s ∈ g.sorts:=by
  unfold askedF at ha
  rw [if_neg (by simpa using hck)] at ha
  cases hh : hasF g.sorts s with
  | true=>exact has_mem hh
  | false=>rw [hh] at ha; simp at ha
 simp -implicitDefEqProofs [ha]
 refine callr (Productive_c g hs hr hp (hc h)) (by simp [encG]) rfl ?_
 rintro r1 H1 ⟨hH1,⟨h1,_⟩ | ⟨_,S,hS,rfl⟩⟩
 ·exact (h1 hck).elim
 subst H1
 obtain ⟨P,hP⟩ : ∃ P,P = pickS g S:=⟨_,rfl⟩
 have hPl : P.length ≤ 2 ^ 31:=by rw [hP]; exact Nat.le_trans (List.length_filter_le _ _) hs
 rw [← hP]
 simp -implicitDefEqProofs
 refine callk (contains2_c P s hPl) rfl rfl ?_
 by_cases hsS : s ∈ S
 case neg =>
  have hno : hasF P s = false:=by
   cases hh : hasF P s with
   | false=>rfl
   | true=>rw [hP] at hh; exact (hsS (pickS_mem.1 (hasF_iff.1 hh)).2).elim
  simp -implicitDefEqProofs [hno]
  exact ret1 (v:=.tup [i64 0,.sl 0 [] .nil,i64 0]) (by simp [deferred,dslot]) (by simp [evalRes,evalRes1]) ⟨fun _ _ hz=>hz,.inr ⟨ha,S,hS,.inl ⟨hsS,rfl⟩⟩⟩
 have hyes : hasF P s = true:=by rw [hP]; exact hasF_iff.2 (pickS_mem.2 ⟨hsm,hsS⟩)
 simp -implicitDefEqProofs [hyes]
 have hbd' : BdG (viaG g s S) tx:=⟨hbd.r,hbd.p,hbd.n⟩
 refine callr (newChart_c (viaG g s S) tx tc s 18 [] [(grown 1 (P.map sv)).ip] (h:=h) hbd' (check_sorts hck) rfl (fun R hR H=>by rw [hP]; exact usable_c (pickS g S) R (by rw [← hP]; exact hPl) (hp R hR))) (by simp [encG,viaG]) rfl ?_
 rintro r1 H1 ⟨c,rfl,c1,c2,c3,c4,c5⟩
 have hch:=c1.ch
 have hdn:=c1.dn
 have hst:=c1.st
 simp only [chCells] at hch
 have hfind : amapFind (.agg [.sc (.string s),i64 0,i64 (c.S.length : Int)]) (amapOf encSp boolV (tkeys c.D)) = some ((afind (tkeys c.D) ⟨s,0,c.S.length⟩).map boolV):=amapFind_of keySp boolV (tkeys c.D) ⟨s,0,c.S.length⟩
 have hSn:=c4.li.n
 have htx:=hbd.n
 have w1 : IntKind.i64.wrap (c.S.length : Int) = (c.S.length : Int):=IntWalk.i64_in _ (by omega)
 have hst2 : (c.S.map setV ++ [setV (c.L,c.T)])[c.S.length]? = some (setV (c.L,c.T)):=by rw [List.getElem?_append_right (by simp)]; simp
 have hcl : (c.S.map setV ++ [setV (c.L,c.T)]).length = c.S.length + 1:=by simp
 have hbL:=snd_bound hbd' c4.li.sL c4.li.nd
 generalize c.S.map setV ++ [setV (c.L,c.T)] = cs at *
 have hcl1 : c.S.length < cs.length:=by omega
 have hst3 : cs[c.S.length]'hcl1 = setV (c.L,c.T):=(List.getElem?_eq_some_iff.1 hst2).2
 obtain ⟨l0,hl0⟩ : ∃ l0 : List ByteArray,l0 = if (⟨s,0,c.S.length⟩ : Sp) ∈ c.D then [emp] else []:=⟨_,rfl⟩
 obtain ⟨lF,hlF⟩ : ∃ lF : Nat → List ByteArray,lF = fun i=>l0 ++ (c.L.take i).filterMap (follX g):=⟨_,rfl⟩
 have hl01 : l0.length ≤ 1:=by rw [hl0]; split <;> simp
 have hlFl : ∀ i,(lF i).length ≤ 331101:=fun i=>by
  rw [hlF]
  have h1:=List.length_filterMap_le (follX g) (c.L.take i)
  have h2 : (c.L.take i).length ≤ c.L.length:=by simp; omega
  simp only [List.length_append]; omega
 have hol:=(List.getElem?_eq_some_iff.1 hch).1
 have hsl:=(List.getElem?_eq_some_iff.1 hst).1
 have hch1 : ∀ y,(H1 ++ [y])[c.o]? = H1[c.o]?:=fun y=>List.getElem?_append_left hol
 have hst1 : ∀ y,(H1 ++ [y])[c.os]? = H1[c.os]?:=fun y=>List.getElem?_append_left hsl
 obtain ⟨kk,cc,hsv,hkk⟩ : ∃ kk cc,setV (c.L,c.T) = .sl kk (c.L.map encI) cc ∧ (c.L ≠ [] → kk = 3):=by
  cases hcL : c.L with
  | nil=>exact ⟨_,_,rfl,fun h=>(h rfl).elim⟩
  | cons a l=>exact ⟨3,.tok c.T,rfl,fun _=>rfl⟩
 rw [hsv] at hst2 hst3
 by_cases hD : (⟨s,0,c.S.length⟩ : Sp) ∈ c.D
 ·have e0 : l0 = [emp]:=by rw [hl0,if_pos hD]
  have e1 : lF 0 = [emp]:=by rw [hlF]; simp [e0]
  simp -implicitDefEqProofs [hch,w1,hdn,hfind,tkeys_find,hD,boolV,hst,hcl,hst2,hst3,maxLenA,hch1,hst1]
  refine AWp.cnt c.L.length [12,13,63,64] (fun i=>[(14,outVal H1.length (lF i)),(65,i64 (i : Int))]) (fun i=>outH H1 (lF i)) (fun _=>True) mixed trivial (le_of (by rw [e1]; simp [dslot,outVal])) (by rw [e1]; simp [outH,emp]) (fun i hi _=>?_) fun _=>?_
  ·obtain ⟨x,hx⟩ : ∃ x,c.L[i]? = some x:=⟨c.L[i],by simp [hi]⟩
   have hxm:=List.mem_of_getElem? hx
   have hlt : (i : Int) < c.L.length:=by omega
   have wi : IntKind.i64.wrap ((i : Int) + 1) = (i : Int) + 1:=IntWalk.i64_in _ (by omega)
   have hneL : c.L ≠ []:=by intro e; rw [e] at hi; simp at hi
   have hk3:=hkk hneL
   subst hk3
   obtain ⟨R,hR,hd1,_⟩:=(c4.li.sL x hxm).ex
   have hxe : (c.L.map encI)[i]? = some (encI x):=by simp [hx]
   have hnx:=next_c (viaG g s S) c.o (.sl 1 (g.sorts.map sv) g.sc) _ x R (outH_get (l:=lF i) hch) hR hd1 (hp R (List.mem_of_getElem? hR))
   have hnv : nextF (viaG g s S) x = nextF g x:=rfl
   have hls : lF (i + 1) = lF i ++ (match follX g x with | some y=>[y] | none=>[]):=by
    rw [hlF]
    simp only
    rw [List.take_add_one,hx,List.filterMap_append,List.append_assoc]
    congr 2
    cases hf : follX g x <;> simp [hf]
   simp -implicitDefEqProofs [lp0_earley_Viable,hlt,hx,hneL,encI]
   refine callk hnx (by simp [encI]) rfl ?_
   unfold nextV
   rw [hnv]
   cases hn : nextF g x with
   | none =>
    have hf : follX g x = none:=by simp [follX,hn]
    rw [hf] at hls
    simp -implicitDefEqProofs [encP,wi]
    rw [show lF (i + 1) = lF i by rw [hls]; simp]
    exact ⟨le_of (by simp [dslot]),rfl⟩
   | some p =>
    by_cases he : p.sort = emp
    ·have he' : p.sort = (⟨#[]⟩ : ByteArray):=he
     have hf : follX g x = some p.sym:=by simp [follX,hn,he]
     rw [hf] at hls
     have hll:=hlFl i
     cases hOn : (lF i).length with
     | zero =>
      have hnil : lF i = []:=List.length_eq_zero_iff.1 hOn
      rw [hnil] at hls ⊢
      rw [outVal_nil,outH_nil]
      simp -implicitDefEqProofs [encP,he',wi,maxLenA]
      rw [show lF (i + 1) = [p.sym] by rw [hls]; simp]
      exact ⟨le_of (by simp [dslot,outVal]),by simp [outH]⟩
     | succ n =>
      rw [outVal_cons _ _ n hOn,outH_cons _ _ n hOn]
      have hm1 : n ≤ 4294967294:=by omega
      simp -implicitDefEqProofs [encP,he',wi,maxLenA,hOn,hm1]
      have hl2 : (lF (i + 1)).length = n + 1 + 1:=by rw [hls]; simp [hOn]
      rw [outVal_cons _ _ (n + 1) hl2,outH_cons _ _ (n + 1) hl2]
      exact ⟨le_of (by simp [dslot]),by rw [hls]; simp⟩
    ·have he' : ¬ p.sort = (⟨#[]⟩ : ByteArray):=he
     have hf : follX g x = none:=by simp [follX,hn,he]
     rw [hf] at hls
     simp -implicitDefEqProofs [encP,he',wi]
     rw [show lF (i + 1) = lF i by rw [hls]; simp]
     exact ⟨le_of (by simp [dslot]),rfl⟩
  ·have hall : lF c.L.length = outL g s c.S.length c.L c.D:=by
    rw [hlF]; simp only; rw [List.take_of_length_le (Nat.le_refl _),hl0]; rfl
   simp -implicitDefEqProofs [lp0_earley_Viable]
   rw [hall]
   have hOl : (outL g s c.S.length c.L c.D).length ≤ 331101:=by rw [← hall]; exact hlFl _
   have hpre : ∀ (z : Nat) (x : AObj),h[z]? = some x → H1[z]? = some x:=fun z x hz=>c3 z x (lt_of hz) hz
   generalize hO : outL g s c.S.length c.L c.D = O at *
   cases hOn : O.length with
   | zero =>
    obtain rfl : O = []:=List.length_eq_zero_iff.1 hOn
    rw [outVal_nil,outH_nil]
    refine callk (sort_nil laysSort (f:=22) rfl body_slices_Sort_string_string) rfl rfl ?_
    simp -implicitDefEqProofs
    refine callk (compact_nil laysCompact (f:=23) rfl hasBody46) rfl rfl ?_
    simp -implicitDefEqProofs
    exact ret1 (v:=.tup [i64 (c.S.length : Int),.sl 0 [] .nil,i64 0]) (by simp [deferred,dslot]) (by simp [evalRes,evalRes1]) ⟨hpre,.inr ⟨ha,S,hS,.inr ⟨hsS,c.S,c.L,c.D,c4,c5,_,.inl ⟨by rw [hO]; exact outS_nil,rfl⟩,rfl⟩⟩⟩
   | succ n =>
    have hOne : O ≠ []:=by rintro rfl; simp at hOn
    rw [outVal_cons _ _ n hOn,outH_cons _ _ n hOn]
    have hcell : (H1 ++ [.cells n (O.map sv)])[H1.length]? = some (.cells n (O.map sv ++ [])):=by simp
    have hsort:=sort_lib (G:=Gl) (rc:=.own 1) laysSort (f:=22) rfl body_slices_Sort_string_string hcell hOne (by omega)
    rw [hOn] at hsort
    refine callk hsort rfl rfl ?_
    simp -implicitDefEqProofs
    have hcell2 : (H1 ++ [.cells n ((srtS O).map sv)])[H1.length]? = some (.cells n ((srtS O).map sv ++ [])):=by simp
    have hsl2:=srtS_length O
    have hcomp:=compact_lib (G:=Gl) (rc:=.own 1) laysCompact (f:=23) rfl hasBody46 hcell2 (by intro e; rw [e] at hsl2; simp at hsl2; omega) (by omega)
    rw [hsl2,hOn] at hcomp
    refine callk hcomp rfl (by simp) ?_
    simp -implicitDefEqProofs
    refine ret1 (v:=.tup [i64 (c.S.length : Int),.rf H1.length n 0 (cmpS (srtS O)).length .any,i64 0]) (by simp [deferred,dslot]) (by simp [evalRes,evalRes1]) ⟨fun z x hz=>by rw [List.getElem?_append_left (lt_of (hpre z x hz))]; exact hpre z x hz,.inr ⟨ha,S,hS,.inr ⟨hsS,c.S,c.L,c.D,c4,c5,_,.inr ⟨?_,H1.length,n,List.replicate (n + 1 - (cmpS (srtS O)).length) (AV.sc (Value.string (strL []))),.any,by rw [hO]; rfl,by rw [hO]; simp [outS]⟩,rfl⟩⟩⟩
    rw [hO]
    obtain ⟨a,ha2⟩ : ∃ a,a ∈ O:=List.exists_mem_of_ne_nil O hOne
    have:=outS_mem.2 ha2
    intro e; rw [e] at this; cases this
 ·have e0 : l0 = []:=by rw [hl0,if_neg hD]
  have e1 : lF 0 = []:=by rw [hlF]; simp [e0]
  simp -implicitDefEqProofs [hch,w1,hdn,hfind,tkeys_find,hD,boolV,hst,hcl,hst2,hst3]
  refine AWp.cnt c.L.length [12,13,63,64] (fun i=>[(14,outVal H1.length (lF i)),(65,i64 (i : Int))]) (fun i=>outH H1 (lF i)) (fun _=>True) mixed trivial (le_of (by rw [e1]; simp [dslot,outVal])) (by rw [e1]; rfl) (fun i hi _=>?_) fun _=>?_
  ·obtain ⟨x,hx⟩ : ∃ x,c.L[i]? = some x:=⟨c.L[i],by simp [hi]⟩
   have hxm:=List.mem_of_getElem? hx
   have hlt : (i : Int) < c.L.length:=by omega
   have wi : IntKind.i64.wrap ((i : Int) + 1) = (i : Int) + 1:=IntWalk.i64_in _ (by omega)
   have hneL : c.L ≠ []:=by intro e; rw [e] at hi; simp at hi
   have hk3:=hkk hneL
   subst hk3
   obtain ⟨R,hR,hd1,_⟩:=(c4.li.sL x hxm).ex
   have hxe : (c.L.map encI)[i]? = some (encI x):=by simp [hx]
   have hnx:=next_c (viaG g s S) c.o (.sl 1 (g.sorts.map sv) g.sc) _ x R (outH_get (l:=lF i) hch) hR hd1 (hp R (List.mem_of_getElem? hR))
   have hnv : nextF (viaG g s S) x = nextF g x:=rfl
   have hls : lF (i + 1) = lF i ++ (match follX g x with | some y=>[y] | none=>[]):=by
    rw [hlF]
    simp only
    rw [List.take_add_one,hx,List.filterMap_append,List.append_assoc]
    congr 2
    cases hf : follX g x <;> simp [hf]
   simp -implicitDefEqProofs [lp0_earley_Viable,hlt,hx,hneL,encI]
   refine callk hnx (by simp [encI]) rfl ?_
   unfold nextV
   rw [hnv]
   cases hn : nextF g x with
   | none =>
    have hf : follX g x = none:=by simp [follX,hn]
    rw [hf] at hls
    simp -implicitDefEqProofs [encP,wi]
    rw [show lF (i + 1) = lF i by rw [hls]; simp]
    exact ⟨le_of (by simp [dslot]),rfl⟩
   | some p =>
    by_cases he : p.sort = emp
    ·have he' : p.sort = (⟨#[]⟩ : ByteArray):=he
     have hf : follX g x = some p.sym:=by simp [follX,hn,he]
     rw [hf] at hls
     have hll:=hlFl i
     cases hOn : (lF i).length with
     | zero =>
      have hnil : lF i = []:=List.length_eq_zero_iff.1 hOn
      rw [hnil] at hls ⊢
      rw [outVal_nil,outH_nil]
      simp -implicitDefEqProofs [encP,he',wi,maxLenA]
      rw [show lF (i + 1) = [p.sym] by rw [hls]; simp]
      exact ⟨le_of (by simp [dslot,outVal]),by simp [outH]⟩
     | succ n =>
      rw [outVal_cons _ _ n hOn,outH_cons _ _ n hOn]
      have hm1 : n ≤ 4294967294:=by omega
      simp -implicitDefEqProofs [encP,he',wi,maxLenA,hOn,hm1]
      have hl2 : (lF (i + 1)).length = n + 1 + 1:=by rw [hls]; simp [hOn]
      rw [outVal_cons _ _ (n + 1) hl2,outH_cons _ _ (n + 1) hl2]
      exact ⟨le_of (by simp [dslot]),by rw [hls]; simp⟩
    ·have he' : ¬ p.sort = (⟨#[]⟩ : ByteArray):=he
     have hf : follX g x = none:=by simp [follX,hn,he]
     rw [hf] at hls
     simp -implicitDefEqProofs [encP,he',wi]
     rw [show lF (i + 1) = lF i by rw [hls]; simp]
     exact ⟨le_of (by simp [dslot]),rfl⟩
  ·have hall : lF c.L.length = outL g s c.S.length c.L c.D:=by
    rw [hlF]; simp only; rw [List.take_of_length_le (Nat.le_refl _),hl0]; rfl
   simp -implicitDefEqProofs [lp0_earley_Viable]
   rw [hall]
   have hOl : (outL g s c.S.length c.L c.D).length ≤ 331101:=by rw [← hall]; exact hlFl _
   have hpre : ∀ (z : Nat) (x : AObj),h[z]? = some x → H1[z]? = some x:=fun z x hz=>c3 z x (lt_of hz) hz
   generalize hO : outL g s c.S.length c.L c.D = O at *
   cases hOn : O.length with
   | zero =>
    obtain rfl : O = []:=List.length_eq_zero_iff.1 hOn
    rw [outVal_nil,outH_nil]
    refine callk (sort_nil laysSort (f:=22) rfl body_slices_Sort_string_string) rfl rfl ?_
    simp -implicitDefEqProofs
    refine callk (compact_nil laysCompact (f:=23) rfl hasBody46) rfl rfl ?_
    simp -implicitDefEqProofs
    exact ret1 (v:=.tup [i64 (c.S.length : Int),.sl 0 [] .nil,i64 0]) (by simp [deferred,dslot]) (by simp [evalRes,evalRes1]) ⟨hpre,.inr ⟨ha,S,hS,.inr ⟨hsS,c.S,c.L,c.D,c4,c5,_,.inl ⟨by rw [hO]; exact outS_nil,rfl⟩,rfl⟩⟩⟩
   | succ n =>
    have hOne : O ≠ []:=by rintro rfl; simp at hOn
    rw [outVal_cons _ _ n hOn,outH_cons _ _ n hOn]
    have hcell : (H1 ++ [.cells n (O.map sv)])[H1.length]? = some (.cells n (O.map sv ++ [])):=by simp
    have hsort:=sort_lib (G:=Gl) (rc:=.own 1) laysSort (f:=22) rfl body_slices_Sort_string_string hcell hOne (by omega)
    rw [hOn] at hsort
    refine callk hsort rfl rfl ?_
    simp -implicitDefEqProofs
    have hcell2 : (H1 ++ [.cells n ((srtS O).map sv)])[H1.length]? = some (.cells n ((srtS O).map sv ++ [])):=by simp
    have hsl2:=srtS_length O
    have hcomp:=compact_lib (G:=Gl) (rc:=.own 1) laysCompact (f:=23) rfl hasBody46 hcell2 (by intro e; rw [e] at hsl2; simp at hsl2; omega) (by omega)
    rw [hsl2,hOn] at hcomp
    refine callk hcomp rfl (by simp) ?_
    simp -implicitDefEqProofs
    refine ret1 (v:=.tup [i64 (c.S.length : Int),.rf H1.length n 0 (cmpS (srtS O)).length .any,i64 0]) (by simp [deferred,dslot]) (by simp [evalRes,evalRes1]) ⟨fun z x hz=>by rw [List.getElem?_append_left (lt_of (hpre z x hz))]; exact hpre z x hz,.inr ⟨ha,S,hS,.inr ⟨hsS,c.S,c.L,c.D,c4,c5,_,.inr ⟨?_,H1.length,n,List.replicate (n + 1 - (cmpS (srtS O)).length) (AV.sc (Value.string (strL []))),.any,by rw [hO]; rfl,by rw [hO]; simp [outS]⟩,rfl⟩⟩⟩
    rw [hO]
    obtain ⟨a,ha2⟩ : ∃ a,a ∈ O:=List.exists_mem_of_ne_nil O hOne
    have:=outS_mem.2 ha2
    intro e; rw [e] at this; cases this
end Go.Apx
end
section
namespace Go.Apx
open Go.Proofs
set_option linter.unusedVariables false
set_option linter.unusedSimpArgs false
set_option linter.unnecessarySimpa false
set_option maxRecDepth 4000
def Pre (n : Nat) (tx tx' : List ByteArray) : Prop:=∀ i,i < n → tx[i]? = tx'[i]?
theorem Pre.symm {n : Nat} {tx tx' : List ByteArray} (h : Pre n tx tx') : Pre n tx' tx:=fun i hi=>(h i hi).symm
theorem DerP.pre {g : Gr} {tx tx' : List ByteArray} {n : Nat} (hp : Pre n tx tx') {ps : List Pt} {i j : Nat} (h : DerP g tx ps i j) : j ≤ n → DerP g tx' ps i j:=by
 induction h with
 | nil=>intro _; exact .nil _
 | @sym p ps i j hs ht h ih =>
  intro hj
  have:=h.le.1
  exact .sym hs (by rw [← hp i (by omega)]; exact ht) (ih hj)
 | @arg p ps i k j r R hs hr he h1 h2 ih1 ih2 =>
  intro hj
  have:=h2.le.1
  exact .arg hs hr he (ih1 (by omega)) (ih2 hj)
theorem Der.pre {g : Gr} {tx tx' : List ByteArray} {n : Nat} (hp : Pre n tx tx') {s : ByteArray} {i j : Nat} (h : Der g tx s i j) (hj : j ≤ n) : Der g tx' s i j:=by
 obtain ⟨r,R,hr,he,h⟩:=h
 exact ⟨r,R,hr,he,h.pre hp hj⟩
theorem It.pre {g : Gr} {tx tx' : List ByteArray} {n : Nat} (hp : Pre n tx tx') {k : Nat} {x : Itm} (h : It g tx k x) : k ≤ n → It g tx' k x:=by
 induction h with
 | start hr he=>intro _; exact .start hr he
 | pred h hn hs hr he ih=>intro hk; exact .pred (ih hk) hn hs hr he
 | @scan k x p h hn hs ht ih=>intro hk; exact .scan (ih (by omega)) hn hs (by rw [← hp k (by omega)]; exact ht)
 | @comp i k x p h hn hs hd ih =>
  intro hk
  have:=hd.le.1
  exact .comp (ih (by omega)) hn hs (hd.pre hp hk)
theorem Closed.all_it {g : Gr} {tx : List ByteArray} {S : Nat → Itm → Prop} {D : ByteArray → Nat → Nat → Prop} (hc : Closed g tx S D) (hb : Begun g S g.st 0) {k : Nat} {x : Itm} (h : It g tx k x) : S k x:=by
 induction h with
 | start hr he=>exact hb _ _ hr he
 | pred h hn hs hr he ih=>exact hc.pred _ _ _ ih hn hs _ _ hr he
 | scan h hn hs ht ih=>exact hc.scan _ _ _ ih hn hs ht
 | @comp i k x p h hn hs hd ih =>
  have hbg : Begun g S p.sort i:=fun r R hr he=>hc.pred _ _ _ ih hn hs r R hr he
  exact hc.move _ _ _ _ _ ((hc.iff hbg k).2 hd) ih hn rfl hs
theorem next_of {g : Gr} {x : Itm} {R : Rl} {p : Pt} {ps : List Pt} (hR : g.rules[x.r]? = some R) (hd : R.parts.drop x.d = p :: ps) : nextF g x = some p ∧ R.parts.drop (x.d + 1) = ps:=by
 constructor
 ·have : (R.parts.drop x.d)[0]? = some p:=by rw [hd]; rfl
  rw [List.getElem?_drop] at this
  simpa [nextF,hR] using this
 ·rw [← List.drop_drop,hd]; rfl
theorem der_scan {g : Gr} {tx : List ByteArray} (hu : UsOk g tx) {ps : List Pt} {i j : Nat} (h : DerP g tx ps i j) : ∀ (x : Itm) (R : Rl),It g tx i x → g.rules[x.r]? = some R → R.parts.drop x.d = ps → ∀ k,i ≤ k → k < j →
  ∃ y p,It g tx k y ∧ nextF g y = some p ∧ p.sort = emp ∧ tx[k]? = some p.sym:=by
 induction h with
 | nil=>intro x R _ _ _ k h1 h2; omega
 | @sym p ps i j hs ht h ih =>
  intro x R hx hR hd k h1 h2
  obtain ⟨hn,hd'⟩:=next_of hR hd
  rcases Nat.lt_or_eq_of_le h1 with h3 | rfl
  ·exact ih x.adv R (.scan hx hn hs ht) hR hd' k h3 h2
  ·exact ⟨x,p,hx,hn,hs,ht⟩
 | @arg p ps i m j r R' hs hr he ha hb ih1 ih2 =>
  intro x R hx hR hd k h1 h2
  obtain ⟨hn,hd'⟩:=next_of hR hd
  by_cases hk : k < m
  ·exact ih1 ⟨r,0,i⟩ R' (.pred hx hn hs hr ⟨he,hu r R' _ _ hr ha⟩) hr rfl k h1 hk
  ·exact ih2 x.adv R (.comp hx hn hs ⟨r,R',hr,he,ha⟩) hR hd' k (by omega) h2
theorem it_scan {g : Gr} {tx : List ByteArray} (hu : UsOk g tx) {k : Nat} {z : Itm} (h : It g tx k z) : ∀ n,k = n + 1 → ∃ y p,It g tx n y ∧ nextF g y = some p ∧ p.sort = emp ∧ tx[n]? = some p.sym:=by
 induction h with
 | start hr he=>intro n hn; omega
 | pred h hn hs hr he ih=>exact ih
 | @scan k x p h hn hs ht ih =>
  intro n hk
  have e : k = n:=by omega
  subst e
  exact ⟨x,p,h,hn,hs,ht⟩
 | @comp i k x p h hn hs hd ih =>
  intro n hk
  have hle:=hd.le.1
  by_cases hi : i = n + 1
  ·exact ih n hi
  ·obtain ⟨r,R,hr,he,hp⟩:=hd
   exact der_scan hu hp ⟨r,0,i⟩ R (.pred h hn hs hr ⟨he,hu r R _ _ hr hp⟩) hr rfl n (by omega) (by omega)
section
variable {g : Gr} {tx : List ByteArray} {s : ByteArray} {Q : List (List Itm × Nat)} {L : List Itm} {D : List Sp}
theorem plc_le {Q : List (List Itm × Nat)} {L : List Itm} {k : Nat} {x : Itm} (hx : x ∈ plc Q L k) : k ≤ Q.length:=by
 rcases Nat.lt_or_ge Q.length k with h' | h'
 ·exfalso
  unfold plc at hx
  rw [List.getD,List.getElem?_eq_none (by simp; omega)] at hx
  simp at hx
 ·exact h'
theorem via_mem (h : NF g tx s Q L D) (hu : UsOk g tx) (hst : g.st = s) (he : Q.length = tx.length ∨ scanF g tx Q.length L = []) {k : Nat} {x : Itm} : x ∈ plc Q L k ↔ It g tx k x:=by
 obtain ⟨hc,hb⟩:=h.all hu he
 exact ⟨hc.it k x,hc.all_it (by rw [hst]; exact hb)⟩
theorem via_last (h : NF g tx s Q L D) (hu : UsOk g tx) (hst : g.st = s) (he : Q.length = tx.length ∨ scanF g tx Q.length L = []) {x : Itm} : x ∈ L ↔ It g tx Q.length x:=by
 rw [← via_mem h hu hst he,plc_last]
theorem via_der (h : NF g tx s Q L D) (hu : UsOk g tx) (he : Q.length = tx.length ∨ scanF g tx Q.length L = []) (j : Nat) : (⟨s,0,j⟩ : Sp) ∈ D ↔ Der g tx s 0 j:=by
 obtain ⟨hc,hb⟩:=h.all hu he
 exact hc.iff hb j
end
end Go.Apx
end
section
namespace Go.Apx
open Go.Proofs
set_option linter.unusedVariables false
set_option linter.unusedSimpArgs false
set_option linter.unnecessarySimpa false
set_option maxRecDepth 4000
theorem DerP.conv {g g' : Gr} {tx : List ByteArray} (hr : g'.rules = g.rules) {ps : List Pt} {i j : Nat} (h : DerP g tx ps i j) : DerP g' tx ps i j:=by
 induction h with
 | nil=>exact .nil _
 | sym hs ht h ih=>exact .sym hs ht ih
 | arg hs h1 he h2 h3 ih1 ih2=>exact .arg hs (by rw [hr]; exact h1) he ih1 ih2
theorem Der.conv {g g' : Gr} {tx : List ByteArray} (hr : g'.rules = g.rules) {s : ByteArray} {i j : Nat} (h : Der g tx s i j) : Der g' tx s i j:=by
 obtain ⟨r,R,h1,h2,h3⟩:=h
 exact ⟨r,R,by rw [hr]; exact h1,h2,h3.conv hr⟩
theorem outL_emp {g : Gr} {s : ByteArray} {n : Nat} {L : List Itm} {D : List Sp} (hs : ∀ x ∈ L,follX g x ≠ some emp) : emp ∈ outL g s n L D ↔ (⟨s,0,n⟩ : Sp) ∈ D:=by
 unfold outL
 rw [List.mem_append]
 constructor
 ·rintro (h | h)
  ·by_cases e : (⟨s,0,n⟩ : Sp) ∈ D
   ·exact e
   ·rw [if_neg e] at h; cases h
  ·obtain ⟨x,hx,h⟩:=List.mem_filterMap.1 h
   exact (hs x hx h).elim
 ·intro h
  rw [if_pos h]; exact .inl (by simp)
theorem outL_sym {g : Gr} {s : ByteArray} {n : Nat} {L : List Itm} {D : List Sp} {y : ByteArray} (hy : y ≠ emp) : y ∈ outL g s n L D ↔ ∃ x p,x ∈ L ∧ nextF g x = some p ∧ p.sort = emp ∧ p.sym = y:=by
 unfold outL
 rw [List.mem_append]
 constructor
 ·rintro (h | h)
  ·split at h
   ·simp at h; exact (hy h).elim
   ·cases h
  ·obtain ⟨x,hx,h⟩:=List.mem_filterMap.1 h
   unfold follX at h
   cases hn : nextF g x with
   | none=>rw [hn] at h; cases h
   | some p =>
    rw [hn] at h
    simp only at h
    split at h
    ·rename_i he; exact ⟨x,p,hx,hn,he,Option.some.inj h⟩
    ·cases h
 ·rintro ⟨x,p,hx,hn,he,rfl⟩
  exact .inr (List.mem_filterMap.2 ⟨x,hx,by simp [follX,hn,he]⟩)
theorem foll_ne {g : Gr} (hck : checkF g = 0) (x : Itm) : follX g x ≠ some emp:=by
 unfold follX
 cases hn : nextF g x with
 | none=>simp
 | some p =>
  simp only
  by_cases he : p.sort = emp
  ·rw [if_pos he]
   intro hc
   have hc' : p.sym = emp:=Option.some.inj hc
   unfold nextF at hn
   cases hR : g.rules[x.r]? with
   | none=>rw [hR] at hn; cases hn
   | some R =>
    rw [hR] at hn
    have hp:=List.mem_of_getElem? (show R.parts[x.d]? = some p from hn)
    have:=(check_rule hck R (List.mem_of_getElem? hR)).2.1 p hp
    unfold partF at this
    rw [if_pos he] at this
    simp [hc',okName,emp] at this
  ·rw [if_neg he]; simp
theorem GrowS.mem {g : Gr} {pm : Pt → Bool} {S S' : List ByteArray} (h : GrowS g pm S) (h' : GrowS g pm S') {s : ByteArray} : s ∈ S ↔ s ∈ S' :=
 ⟨h.least S' h'.closed s,h'.least S h.closed s⟩
theorem GrowS.pick {g : Gr} {pm : Pt → Bool} {S S' : List ByteArray} (h : GrowS g pm S) (h' : GrowS g pm S') : pickS g S = pickS g S':=by
 unfold pickS
 congr 1
 funext s
 rw [decide_eq_decide]; exact h.mem h'
theorem GrowS.via {g : Gr} {S S' : List ByteArray} (h : GrowS g yesP S) (h' : GrowS g yesP S') (s : ByteArray) : viaG g s S = viaG g s S':=by
 unfold viaG
 rw [h.pick h']
theorem via_us {g : Gr} {S : List ByteArray} (h : GrowS g yesP S) (hck : checkF g = 0) (s : ByteArray) (tx : List ByteArray) : UsOk (viaG g s S) tx:=fun r R i j hr hd=>by
 have hn:=check_named hck
 show usF (pickS g S) R = true
 unfold usF
 rw [Bool.not_eq_true',List.any_eq_false]
 intro p hp hc
 simp only [needF,Bool.and_eq_true,Bool.not_eq_true',decide_eq_false_iff_not] at hc
 have h1:=der_prod h (DerP.conv (g:=viaG g s S) (g':=g) rfl hd) p hp hc.1
 have h2:=(hn R (List.mem_of_getElem? hr)).2 p hp hc.1
 have h3 : hasF (pickS g S) p.sort = true:=hasF_iff.2 (pickS_mem.2 ⟨h2,h1⟩)
 rw [h3] at hc
 cases hc.2
end Go.Apx
end
section
namespace Go.Apx
open Go.Proofs
set_option linter.unusedVariables false
set_option linter.unusedSimpArgs false
set_option linter.unnecessarySimpa false
set_option maxRecDepth 4000
section
variable {g : Gr} {tx : List ByteArray} {X : List Bool} {S : Nat → Itm → Prop} {D : List Sp}
def Met (g : Gr) (tx : List ByteArray) (S : Nat → Itm → Prop) (x : Sp) : Prop:=Begun g S x.s x.i ∧ x.i ≤ tx.length ∧ x.j ≤ tx.length
theorem Met.num {L : List Sp} {x : Sp} (h : ∀ y ∈ L,Met g tx S y) (hx : Met g tx S x) : ∀ y ∈ (numSp L x).1,Met g tx S y:=by
 unfold numSp
 split
 ·exact h
 ·intro y hy
  rcases List.mem_append.1 hy with h' | h'
  ·exact h y h'
  ·simp at h'; subst h'; exact hx
theorem Met.all : ∀ {w L : List Sp} {ns : List Nat},(∀ y ∈ L,Met g tx S y) → (∀ y ∈ w,Met g tx S y) → ∀ y ∈ (w.foldl (fun st x=>((numSp st.1 x).1,st.2 ++ [(numSp st.1 x).2])) (L,ns)).1,Met g tx S y
 | [],L,ns,h,_=>h
 | x :: w,L,ns,h,hw=>Met.all (w:=w) (Met.num h (hw x (by simp))) (fun y hy=>hw y (by simp [hy]))
theorem Met.run : ∀ {c : List (Nat × List Sp)} {st : List Sp × List (Nat × List Nat)},(∀ y ∈ st.1,Met g tx S y) → (∀ x ∈ c,∀ y ∈ x.2,Met g tx S y) → ∀ y ∈ (runW wayP st c).1,Met g tx S y
 | [],st,h,_=>h
 | a :: c,st,h,hc=>Met.run (c:=c) (st:=((wayP st.1 a).1,st.2 ++ [(wayP st.1 a).2])) (Met.all h (hc a (by simp))) (fun x hx=>hc x (by simp [hx]))
end
end Go.Apx
end
section
namespace Go.Apx
open Go.Proofs
set_option linter.unusedVariables false
set_option linter.unusedSimpArgs false
set_option linter.unnecessarySimpa false
set_option maxRecDepth 4000
theorem conv_get (g : Gr) (r : Nat) : (convG g).rules[r]? = (g.rules[r]?).map convR:=by
 show (g.rules.map convR)[r]? = _
 rw [List.getElem?_map]
theorem conv_derP {g : Gr} {tx : List ByteArray} {ps : List Pt} {i j : Nat} (h : DerP (convG g) tx ps i j) : DerP g tx ps i j:=by
 induction h with
 | nil=>exact .nil _
 | sym hs ht h ih=>exact .sym hs ht ih
 | @arg p ps i k j r R hs hr he h1 h2 ih1 ih2 =>
  rw [conv_get] at hr
  cases hR : g.rules[r]? with
  | none=>rw [hR] at hr; cases hr
  | some R0 =>
   rw [hR] at hr
   cases hr
   exact .arg hs hR he ih1 ih2
theorem conv_der {g : Gr} {tx : List ByteArray} {s : ByteArray} {i j : Nat} (h : Der (convG g) tx s i j) : Der g tx s i j:=by
 obtain ⟨r,R,hr,he,h⟩:=h
 rw [conv_get] at hr
 cases hR : g.rules[r]? with
 | none=>rw [hR] at hr; cases hr
 | some R0 =>
  rw [hR] at hr
  cases hr
  exact ⟨r,R0,hR,he,conv_derP h⟩
end Go.Apx
end
section
namespace Go.Apx
open Go.Proofs
set_option linter.unusedVariables false
set_option linter.unusedSimpArgs false
set_option linter.unnecessarySimpa false
set_option maxRecDepth 4000
@[simp] theorem isPend_wayV (w : Nat × List Nat) : (wayV w).isPend = false:=rfl
@[simp] theorem one_wayV (w : Nat × List Nat) : (wayV w).one = false:=rfl
@[simp] theorem isPend_nodeV (x : Sp × List (Nat × List Nat)) : (nodeV x).isPend = false:=rfl
@[simp] theorem one_nodeV (x : Sp × List (Nat × List Nat)) : (nodeV x).one = false:=rfl
@[simp] theorem isPend_forestV (l : List (Sp × List (Nat × List Nat))) : (forestV l).isPend = false:=rfl
structure CN where
 x : Sp × List (Nat × List Nat)
 T : Nat
def encCN (c : CN) : AV:=.agg [.sc (.string c.x.1.s),i64 (c.x.1.i : Int),i64 (c.x.1.j : Int),apd 2 (c.x.2.map wayV) c.T]
@[simp] theorem isPend_encCN (c : CN) : (encCN c).isPend = false:=rfl
@[simp] theorem one_encCN (c : CN) : (encCN c).one = false:=rfl
end Go.Apx
end
section
namespace Go.Apx
open Go.Proofs
set_option linter.unusedVariables false
set_option linter.unusedSimpArgs false
set_option linter.unnecessarySimpa false
set_option maxRecDepth 4000
theorem awake_c {h : AHeap} : AEx PP Gl 5 [] h (.ret (.sc (.bool true))) h:=KOk.at aw_root rfl rfl
structure LawP (g : Gr) (tx : List ByteArray) : Prop where
 sorts : g.sorts.length ≤ 2 ^ 31
 rules : g.rules.length ≤ 2 ^ 31
 rparts : ∀ r ∈ g.rules,r.parts.length ≤ 2 ^ 31
 sc : g.sc.strip = g.sc
 text : tx.length ≤ 2 ^ 31
def shortF (g : Gr) (tx : List ByteArray) (most : Int) : Bool:=smallF g 10 5 && (decide ((tx.length : Int) ≤ most) || (decide (200 < (tx.length : Int)) && decide ((tx.length : Int) < 300)))
theorem short_c (g : Gr) (tx : List ByteArray) (tc : Cap) (most : Int) {h : AHeap} (hi : LawP g tx) : AEx PP Gl 4 [encG g,.sl 1 (tx.map sv) tc,i64 most] h (.ret (bl (shortF g tx most))) h:=by
 refine enter_law14_short (by simp) ?_
 simp -implicitDefEqProofs [code_law14_short,res_law14_short,ann_law14_short,encG]
 refine callk (small_c g 10 5 hi.sorts hi.rules) (by simp [encG]) rfl ?_
 cases h1 : smallF g 10 5 with
 | false =>
  simp -implicitDefEqProofs
  exact retE (by simp [deferred,dslot]) rfl (by simp [shortF,h1]) rfl
 | true =>
  by_cases h2 : (tx.length : Int) ≤ most
  ·simp -implicitDefEqProofs [h2]
   exact retE (by simp [deferred,dslot]) rfl (by simp [shortF,h1,h2]) rfl
  ·by_cases h3 : 200 < (tx.length : Int)
   ·simp -implicitDefEqProofs [h2,h3]
    exact retE (by simp [deferred,dslot]) rfl (by simp [shortF,h1,h2,h3]) rfl
   ·simp -implicitDefEqProofs [h2,h3]
    exact retE (by simp [deferred,dslot]) rfl (by simp [shortF,h1,h2,h3]) rfl
theorem short_small {g : Gr} (hs : smallF g 10 5 = true) (hck : checkF g = 0) : g.rules.length ≤ 10 ∧ g.sorts.length ≤ 8 ∧ ∀ R ∈ g.rules,R.parts.length ≤ 5:=by
 obtain ⟨c1,c2,_⟩:=check_ok hck
 have c3 : g.sorts.length ≤ 32:=by
  unfold checkF at hck
  split at hck
  ·omega
  ·omega
 unfold smallF at hs
 rw [if_neg (by omega),if_neg (by omega)] at hs
 simp only [Bool.and_eq_true,List.all_eq_true,decide_eq_true_eq] at hs
 refine ⟨by omega,by omega,fun R hR=>?_⟩
 have h1:=hs.1.1 R hR
 have h2:=c2 R hR
 simp [badR] at h1
 omega
theorem small_parts {g : Gr} (hs : smallF g 10 5 = true) : g.sorts.length ≤ 32 → g.rules.length ≤ 600 → ∀ r ∈ g.rules,longF r = false → r.parts.length ≤ 12:=fun h1 h2 r hr hlong=>by
 unfold smallF at hs
 rw [if_neg (by omega),if_neg (by omega)] at hs
 simp only [Bool.and_eq_true,List.all_eq_true] at hs
 have:=hs.1.1 r hr
 simp [badR,longF] at this hlong
 omega
theorem asked_check {g : Gr} {s : ByteArray} {tx : List ByteArray} (h : askedF g s tx = 0) : checkF g = 0 ∧ tx.length ≤ 200:=by
 unfold askedF at h
 by_cases e : checkF g = 0
 ·refine ⟨e,?_⟩
  rw [if_neg (by simpa using e)] at h
  split at h
  ·omega
  ·split at h <;> omega
 ·rw [if_pos e] at h; exact (e h).elim
theorem short_bd {g : Gr} {s : ByteArray} {tx : List ByteArray} {most : Int} (hs : smallF g 10 5 = true) (h : askedF g s tx = 0) : BdG g tx:=by
 obtain ⟨h1,h2⟩:=asked_check h
 obtain ⟨c1,c2,c3⟩:=short_small hs h1
 exact ⟨by omega,fun R hR=>by have:=c3 R hR; omega,by omega⟩
end Go.Apx
end
section
namespace Go.Apx
open Go.Proofs
set_option linter.unusedVariables false
set_option linter.unusedSimpArgs false
set_option linter.unnecessarySimpa false
set_option maxRecDepth 4000
theorem pre_take (tx : List ByteArray) (n : Nat) : Pre n tx (tx.take n):=fun i hi=>by
 rw [List.getElem?_take]; simp [hi]
theorem pre_take_add (tx : List ByteArray) (n : Nat) (y : ByteArray) (hn : n ≤ tx.length) : Pre n tx (tx.take n ++ [y]):=fun i hi=>by
 rw [List.getElem?_append_left (by simp; omega),List.getElem?_take]; simp [hi]
theorem via_emp {g : Gr} {s : ByteArray} {S : List ByteArray} {tx : List ByteArray} {Q : List (List Itm × Nat)} {L : List Itm} {D : List Sp} (hck : checkF g = 0) (hS : GrowS g yesP S)
  (h : NF (viaG g s S) tx s Q L D) (he : Q.length = tx.length ∨ scanF (viaG g s S) tx Q.length L = []) : emp ∈ outS (outL g s Q.length L D) ↔ Der g (tx.take Q.length) s 0 Q.length:=by
 rw [outS_mem,outL_emp (fun x _=>foll_ne hck x),via_der h (via_us hS hck s tx) he]
 constructor
 ·intro hd
  exact (Der.conv (g:=viaG g s S) (g':=g) rfl hd).pre (pre_take tx _) (Nat.le_refl _)
 ·intro hd
  exact Der.conv (g:=g) (g':=viaG g s S) rfl (hd.pre (pre_take tx _).symm (Nat.le_refl _))
theorem outS_length (l : List ByteArray) : (outS l).length ≤ l.length:=by
 have h1 : ∀ (d : Array (List UInt8)) m,(Lib.compactUpTo d m).length ≤ m:=fun d m=>by
  unfold Lib.compactUpTo
  rw [List.length_map]
  exact Nat.le_trans (List.length_filter_le _ _) (by simp)
 unfold outS cmpS Lib.compact
 rw [List.length_map]
 refine Nat.le_trans (h1 _ _) ?_
 simp [srtS_length]
end Go.Apx
end
section
namespace Go.Apx
open Go.Proofs
set_option linter.unusedVariables false
set_option linter.unusedSimpArgs false
set_option linter.unnecessarySimpa false
set_option maxRecDepth 4000
def Kp (H H' : AHeap) : Prop:=∀ (z : Nat) (x : AObj),H[z]? = some x → H'[z]? = some x
theorem Kp.trans {a b c : AHeap} (h : Kp a b) (h' : Kp b c) : Kp a c:=fun z x hz=>h' z x (h z x hz)
theorem Kp.app (H J : AHeap) : Kp H (H ++ J):=fun z x hz=>by rw [List.getElem?_append_left (List.getElem?_eq_some_iff.1 hz).1]; exact hz
def CapK (H J : AHeap) (c : Cap) (n : Nat) : Prop:=(c = .full ∧ n = 0) ∨ ∃ T,c = .tok T ∧ H.length ≤ T ∧ (H ++ J)[T]? = some (.tok n)
theorem appCopy {C : Cx} {k b : Nat} {x y : Opd} {d : Option Nat} {env : Env} {H : AHeap} {K : Env → AHeap → Prop} (xs : List AV) (hx : evalOpd C.G env x = some (.sl k [] .full)) (hy : (evalOpd C.G env y).bind (elems H k) = some xs) (hm : xs.length ≤ maxLenA)
  (hK : ∀ c J,CapK H J c xs.length → K (putD env d (.sl k xs c)) (H ++ J)) : appW C k b x y d env H K:=by
 cases xs with
 | nil =>
  refine appFull0 [] hx hy ?_
  have:=hK .full [] (.inl ⟨rfl,rfl⟩)
  simpa using this
 | cons a xs =>
  refine appFull [] (a :: xs) hx hy (by simp) (by simpa using hm) ?_
  have:=hK (.tok H.length) [.tok (a :: xs).length] (.inr ⟨_,rfl,Nat.le_refl _,by simp⟩)
  simpa using this
theorem appOn {C : Cx} {k b : Nat} {x y : Opd} {d : Option Nat} {env : Env} {H J : AHeap} {K : Env → AHeap → Prop} {c : Cap} (xs : List AV) (v : AV) (hc : CapK H J c xs.length) (hx : evalOpd C.G env x = some (.sl k xs c)) (hy : (evalOpd C.G env y).bind (elems (H ++ J) k) = some [v]) (hm : xs.length + 1 ≤ maxLenA)
  (hK : ∀ c' J',K (putD env d (.sl k (xs ++ [v]) c')) (H ++ J')) : appW C k b x y d env (H ++ J) K:=by
 rcases hc with ⟨rfl,h0⟩ | ⟨T,rfl,h1,h2⟩
 ·refine appFull xs [v] hx hy (by simp) (by simpa using hm) ?_
  rw [List.append_assoc]
  exact hK _ _
 ·refine appTok xs v T hx hy h2 hm ?_
  rw [List.set_append_right _ _ h1]
  exact hK _ _
def inF (O : List ByteArray) (y : ByteArray) (i : Nat) : Bool:=decide (y ∈ O.take i) && !decide (y = emp)
@[simp] theorem inF_zero (O : List ByteArray) (y : ByteArray) : inF O y 0 = false:=by simp [inF]
end Go.Apx
end
