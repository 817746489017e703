/- Walks: the ways in which parts lie, by the reference. -/
import Derived.Test.YtccmgegmflnhgaaPA
import Derived.Test.YtccmgegmflnhgaaEB
section
namespace Go.Apx
open Go.Proofs
set_option linter.unusedVariables false
set_option linter.unusedSimpArgs false
set_option linter.unnecessarySimpa false
set_option maxRecDepth 4000
def splitsF (g : Gr) (tx : List ByteArray) (X : List Bool) : List Pt → Nat → Nat → List (List Nat)
 | [],i,j=>if i = j then [[]] else []
 | p :: ps,i,j=>(List.range' i (j + 1 - i)).flatMap fun e =>
   if lieF g tx X p i e = true ∧ (endsF g tx X (startF tx.length e) ps).getD j false = true then (splitsF g tx X ps e j).map (e :: ·) else []
def spAt (g : Gr) (tx : List ByteArray) (X : List Bool) (p : Pt) (ps : List Pt) (i j e : Nat) : List (List Nat) :=
 if lieF g tx X p i e = true ∧ (endsF g tx X (startF tx.length e) ps).getD j false = true then (splitsF g tx X ps e j).map (e :: ·) else []
theorem splitsF_cons (g : Gr) (tx : List ByteArray) (X : List Bool) (p : Pt) (ps : List Pt) (i j : Nat) : splitsF g tx X (p :: ps) i j = (List.range' i (j + 1 - i)).flatMap (spAt g tx X p ps i j):=rfl
def encS (l : List Nat) : AV:=.sl 1 (l.map fun (n : Nat)=>i64 (n : Int)) (if l.length ≤ 1 then .full else .any)
def outV (ps : List Pt) (out : List (List Nat)) : AV:=.sl (if out = [] then 0 else 1) (out.map encS) (if out = [] then .nil else if ps = [] then .full else .any)
@[simp] theorem isPend_encS (l : List Nat) : (encS l).isPend = false:=rfl
@[simp] theorem one_encS (l : List Nat) : (encS l).one = true:=rfl
@[simp] theorem cells_encS (l : List Nat) : (encS l).cells = [encS l]:=rfl
@[simp] theorem isPend_outV (ps : List Pt) (l : List (List Nat)) : (outV ps l).isPend = false:=rfl
theorem outV_inb (ps : List Pt) (l : List (List Nat)) (n : Nat) : (outV ps l).inb n = true:=by
 have h1 : ∀ x : List Nat,(encS x).inb n = true:=fun x=>by
  by_cases hx : x.length ≤ 1 <;> simp [encS,AV.inb,inbL_eq,Cap.inb,hx]
 unfold outV
 by_cases hl : l = []
 ·subst hl; rfl
 ·by_cases hp : ps = [] <;> simp [AV.inb,inbL_eq,Cap.inb,hl,hp,h1]
theorem splits_length (g : Gr) (tx : List ByteArray) (X : List Bool) : ∀ (ps : List Pt) (i j : Nat),j ≤ tx.length → (splitsF g tx X ps i j).length ≤ (tx.length + 1) ^ ps.length
 | [],i,j,hj=>by simp only [splitsF]; split <;> simp
 | p :: ps,i,j,hj=>by
  simp only [splitsF,List.length_flatMap,List.length_cons,Nat.pow_succ]
  have h1 : ∀ (l : List Nat),(l.map fun e=>(if lieF g tx X p i e = true ∧ (endsF g tx X (startF tx.length e) ps).getD j false = true then (splitsF g tx X ps e j).map (e :: ·) else []).length).sum ≤ l.length * (tx.length + 1) ^ ps.length:=by
   intro l
   induction l with
   | nil=>simp
   | cons e l ih =>
    simp only [List.map_cons,List.sum_cons,List.length_cons,Nat.succ_mul]
    have h2 : (if lieF g tx X p i e = true ∧ (endsF g tx X (startF tx.length e) ps).getD j false = true then (splitsF g tx X ps e j).map (e :: ·) else []).length ≤ (tx.length + 1) ^ ps.length:=by
     split
     ·simp; exact splits_length g tx X ps e j hj
     ·simp
    omega
  have h3:=h1 (List.range' i (j + 1 - i))
  simp only [List.length_range'] at h3
  refine Nat.le_trans h3 ?_
  rw [Nat.mul_comm]
  exact Nat.mul_le_mul_left _ (by omega)
theorem splits_each (g : Gr) (tx : List ByteArray) (X : List Bool) : ∀ (ps : List Pt) (i j : Nat),∀ w ∈ splitsF g tx X ps i j,w.length = ps.length
 | [],i,j,w,hw=>by
  simp only [splitsF] at hw
  split at hw
  ·simp at hw; subst hw; rfl
  ·cases hw
 | p :: ps,i,j,w,hw=>by
  simp only [splitsF,List.mem_flatMap] at hw
  obtain ⟨e,_,hw⟩:=hw
  split at hw
  ·obtain ⟨v,hv,rfl⟩:=List.mem_map.1 hw
   simp [splits_each g tx X ps e j v hv]
  ·cases hw
theorem pre_len {g : Gr} {tx : List ByteArray} {X : List Bool} {p : Pt} {ps : List Pt} {i j c : Nat} (hcj : i + c ≤ j) (hj : j ≤ tx.length) : ((List.range' i (c + 1)).flatMap (spAt g tx X p ps i j)).length ≤ (tx.length + 1) ^ (ps.length + 1):=by
 have h:=splits_length g tx X (p :: ps) i j hj
 rw [splitsF_cons,show j + 1 - i = (c + 1) + (j - i - c) by omega,← List.range'_append_1,List.flatMap_append,List.length_append] at h
 simp only [List.length_cons] at h
 omega
theorem appFull0 {C : Cx} {k b : Nat} {x y : Opd} {d : Option Nat} {env : Env} {H : AHeap} {K : Env → AHeap → Prop} (es : List AV) (hx : evalOpd C.G env x = some (.sl k es .full)) (hy : (evalOpd C.G env y).bind (elems H k) = some [])
  (hK : K (putD env d (.sl k es .full)) H) : appW C k b x y d env H K:=by
 unfold appW
 have he : evalOp C.G env H (.append k b x y) = some (.sl k es .full,H):=by
  simp only [evalOp,hx,hy]; simp
 rw [he]; exact hK
theorem appFull {C : Cx} {k b : Nat} {x y : Opd} {d : Option Nat} {env : Env} {H : AHeap} {K : Env → AHeap → Prop} (es xs : List AV) (hx : evalOpd C.G env x = some (.sl k es .full)) (hy : (evalOpd C.G env y).bind (elems H k) = some xs) (hne : xs ≠ []) (hm : es.length + xs.length ≤ maxLenA)
  (hK : K (putD env d (.sl k (es ++ xs) (.tok H.length))) (H ++ [.tok (es.length + xs.length)])) : appW C k b x y d env H K:=by
 unfold appW
 have he : evalOp C.G env H (.append k b x y) = some (.sl k (es ++ xs) (.tok H.length),H ++ [.tok (es.length + xs.length)]):=by
  simp only [evalOp,hx,hy]; simp [hne,hm]
 rw [he]; exact hK
structure SS where
 c : Nat
 es : List AV
 T : Nat
 J : AHeap
def SOk (h : AHeap) (out : List (List Nat)) (s : SS) : Prop:=s.es.map AV.strip = out.map encS ∧ (s.es ≠ [] → h.length ≤ s.T ∧ (h ++ s.J)[s.T]? = some (.tok s.es.length))
theorem SOk.grow {h : AHeap} {out : List (List Nat)} {c c' T : Nat} {es : List AV} {J : AHeap} (hs : SOk h out ⟨c,es,T,J⟩) (K : AHeap) : SOk h out ⟨c',es,T,J ++ K⟩:=by
 refine ⟨hs.1,fun hne=>⟨(hs.2 hne).1,?_⟩⟩
 have hT:=(hs.2 hne).2
 show (h ++ (J ++ K))[T]? = _
 rw [← List.append_assoc,List.getElem?_append_left (List.getElem?_eq_some_iff.1 hT).1]
 exact hT
theorem SOk.len {h : AHeap} {out : List (List Nat)} {s : SS} (hs : SOk h out s) : s.es.length = out.length:=by
 have:=congrArg List.length hs.1
 simpa using this
theorem appOut {C : Cx} {b : Nat} {x y : Opd} {d : Option Nat} {env : Env} {K : Env → AHeap → Prop} {h J : AHeap} {out : List (List Nat)} {es : List AV} {T c : Nat} {w : List Nat} {v : AV} (c' : Nat) (hs : SOk h out ⟨c,es,T,J⟩) (hv : v.strip = encS w)
  (hx : evalOpd C.G env x = some (apd 1 es T)) (hy : (evalOpd C.G env y).bind (elems (h ++ J) 1) = some [v]) (hm : out.length + 1 ≤ maxLenA)
  (hK : ∀ es' T' J',SOk h (out ++ [w]) ⟨c',es',T',J'⟩ → K (putD env d (apd 1 es' T')) (h ++ J')) : appW C 1 b x y d env (h ++ J) K:=by
 have hl:=hs.len
 have h1 : es.map AV.strip = out.map encS:=hs.1
 simp only at hl
 cases es with
 | nil =>
  refine appNil v hx hy ?_
  have:=hK [v] (h ++ J).length (J ++ [.tok 1]) ⟨by simp [hv]; simpa using h1,fun _=>⟨by simp,?_⟩⟩
  ·rw [List.append_assoc]; exact this
  ·show (h ++ (J ++ [AObj.tok 1]))[(h ++ J).length]? = _
   rw [← List.append_assoc,List.getElem?_append_right (Nat.le_refl _)]; simp
 | cons a es =>
  have hT:=(hs.2 (by simp)).2
  have hT0:=(hs.2 (by simp)).1
  simp only at hT hT0
  have hTl:=(List.getElem?_eq_some_iff.1 hT).1
  refine appTok (a :: es) v T hx hy hT (by rw [hl]; exact hm) ?_
  have:=hK (a :: es ++ [v]) T (J.set (T - h.length) (.tok ((a :: es).length + 1))) ⟨by simp only [List.map_append,h1,List.map_cons,List.map_nil,hv],fun _=>⟨hT0,?_⟩⟩
  ·rw [List.set_append_right _ _ hT0]; exact this
  ·show (h ++ J.set (T - h.length) _)[T]? = _
   rw [List.getElem?_append_right hT0,List.getElem?_set_self (by simp at hTl; omega)]
   simp
set_option maxHeartbeats 4000000 in
theorem splits_c (g : Gr) (tx : List ByteArray) (tc : Cap) (X : List Bool) (o : Nat) (hn : tx.length ≤ 300) (hs : g.sorts.length ≤ 1000) (hX : X.length = g.sorts.length * (tx.length + 1) * (tx.length + 1)) :
  ∀ (ps : List Pt) (pc : Cap) (i j : Nat) {h : AHeap},h[o]? = some (.cells 0 (X.map bl)) → SortsOk g ps → ps.length ≤ 100 → (tx.length + 1) ^ ps.length ≤ 2 ^ 31 → i ≤ tx.length → j ≤ tx.length →
  AEx PP Gl 36 [encG g,encX tx.length o X.length,.sl 1 (tx.map sv) tc,.sl 3 (ps.map encP) pc,i64 i,i64 j] h (.ret (outV ps (splitsF g tx X ps i j))) h
 | [],pc,i,j,h,ho,hok,hpl,hpw,hi,hj=>by
  refine enter_ref14_splits (by simp) ?_
  simp -implicitDefEqProofs [code_ref14_splits,res_ref14_splits,ann_ref14_splits,encG]
  by_cases hij : i = j
  ·subst hij
   simp -implicitDefEqProofs
   exact retE (by simp [deferred,dslot]) rfl (by simp [splitsF,outV,encS]) rfl
  ·have hij' : ¬ (i : Int) = (j : Int):=by omega
   simp -implicitDefEqProofs [hij,hij']
   exact retE (by simp [deferred,dslot]) rfl (by simp [splitsF,outV,hij]) rfl
 | p :: ps,pc,i,j,h,ho,hok,hpl,hpw,hi,hj=>by
  have hol:=(List.getElem?_eq_some_iff.1 ho).1
  have hl0 : ¬ ((ps.length : Int) + 1 = 0):=by omega
  have hpm:=hok p (by simp)
  have hpl2 : ps.length ≤ 100:=by simp at hpl; omega
  have hps : SortsOk g ps:=fun q hq=>hok q (by simp [hq])
  have hpw2 : (tx.length + 1) ^ ps.length ≤ 2 ^ 31:=Nat.le_trans (Nat.pow_le_pow_right (by omega) (by simp)) hpw
  refine enter_ref14_splits (by simp) ?_
  simp -implicitDefEqProofs [code_ref14_splits,res_ref14_splits,ann_ref14_splits,encG,hl0]
  refine AWp.till (S:=SS) ⟨0,[],0,[]⟩ (fun s=>j + 1 - (i + s.c)) [2,3,4,5,6,7] (fun s=>[(13,apd 1 s.es s.T),(14,i64 ((i + s.c : Nat) : Int))]) (fun s=>h ++ s.J)
   (fun s=>(i + s.c ≤ j + 1 ∨ s.c = 0) ∧ SOk h ((List.range' i s.c).flatMap (spAt g tx X p ps i j)) s) mixed ⟨.inr rfl,by simp [SOk]⟩ (le_of (by simp [dslot])) (by simp) ?_
  rintro ⟨c,es,T,J⟩ ⟨z1,z2,z3⟩
  simp only at z1 z2 z3
  by_cases hc : i + c ≤ j
  ·have hce : (i : Int) + (c : Int) ≤ j:=by omega
   have hr1 : (List.range' i (c + 1)).flatMap (spAt g tx X p ps i j) = (List.range' i c).flatMap (spAt g tx X p ps i j) ++ spAt g tx X p ps i j (i + c):=by
    rw [List.range'_concat]; simp [List.flatMap_append]
   have t4 : IntKind.i64.wrap ((i : Int) + (c : Int) + 1) = (i : Int) + (c : Int) + 1:=IntWalk.i64_in _ (by omega)
   have w1 : IntKind.i64.wrap ((i : Int) + 1) = (i : Int) + 1:=IntWalk.i64_in _ (by omega)
   have htk : List.take ps.length (List.map encP ps) = List.map encP ps:=List.take_of_length_le (by simp)
   have hoJ : (h ++ J)[o]? = some (.cells 0 (X.map bl)):=by rw [List.getElem?_append_left hol]; exact ho
   have skip : ∀ K : AHeap,spAt g tx X p ps i j (i + c) = [] → SOk h ((List.range' i (c + 1)).flatMap (spAt g tx X p ps i j)) ⟨c + 1,es,T,J ++ K⟩:=fun K e=>by
    rw [hr1,e,List.append_nil]
    refine ⟨z2,fun hne=>⟨(z3 hne).1,?_⟩⟩
    have hT:=(z3 hne).2
    show (h ++ (J ++ K))[T]? = _
    rw [← List.append_assoc,List.getElem?_append_left (List.getElem?_eq_some_iff.1 hT).1]
    exact hT
   have bad : lieF g tx X p i (i + c) = false → spAt g tx X p ps i j (i + c) = []:=fun e=>by simp [spAt,e]
   have skip0 : spAt g tx X p ps i j (i + c) = [] → SOk h ((List.range' i (c + 1)).flatMap (spAt g tx X p ps i j)) ⟨c + 1,es,T,J⟩:=fun e=>by simpa using skip [] e
   by_cases hse : p.sort = ⟨#[]⟩
   ·by_cases hc1 : c = 1
    ·subst hc1
     have hin : i < tx.length:=by omega
     obtain ⟨t,ht⟩ : ∃ t,tx[i]? = some t:=⟨tx[i],by simp [hin]⟩
     by_cases hts : t = p.sym
     ·have hlie : lieF g tx X p i (i + 1) = true:=by simp [lieF,hse,emp,ht,hts]
      have hce1 : (i : Int) + 1 ≤ j:=by omega
      have hqs : (i : Int) + 1 = ((i + 1 : Nat) : Int):=by omega
      simp -implicitDefEqProofs [lp0_ref14_splits,hce,hce1,w1,encP,hse,ht,hts,sv,htk]
      refine callk (ends_c (h:=h ++ J) g tx tc X o ps (if pc = Cap.full then Cap.full else Cap.any) (i + 1) hn hs (by omega) (by omega) hps hX hoJ) (by simp [encG]) rfl ?_
      have hrow : ((h ++ J) ++ stg g tx X (i + 1) ps ps.length)[(h ++ J).length + ps.length]? = some (.cells 0 ((endsF g tx X (startF tx.length (i + 1)) ps).map bl)):=by
       rw [List.getElem?_append_right (by omega),Nat.add_sub_cancel_left,stg_get,List.take_length]
      rw [show (h ++ J).length + ps.length = h.length + J.length + ps.length by simp] at hrow
      have hel:=endsF_length (g:=g) (tx:=tx) (X:=X) (i:=i + 1) ps
      have hsp : spAt g tx X p ps i j (i + 1) = if (endsF g tx X (startF tx.length (i + 1)) ps).getD j false = true then (splitsF g tx X ps (i + 1) j).map ((i + 1) :: ·) else []:=by simp [spAt,hlie]
      have hsk:=skip (stg g tx X (i + 1) ps ps.length)
      have inner0 : SOk h ((List.range' i 1).flatMap (spAt g tx X p ps i j)) ⟨0,es,T,J ++ stg g tx X (i + 1) ps ps.length⟩:=by
       refine ⟨z2,fun hne=>⟨(z3 hne).1,?_⟩⟩
       have hT:=(z3 hne).2
       show (h ++ (J ++ _))[T]? = _
       rw [← List.append_assoc,List.getElem?_append_left (List.getElem?_eq_some_iff.1 hT).1]
       exact hT
      have hoK : ((h ++ J) ++ stg g tx X (i + 1) ps ps.length)[o]? = some (.cells 0 (X.map bl)):=by rw [List.getElem?_append_left (by simp; omega)]; exact hoJ
      have hjl : j < tx.length + 1:=by omega
      obtain ⟨b,hb⟩ : ∃ b,(endsF g tx X (startF tx.length (i + 1)) ps)[j]? = some b:=⟨_,List.getElem?_eq_getElem (by omega)⟩
      rw [show (endsF g tx X (startF tx.length (i + 1)) ps).getD j false = b by simp [List.getD,hb]] at hsp
      have hb2 : (endsF g tx X (startF tx.length (i + 1)) ps)[j]'(by omega) = b:=(List.getElem?_eq_some_iff.1 hb).2
      have t5 : IntKind.i64.wrap ((i : Int) + 1 + 1) = (i : Int) + 1 + 1:=IntWalk.i64_in _ (by omega)
      cases b with
      | false =>
       simp -implicitDefEqProofs only [goOn_ret]
       generalize hK3 : (h ++ J) ++ stg g tx X (i + 1) ps ps.length = K3 at *
       simp -implicitDefEqProofs [hrow,hel,hjl,hb,hb2,t5]
       refine ⟨⟨2,es,T,J ++ stg g tx X (i + 1) ps ps.length⟩,by simp; omega,⟨.inl (by simp; omega),hsk (by rw [hsp]; simp)⟩,le_of (by simp [dslot]; omega),by rw [← hK3,List.append_assoc]⟩
      | true =>
       simp -implicitDefEqProofs only [goOn_ret]
       have hih:=splits_c g tx tc X o hn hs hX ps (if pc = Cap.full then Cap.full else Cap.any) (i + 1) j hoK hps hpl2 hpw2 (by omega) hj
       generalize hK3 : (h ++ J) ++ stg g tx X (i + 1) ps ps.length = K3 at *
       simp -implicitDefEqProofs [hrow,hel,hjl,hb,hb2,htk]
       refine callk hih (by simp [encG]) rfl ?_
       have hll:=splits_length g tx X ps (i + 1) j hj
       have hsp2 : spAt g tx X p ps i j (i + 1) = (splitsF g tx X ps (i + 1) j).map ((i + 1) :: ·):=by rw [hsp]; simp
       have hea:=splits_each g tx X ps (i + 1) j
       generalize splitsF g tx X ps (i + 1) j = l at *
       simp -implicitDefEqProofs
       refine AWp.till (S:=SS) ⟨0,es,T,J ++ stg g tx X (i + 1) ps ps.length⟩ (fun s=>l.length - s.c) [2,3,4,5,6,7,14,16] (fun s=>[(13,apd 1 s.es s.T),(17,i64 s.c)]) (fun s=>h ++ s.J)
        (fun s=>s.c ≤ l.length ∧ SOk h ((List.range' i 1).flatMap (spAt g tx X p ps i j) ++ (l.take s.c).map ((i + 1) :: ·)) s) mixed ⟨by simp,by simpa [SOk] using inner0⟩ (le_of (by simp [dslot])) (by rw [← hK3,List.append_assoc]) ?_
       rintro ⟨k,es,T,J⟩ ⟨y1,y2,y3⟩
       simp only at y1 y2 y3
       by_cases hk : k < l.length
       ·obtain ⟨w,hw⟩ : ∃ w,l[k]? = some w:=⟨l[k],by simp [hk]⟩
        have hkl : (k : Int) < l.length:=by omega
        have hlne : l ≠ []:=by intro e; rw [e] at hk; simp at hk
        simp -implicitDefEqProofs [lp1_ref14_splits,hkl,outV,hw,hlne]
        have hpre : ((List.range' i 1).flatMap (spAt g tx X p ps i j) ++ (l.take k).map ((i + 1) :: ·)).length + 1 ≤ maxLenA:=by
         have hq:=pre_len (g:=g) (X:=X) (p:=p) (ps:=ps) (i:=i) (j:=j) (c:=1) hc hj
         rw [hr1,hsp2] at hq
         simp only [List.length_append,List.length_map,List.length_take,List.length_cons] at hq hpw ⊢
         unfold maxLenA
         omega
        have w5 : IntKind.i64.wrap ((k : Int) + 1) = (k : Int) + 1:=IntWalk.i64_in _ (by have : l.length ≤ 2 ^ 31:=Nat.le_trans hll hpw2; omega)
        have hout : (List.range' i 1).flatMap (spAt g tx X p ps i j) ++ (l.take k).map ((i + 1) :: ·) ++ [(i + 1) :: w] = (List.range' i 1).flatMap (spAt g tx X p ps i j) ++ (l.take (k + 1)).map ((i + 1) :: ·):=by
         rw [List.take_add_one,hw]; simp
        by_cases hwn : w = []
        ·subst hwn
         refine appFull0 [i64 ((i : Int) + 1)] (by simp) (by simp [encS,elems]) ?_
         simp -implicitDefEqProofs
         refine appOut (c:=k) (w:=[i + 1]) (v:=.sl 1 [i64 ((i : Int) + 1)] .full) (k + 1) ⟨y2,y3⟩ (by simp [encS,AV.strip,stripL_eq,Cap.strip]) (by simp) (by simp [elems]) hpre fun es' T' J' hs'=>?_
         rw [hout] at hs'
         simp -implicitDefEqProofs [w5]
         exact ⟨⟨k + 1,es',T',J'⟩,by simp; omega,⟨by simp; omega,by simpa using hs'⟩,le_of (by simp [dslot]),rfl⟩
        ·obtain ⟨a,w',rfl⟩:=List.exists_cons_of_ne_nil hwn
         have hwl : (a :: w').length + 1 ≤ maxLenA:=by
          rw [hea _ (List.mem_of_getElem? hw)]; unfold maxLenA; omega
         refine appFull [i64 ((i : Int) + 1)] ((a :: w').map fun (n : Nat)=>i64 (n : Int)) (by simp) (by simp [encS,elems]) (by simp) (by simp at hwl ⊢; omega) ?_
         rw [List.append_assoc]
         simp -implicitDefEqProofs
         refine appOut (c:=k) (w:=(i + 1) :: a :: w') (v:=.sl 1 (i64 ((i : Int) + 1) :: i64 (a : Int) :: w'.map fun (n : Nat)=>i64 (n : Int)) (.tok (h.length + J.length))) (k + 1) (SOk.grow (c:=k) ⟨y2,y3⟩ _) (by simp [encS,AV.strip,stripL_eq,Cap.strip,Function.comp_def]) (by simp) (by simp [elems]) hpre fun es' T' J' hs'=>?_
         rw [hout] at hs'
         simp -implicitDefEqProofs [w5]
         exact ⟨⟨k + 1,es',T',J'⟩,by simp; omega,⟨by simp; omega,by simpa using hs'⟩,le_of (by simp [dslot]),rfl⟩
       ·have hk' : k = l.length:=by omega
        subst hk'
        have hkl : ¬ (l.length : Int) < l.length:=by omega
        simp -implicitDefEqProofs [lp1_ref14_splits,outV,t5]
        refine ⟨⟨2,es,T,J⟩,by simp; omega,⟨.inl (by simp; omega),?_⟩,le_of (by simp [dslot]; omega),rfl⟩
        simp only [SOk] at y2 y3 ⊢
        rw [hr1,hsp2]
        exact ⟨by simpa using y2,by simpa using y3⟩
     ·have hlie : lieF g tx X p i (i + 1) = false:=by simp [lieF,hse,emp,ht,hts]
      have hce1 : (i : Int) + 1 ≤ j:=by omega
      have t5 : IntKind.i64.wrap ((i : Int) + 1 + 1) = (i : Int) + 1 + 1:=IntWalk.i64_in _ (by omega)
      simp -implicitDefEqProofs [lp0_ref14_splits,hce,hce1,w1,encP,hse,ht,hts,sv,t5]
      exact ⟨⟨2,es,T,J⟩,by simp; omega,⟨.inl (by simp; omega),skip0 (bad hlie)⟩,le_of (by simp [dslot]; omega),rfl⟩
    ·have hlie : lieF g tx X p i (i + c) = false:=by simp [lieF,hse,emp,hc1]
     have hc1' : ¬ (c : Int) = 1:=by omega
     simp -implicitDefEqProofs [lp0_ref14_splits,hce,w1,encP,hse,hc1,hc1',t4]
     exact ⟨⟨c + 1,es,T,J⟩,by simp; omega,⟨.inl (by simp; omega),skip0 (bad hlie)⟩,le_of (by simp [dslot]; omega),rfl⟩
   ·have hdummy : True:=trivial
    obtain ⟨hx0,hx1⟩:=hpm hse
    obtain ⟨x,hx⟩ : ∃ x : Nat,indexF g.sorts p.sort = x:=⟨(indexF g.sorts p.sort).toNat,by omega⟩
    have hxn : x < g.sorts.length:=by omega
    have hlt2 : atF tx.length x i (i + c) < X.length:=by rw [hX]; exact atF_lt hxn (by omega) (by omega)
    obtain ⟨v,hv⟩ : ∃ v,X[atF tx.length x i (i + c)]? = some v:=⟨_,List.getElem?_eq_getElem hlt2⟩
    have hv2 : X[atF tx.length x i (i + c)] = v:=(List.getElem?_eq_some_iff.1 hv).2
    have hlie0 : lieF g tx X p i (i + c) = v:=by
     have : (indexF g.sorts p.sort).toNat = x:=by omega
     simp [lieF,hse,markF,this,List.getD,hv]
    simp -implicitDefEqProofs [lp0_ref14_splits,hce,encP,hse]
    refine callk (rindex14_c g.sorts g.sc p.sort (by omega)) rfl rfl ?_
    simp -implicitDefEqProofs [hx]
    refine callk (at_c tx.length o X.length x i (i + c) (by omega) (by omega) (by omega) (by omega)) (by simp) rfl ?_
    cases v with
    | false =>
     simp -implicitDefEqProofs [hlt2,hoJ,hv,hv2,t4]
     exact ⟨⟨c + 1,es,T,J⟩,by simp; omega,⟨.inl (by simp; omega),skip0 (bad hlie0)⟩,le_of (by simp [dslot]; omega),rfl⟩
    | true =>
      have hlie : lieF g tx X p i (i + c) = true:=hlie0
      simp -implicitDefEqProofs [hlt2,hoJ,hv,hv2,htk]
      refine callk (ends_c (h:=h ++ J) g tx tc X o ps (if pc = Cap.full then Cap.full else Cap.any) (i + c) hn hs (by omega) (by omega) hps hX hoJ) (by simp [encG]) rfl ?_
      have hrow : ((h ++ J) ++ stg g tx X (i + c) ps ps.length)[(h ++ J).length + ps.length]? = some (.cells 0 ((endsF g tx X (startF tx.length (i + c)) ps).map bl)):=by
       rw [List.getElem?_append_right (by omega),Nat.add_sub_cancel_left,stg_get,List.take_length]
      rw [show (h ++ J).length + ps.length = h.length + J.length + ps.length by simp] at hrow
      have hel:=endsF_length (g:=g) (tx:=tx) (X:=X) (i:=i + c) ps
      have hsp : spAt g tx X p ps i j (i + c) = if (endsF g tx X (startF tx.length (i + c)) ps).getD j false = true then (splitsF g tx X ps (i + c) j).map ((i + c) :: ·) else []:=by simp [spAt,hlie]
      have hsk:=skip (stg g tx X (i + c) ps ps.length)
      have inner0 : SOk h ((List.range' i c).flatMap (spAt g tx X p ps i j)) ⟨0,es,T,J ++ stg g tx X (i + c) ps ps.length⟩:=by
       refine ⟨z2,fun hne=>⟨(z3 hne).1,?_⟩⟩
       have hT:=(z3 hne).2
       show (h ++ (J ++ _))[T]? = _
       rw [← List.append_assoc,List.getElem?_append_left (List.getElem?_eq_some_iff.1 hT).1]
       exact hT
      have hoK : ((h ++ J) ++ stg g tx X (i + c) ps ps.length)[o]? = some (.cells 0 (X.map bl)):=by rw [List.getElem?_append_left (by simp; omega)]; exact hoJ
      have hjl : j < tx.length + 1:=by omega
      obtain ⟨b,hb⟩ : ∃ b,(endsF g tx X (startF tx.length (i + c)) ps)[j]? = some b:=⟨_,List.getElem?_eq_getElem (by omega)⟩
      rw [show (endsF g tx X (startF tx.length (i + c)) ps).getD j false = b by simp [List.getD,hb]] at hsp
      have hb2 : (endsF g tx X (startF tx.length (i + c)) ps)[j]'(by omega) = b:=(List.getElem?_eq_some_iff.1 hb).2
      have t5 : IntKind.i64.wrap ((i : Int) + (c : Int) + 1) = (i : Int) + (c : Int) + 1:=IntWalk.i64_in _ (by omega)
      cases b with
      | false =>
       simp -implicitDefEqProofs only [goOn_ret]
       generalize hK3 : (h ++ J) ++ stg g tx X (i + c) ps ps.length = K3 at *
       simp -implicitDefEqProofs [hrow,hel,hjl,hb,hb2,t5]
       refine ⟨⟨c + 1,es,T,J ++ stg g tx X (i + c) ps ps.length⟩,by simp; omega,⟨.inl (by simp; omega),hsk (by rw [hsp]; simp)⟩,le_of (by simp [dslot]; omega),by rw [← hK3,List.append_assoc]⟩
      | true =>
       simp -implicitDefEqProofs only [goOn_ret]
       have hih:=splits_c g tx tc X o hn hs hX ps (if pc = Cap.full then Cap.full else Cap.any) (i + c) j hoK hps hpl2 hpw2 (by omega) hj
       generalize hK3 : (h ++ J) ++ stg g tx X (i + c) ps ps.length = K3 at *
       simp -implicitDefEqProofs [hrow,hel,hjl,hb,hb2,htk]
       refine callk hih (by simp [encG]) rfl ?_
       have hll:=splits_length g tx X ps (i + c) j hj
       have hsp2 : spAt g tx X p ps i j (i + c) = (splitsF g tx X ps (i + c) j).map ((i + c) :: ·):=by rw [hsp]; simp
       have hea:=splits_each g tx X ps (i + c) j
       generalize splitsF g tx X ps (i + c) j = l at *
       simp -implicitDefEqProofs
       refine AWp.till (S:=SS) ⟨0,es,T,J ++ stg g tx X (i + c) ps ps.length⟩ (fun s=>l.length - s.c) [2,3,4,5,6,7,14,16] (fun s=>[(13,apd 1 s.es s.T),(17,i64 s.c)]) (fun s=>h ++ s.J)
        (fun s=>s.c ≤ l.length ∧ SOk h ((List.range' i c).flatMap (spAt g tx X p ps i j) ++ (l.take s.c).map ((i + c) :: ·)) s) mixed ⟨by simp,by simpa [SOk] using inner0⟩ (le_of (by simp [dslot])) (by rw [← hK3,List.append_assoc]) ?_
       rintro ⟨k,es,T,J⟩ ⟨y1,y2,y3⟩
       simp only at y1 y2 y3
       by_cases hk : k < l.length
       ·obtain ⟨w,hw⟩ : ∃ w,l[k]? = some w:=⟨l[k],by simp [hk]⟩
        have hkl : (k : Int) < l.length:=by omega
        have hlne : l ≠ []:=by intro e; rw [e] at hk; simp at hk
        simp -implicitDefEqProofs [lp1_ref14_splits,hkl,outV,hw,hlne]
        have hpre : ((List.range' i c).flatMap (spAt g tx X p ps i j) ++ (l.take k).map ((i + c) :: ·)).length + 1 ≤ maxLenA:=by
         have hq:=pre_len (g:=g) (X:=X) (p:=p) (ps:=ps) (i:=i) (j:=j) (c:=c) hc hj
         rw [hr1,hsp2] at hq
         simp only [List.length_append,List.length_map,List.length_take,List.length_cons] at hq hpw ⊢
         unfold maxLenA
         omega
        have w5 : IntKind.i64.wrap ((k : Int) + 1) = (k : Int) + 1:=IntWalk.i64_in _ (by have : l.length ≤ 2 ^ 31:=Nat.le_trans hll hpw2; omega)
        have hout : (List.range' i c).flatMap (spAt g tx X p ps i j) ++ (l.take k).map ((i + c) :: ·) ++ [(i + c) :: w] = (List.range' i c).flatMap (spAt g tx X p ps i j) ++ (l.take (k + 1)).map ((i + c) :: ·):=by
         rw [List.take_add_one,hw]; simp
        by_cases hwn : w = []
        ·subst hwn
         refine appFull0 [i64 ((i : Int) + (c : Int))] (by simp) (by simp [encS,elems]) ?_
         simp -implicitDefEqProofs
         refine appOut (c:=k) (w:=[i + c]) (v:=.sl 1 [i64 ((i : Int) + (c : Int))] .full) (k + 1) ⟨y2,y3⟩ (by simp [encS,AV.strip,stripL_eq,Cap.strip]) (by simp) (by simp [elems]) hpre fun es' T' J' hs'=>?_
         rw [hout] at hs'
         simp -implicitDefEqProofs [w5]
         exact ⟨⟨k + 1,es',T',J'⟩,by simp; omega,⟨by simp; omega,by simpa using hs'⟩,le_of (by simp [dslot]),rfl⟩
        ·obtain ⟨a,w',rfl⟩:=List.exists_cons_of_ne_nil hwn
         have hwl : (a :: w').length + 1 ≤ maxLenA:=by
          rw [hea _ (List.mem_of_getElem? hw)]; unfold maxLenA; omega
         refine appFull [i64 ((i : Int) + (c : Int))] ((a :: w').map fun (n : Nat)=>i64 (n : Int)) (by simp) (by simp [encS,elems]) (by simp) (by simp at hwl ⊢; omega) ?_
         rw [List.append_assoc]
         simp -implicitDefEqProofs
         refine appOut (c:=k) (w:=(i + c) :: a :: w') (v:=.sl 1 (i64 ((i : Int) + (c : Int)) :: i64 (a : Int) :: w'.map fun (n : Nat)=>i64 (n : Int)) (.tok (h.length + J.length))) (k + 1) (SOk.grow (c:=k) ⟨y2,y3⟩ _) (by simp [encS,AV.strip,stripL_eq,Cap.strip,Function.comp_def]) (by simp) (by simp [elems]) hpre fun es' T' J' hs'=>?_
         rw [hout] at hs'
         simp -implicitDefEqProofs [w5]
         exact ⟨⟨k + 1,es',T',J'⟩,by simp; omega,⟨by simp; omega,by simpa using hs'⟩,le_of (by simp [dslot]),rfl⟩
       ·have hk' : k = l.length:=by omega
        subst hk'
        have hkl : ¬ (l.length : Int) < l.length:=by omega
        simp -implicitDefEqProofs [lp1_ref14_splits,outV,t5]
        refine ⟨⟨c + 1,es,T,J⟩,by simp; omega,⟨.inl (by simp; omega),?_⟩,le_of (by simp [dslot]; omega),rfl⟩
        simp only [SOk] at y2 y3 ⊢
        rw [hr1,hsp2]
        exact ⟨by simpa using y2,by simpa using y3⟩
  ·have hce : ¬ (i : Int) + (c : Int) ≤ j:=by omega
   have hcc : (List.range' i (j + 1 - i)) = List.range' i c:=by
    rcases z1 with z1 | z1
    ·rw [show j + 1 - i = c by omega]
    ·subst z1; rw [show j + 1 - i = 0 by omega]
   have hst : (apd 1 es T).strip = outV (p :: ps) (splitsF g tx X (p :: ps) i j):=by
    rw [splitsF_cons,hcc]
    have hl : es = [] ↔ (List.range' i c).flatMap (spAt g tx X p ps i j) = []:=by
     constructor
     ·intro e; subst e; simpa using z2.symm
     ·intro e; rw [e] at z2; simpa using z2
    unfold outV
    rw [← z2]
    cases es with
    | nil=>rw [hl.1 rfl]; rfl
    | cons a es =>
     have hne : ¬ (List.range' i c).flatMap (spAt g tx X p ps i j) = []:=fun e=>by have:=hl.2 e; cases this
     rw [if_neg hne,if_neg hne,if_neg (by simp)]
     simp only [apd_cons,AV.strip,stripL_eq]
     rfl
   simp -implicitDefEqProofs [lp0_ref14_splits,hce]
   exact retD (by simp [deferred,dslot]) rfl (by rw [hst]; exact outV_inb _ _ _) (by rw [hst]) rfl
end Go.Apx
end
section
namespace Go.Apx
open Go.Proofs
set_option linter.unusedVariables false
set_option linter.unusedSimpArgs false
set_option linter.unnecessarySimpa false
set_option maxRecDepth 4000
def askedF (g : Gr) (s : ByteArray) (tx : List ByteArray) : Int:=if checkF g ≠ 0 then checkF g else if hasF g.sorts s = false then 5 else if tx.length > 200 then 4 else 0
theorem asked_c (g : Gr) (s : ByteArray) (tx : List ByteArray) (tc : Cap) {h : AHeap} (hs : g.sorts.length ≤ 2 ^ 31) (hc : AEx PP Gl 47 [encG g] h (.ret (i64 (checkF g))) h) :
  AEx PP Gl 28 [encG g,.sc (.string s),.sl 1 (tx.map sv) tc] h (.ret (i64 (askedF g s tx))) h:=by
 refine enter_earley_asked (by simp) ?_
 simp -implicitDefEqProofs [code_earley_asked,res_earley_asked,ann_earley_asked,encG]
 refine callk hc (by simp [encG]) rfl ?_
 by_cases h1 : checkF g = 0
 ·rw [h1]
  simp -implicitDefEqProofs
  refine callk (contains_c g.sorts g.sc s hs) rfl rfl ?_
  cases h2 : hasF g.sorts s with
  | false =>
   simp -implicitDefEqProofs
   exact retE (by simp [deferred,dslot]) rfl (by simp [askedF,h1,h2]) rfl
  | true =>
   simp -implicitDefEqProofs
   refine ⟨fun h3=>?_,fun h3=>?_⟩
   ·have h3' : tx.length > 200:=by omega
    exact retE (by simp [deferred,dslot]) rfl (by simp [askedF,h1,h2,h3']) rfl
   ·have h3' : ¬ tx.length > 200:=by omega
    exact retE (by simp [deferred,dslot]) rfl (by simp [askedF,h1,h2]; omega) rfl
 ·simp -implicitDefEqProofs [h1]
  exact retE (by simp [deferred,dslot]) rfl (by simp [askedF,h1]) rfl
end Go.Apx
end
section
namespace Go.Apx
open Go.Proofs
set_option linter.unusedVariables false
set_option linter.unusedSimpArgs false
set_option linter.unnecessarySimpa false
set_option maxRecDepth 4000
structure Nd where
 sort : ByteArray
 i : Nat
 j : Nat
 ways : AV
def cellsN (x : Nd) : List AV:=[.sc (.string x.sort),i64 (x.i : Int),i64 (x.j : Int),x.ways]
theorem cellsN_get (l : List Nd) (k q : Nat) (x : Nd) (h : l[k]? = some x) (hq : q < 4) : (l.flatMap cellsN)[k * 4 + q]? = (cellsN x)[q]?:=by
 induction l generalizing k with
 | nil=>simp at h
 | cons a l ih =>
  cases k with
  | zero =>
   simp at h; subst h
   rw [List.flatMap_cons,List.getElem?_append_left (by simp [cellsN]; omega)]
   simp
  | succ k =>
   rw [List.flatMap_cons,List.getElem?_append_right (by simp [cellsN]; omega)]
   have:=ih k (by simpa using h)
   rw [← this]
   congr 1
   simp [cellsN]; omega
theorem cellsN_length (l : List Nd) : (l.flatMap cellsN).length = l.length * 4:=by
 induction l with
 | nil=>rfl
 | cons a l ih=>rw [List.flatMap_cons,List.length_append,ih]; simp [cellsN]; omega
theorem rows_cells : ∀ l : List Nd,rows 4 l.length (l.flatMap cellsN) = l.map fun x=>.agg (cellsN x)
 | []=>rfl
 | x :: l=>by
  have ih:=rows_cells l
  simp only [List.length_cons,List.flatMap_cons,rows]
  have h1 : (cellsN x ++ l.flatMap cellsN).drop 4 = l.flatMap cellsN:=by simp [cellsN]
  have h2 : (cellsN x ++ l.flatMap cellsN).take 4 = cellsN x:=by simp [cellsN]
  simp only [h1,h2,ih,List.map_cons]
  rfl
abbrev encF (o g n : Nat) (rc : RCap) : AV:=.agg [.rf o g 0 n rc]
def isN (s : ByteArray) (i j : Nat) (x : Nd) : Bool:=decide (x.sort = s) && decide (x.i = i) && decide (x.j = j)
def nodeNo (l : List Nd) (s : ByteArray) (i j : Nat) : List Nd × Nat:=match l.findIdx? (isN s i j) with
 | some k=>(l,k)
 | none=>(l ++ [⟨s,i,j,.sl 0 [] .nil⟩],l.length)
theorem nodeNo_some {l : List Nd} {s : ByteArray} {i j k : Nat} {x : Nd} (hk : l[k]? = some x) (hx : isN s i j x = true) (hb : ∀ y ∈ l.take k,isN s i j y = false) : nodeNo l s i j = (l,k):=by
 have hlt:=(List.getElem?_eq_some_iff.1 hk).1
 have : l.findIdx? (isN s i j) = some k:=by
  rw [List.findIdx?_eq_some_iff_getElem]
  refine ⟨hlt,by rw [(List.getElem?_eq_some_iff.1 hk).2]; exact hx,fun m hm=>?_⟩
  have:=hb l[m] (List.mem_of_getElem? (i:=m) (by rw [List.getElem?_take,if_pos hm]; simp))
  simp [this]
 simp [nodeNo,this]
theorem nodeNo_none {l : List Nd} {s : ByteArray} {i j : Nat} (hb : ∀ y ∈ l,isN s i j y = false) : nodeNo l s i j = (l ++ [⟨s,i,j,.sl 0 [] .nil⟩],l.length):=by
 have : l.findIdx? (isN s i j) = none:=List.findIdx?_eq_none_iff.2 hb
 simp [nodeNo,this]
def NumR (l : List Nd) (o : Nat) (s : ByteArray) (i j : Nat) (h : AHeap) (r : AEnd) (h' : AHeap) : Prop :=
 ∃ K o' g' rc',r = .ret (.tup [encF o' g' (nodeNo l s i j).1.length rc',i64 ((nodeNo l s i j).2 : Int)]) ∧ h' = h ++ K ∧ h'[o']? = some (.cells g' ((nodeNo l s i j).1.flatMap cellsN)) ∧ (o' = o ∨ h.length ≤ o')
set_option maxHeartbeats 4000000 in
theorem number_c (l : List Nd) (o g : Nat) (rc : RCap) (s : ByteArray) (i j : Nat) {h : AHeap} (ho : h[o]? = some (.cells g (l.flatMap cellsN))) (hl : l.length ≤ 2 ^ 31) (hw : ∀ x ∈ l,x.ways.one = true) (hne : l ≠ []) :
  ACalls PP Gl 38 [encF o g l.length rc,.sc (.string s),i64 (i : Int),i64 (j : Int)] h
   (NumR l o s i j h):=by
 have hol:=(List.getElem?_eq_some_iff.1 ho).1
 refine enter_ref14_number (by simp) ?_
 simp -implicitDefEqProofs [code_ref14_number,res_ref14_number,ann_ref14_number]
 have h0 : ∀ z z',(h ++ [z,z'])[h.length]? = some z:=fun z z'=>by simp
 have h1 : ∀ z z',(h ++ [z,z'])[h.length + 1]? = some z':=fun z z'=>by rw [List.getElem?_append_right (by omega)]; simp
 have h2 : ∀ z z',(h ++ [z,z'])[o]? = some (.cells g (l.flatMap cellsN)):=fun z z'=>by rw [List.getElem?_append_left hol]; exact ho
 refine AWp.cnt l.length [1,2,3,4,8] (fun c=>[(10,i64 (c : Int))]) (fun _=>h ++ [.cells 0 [.rf o g 0 l.length rc],.cells 0 [.sl 0 [] .nil]]) (fun c=>∀ y ∈ l.take c,isN s i j y = false) mixed (by simp) (le_of (by simp [dslot])) rfl ?_ ?_
 ·intro c hc hz
  obtain ⟨x,hx⟩ : ∃ x,l[c]? = some x:=⟨l[c],by simp [hc]⟩
  have hlt : (c : Int) < l.length:=by omega
  have e0 : (l.flatMap cellsN)[c * 4]? = some (.sc (.string x.sort)):=by simpa [cellsN] using cellsN_get l c 0 x hx (by omega)
  have e1 : (l.flatMap cellsN)[c * 4 + 1]? = some (i64 (x.i : Int)):=by simpa [cellsN] using cellsN_get l c 1 x hx (by omega)
  have e2 : (l.flatMap cellsN)[c * 4 + 2]? = some (i64 (x.j : Int)):=by simpa [cellsN] using cellsN_get l c 2 x hx (by omega)
  have t4 : IntKind.i64.wrap ((c : Int) + 1) = (c : Int) + 1:=IntWalk.i64_in _ (by omega)
  have next : isN s i j x = false → ∀ y ∈ l.take (c + 1),isN s i j y = false:=fun e=>take_ext hx (q:=fun y=>isN s i j y = false) hz e
  by_cases b0 : x.sort = s
  ·by_cases b1 : x.i = i
   ·by_cases b2 : x.j = j
    ·have hn:=nodeNo_some hx (by simp [isN,b0,b1,b2]) hz
     simp -implicitDefEqProofs [lp0_ref14_number,h0,h1,h2,hlt,hc,e0,e1,e2,b0,b1,b2,hol]
     have h3:=h2 (.cells 0 [.rf o g 0 l.length rc]) (.cells 0 [.rf o g 0 l.length rc])
     exact ret1 (v:=.tup [encF o g l.length rc,i64 (c : Int)]) (by simp [deferred,dslot]) (by simp [evalRes,evalRes1,h1]) (by unfold NumR; exact ⟨_,o,g,rc,by rw [hn],rfl,by rw [hn]; exact h3,.inl rfl⟩)
    ·have b2' : ¬ (x.j : Int) = j:=by omega
     simp -implicitDefEqProofs [lp0_ref14_number,h0,h1,h2,hlt,hc,e0,e1,e2,b0,b1,b2,b2',t4]
     exact ⟨by simpa using next (by simp [isN,b2]),le_of (by simp [dslot])⟩
   ·have b1' : ¬ (x.i : Int) = i:=by omega
    simp -implicitDefEqProofs [lp0_ref14_number,h0,h1,h2,hlt,hc,e0,e1,e2,b0,b1,b1',t4]
    exact ⟨by simpa using next (by simp [isN,b1]),le_of (by simp [dslot])⟩
  ·simp -implicitDefEqProofs [lp0_ref14_number,h0,h1,h2,hlt,hc,e0,e1,e2,b0,t4]
   exact ⟨by simpa using next (by simp [isN,b0]),le_of (by simp [dslot])⟩
 ·intro hz
  have hsum : l.length * 4 ≤ (l.map fun a=>(cellsN a).length).sum:=by
   have:=cellsN_length l; rw [List.length_flatMap] at this; omega
  have hsum2 : (l.map fun a=>(cellsN a).length).sum = l.length * 4:=by
   have:=cellsN_length l; rwa [List.length_flatMap] at this
  have hrows : rows 4 l.length (l.flatMap cellsN) = l.map fun x=>.agg (cellsN x):=rows_cells l
  have hfl : (l.map fun x=>AV.agg (cellsN x)).flatMap AV.cells = l.flatMap cellsN:=by
   rw [List.flatMap_map]; rfl
  have hmx : l.length ≤ maxLenA:=by unfold maxLenA; omega
  have hmx1 : l.length + 1 ≤ maxLenA:=by unfold maxLenA; omega
  have hall : ∀ y ∈ l,isN s i j y = false:=take_all hz
  have hn:=nodeNo_none hall
  have w4 : IntKind.i64.wrap ((l.length : Int) + 1 - 1) = (l.length : Int):=by rw [Int.add_sub_cancel]; exact IntWalk.i64_in _ (by omega)
  simp -implicitDefEqProofs [lp0_ref14_number,h0,h1,h2,hne,hsum,hrows,hfl,hmx,hsum2,hmx1,w4]
  have w6 : IntKind.i64.wrap (l.length : Int) = l.length:=IntWalk.i64_in _ (by omega)
  rw [w6]
  have h3 : ∀ z z' z'',(h ++ [z,z',z''])[h.length + 1]? = some z':=fun z z' z''=>by rw [List.getElem?_append_right (by omega)]; simp
  have h4 : ∀ z z' z'',(h ++ [z,z',z''])[h.length + 2]? = some z'':=fun z z' z''=>by rw [List.getElem?_append_right (by omega)]; simp
  exact ret1 (v:=.tup [encF (h.length + 2) 1 (l.length + 1) (.own 4),i64 (l.length : Int)]) (by simp [deferred,dslot]) (by simp [evalRes,evalRes1,h3]) (by unfold NumR; exact ⟨_,h.length + 2,1,.own 4,by rw [hn]; simp,rfl,by rw [hn,h4]; simp [cellsN],.inr (by omega)⟩)
end Go.Apx
end
section
namespace Go.Apx
open Go.Proofs
set_option linter.unusedVariables false
set_option linter.unusedSimpArgs false
set_option linter.unnecessarySimpa false
set_option maxRecDepth 4000
structure Sp where
 s : ByteArray
 i : Nat
 j : Nat
deriving DecidableEq
structure Wy where
 r : Nat
 o : Nat
 kids : List Nat
structure TN where
 sp : Sp
 ws : List Wy
 T : Nat
def i64s (l : List Nat) : List AV:=l.map fun (n : Nat)=>i64 (n : Int)
def encW (w : Wy) : AV:=.agg [i64 (w.r : Int),.rf w.o 0 0 w.kids.length .full]
@[simp] theorem isPend_encW (w : Wy) : (encW w).isPend = false:=rfl
@[simp] theorem one_encW (w : Wy) : (encW w).one = false:=rfl
def encN (x : TN) : Nd:=⟨x.sp.s,x.sp.i,x.sp.j,apd 2 (x.ws.map encW) x.T⟩
@[simp] theorem encN_sort (x : TN) : (encN x).sort = x.sp.s:=rfl
@[simp] theorem encN_i (x : TN) : (encN x).i = x.sp.i:=rfl
@[simp] theorem encN_j (x : TN) : (encN x).j = x.sp.j:=rfl
@[simp] theorem encN_ways (x : TN) : (encN x).ways = apd 2 (x.ws.map encW) x.T:=rfl
def numSp (L : List Sp) (x : Sp) : List Sp × Nat:=match L.findIdx? (fun y=>decide (y = x)) with
 | some k=>(L,k)
 | none=>(L ++ [x],L.length)
theorem numSp_le (L : List Sp) (x : Sp) : (numSp L x).1.length ≤ L.length + 1:=by
 unfold numSp; split <;> simp
def numTN (N : List TN) (x : Sp) : List TN × Nat:=match N.findIdx? (fun y=>decide (y.sp = x)) with
 | some k=>(N,k)
 | none=>(N ++ [⟨x,[],0⟩],N.length)
theorem findIdx?_map' {α β : Type} (p : β → Bool) (f : α → β) (l : List α) : (l.map f).findIdx? p = l.findIdx? (fun a=>p (f a)):=by
 induction l with
 | nil=>rfl
 | cons a l ih=>simp only [List.map_cons,List.findIdx?_cons,ih]
theorem numTN_sp (N : List TN) (x : Sp) : (numTN N x).1.map (·.sp) = (numSp (N.map (·.sp)) x).1 ∧ (numTN N x).2 = (numSp (N.map (·.sp)) x).2:=by
 unfold numTN numSp
 rw [findIdx?_map']
 cases N.findIdx? (fun y=>decide (y.sp = x)) <;> simp
theorem nodeNo_tn (N : List TN) (x : Sp) : nodeNo (N.map encN) x.s x.i x.j = ((numTN N x).1.map encN,(numTN N x).2):=by
 unfold nodeNo numTN
 rw [findIdx?_map']
 have : (fun a=>isN x.s x.i x.j (encN a)) = fun y : TN=>decide (y.sp = x):=by
  funext y
  obtain ⟨⟨s,i,j⟩,ws,T⟩:=y
  obtain ⟨s',i',j'⟩:=x
  rw [Bool.eq_iff_iff]; simp only [isN,encN,and_assoc,Bool.and_eq_true,decide_eq_true_eq,Sp.mk.injEq]
  exact ⟨fun h=>⟨of_decide_eq_true h.1,of_decide_eq_true h.2.1,of_decide_eq_true h.2.2⟩,fun h=>⟨decide_eq_true h.1,decide_eq_true h.2.1,decide_eq_true h.2.2⟩⟩
 rw [this]
 cases N.findIdx? (fun y=>decide (y.sp = x)) <;> simp [encN]
theorem numTN_mem {N : List TN} {x : Sp} {y : TN} (h : y ∈ (numTN N x).1) : y ∈ N ∨ y.ws = []:=by
 unfold numTN at h
 split at h
 ·exact .inl h
 ·rcases List.mem_append.1 h with h | h
  ·exact .inl h
  ·simp at h; subst h; exact .inr rfl
theorem numTN_le (N : List TN) (x : Sp) : (numTN N x).1.length ≤ N.length + 1 ∧ N.length ≤ (numTN N x).1.length:=by
 unfold numTN; split <;> simp
def KeepE (e : Nat → Prop) (H H' : AHeap) : Prop:=∀ z x,¬ e z → H[z]? = some x → H'[z]? = some x
theorem KeepE.refl (e : Nat → Prop) (H : AHeap) : KeepE e H H:=fun _ _ _ h=>h
theorem KeepE.app {e : Nat → Prop} (H K : AHeap) : KeepE e H (H ++ K):=fun z x _ h=>by rw [List.getElem?_append_left (List.getElem?_eq_some_iff.1 h).1]; exact h
theorem KeepE.set {e : Nat → Prop} {H : AHeap} {o : Nat} {x : AObj} (ho : e o) : KeepE e H (H.set o x):=fun z y hz h=>by
 rw [List.getElem?_set_ne (by rintro rfl; exact hz ho)]; exact h
theorem KeepE.trans {e : Nat → Prop} {H H' H'' : AHeap} (h : KeepE e H H') (h' : KeepE e H' H'') : KeepE e H H'':=fun z x hz hx=>h' z x hz (h z x hz hx)
theorem KeepE.weaken {e e' : Nat → Prop} {H H' : AHeap} (h : KeepE e H H') (he : ∀ z,e z → e' z) : KeepE e' H H':=fun z x hz hx=>h z x (fun h=>hz (he z h)) hx
theorem KeepE.len {e : Nat → Prop} {H H' : AHeap} (h : KeepE e H H') (he : ∀ z,e z → z < H'.length) : H.length ≤ H'.length:=by
 rcases Nat.lt_or_ge H'.length H.length with hl | hl
 ·exfalso
  by_cases hz : e H'.length
  ·exact Nat.lt_irrefl _ (he _ hz)
  ·have:=h H'.length H[H'.length] hz (by simp [hl])
   have:=(List.getElem?_eq_some_iff.1 this).1
   omega
 ·exact hl
def apG (H : AHeap) (n T : Nat) : AHeap:=if n = 0 then H ++ [.tok 1] else H.set T (.tok (n + 1))
def apT (H : AHeap) (n T : Nat) : Nat:=if n = 0 then H.length else T
theorem appG {C : Cx} {k b : Nat} {x y : Opd} {d : Option Nat} {env : Env} {H : AHeap} {K : Env → AHeap → Prop} (es : List AV) (v : AV) (T : Nat) (hx : evalOpd C.G env x = some (apd k es T)) (hy : (evalOpd C.G env y).bind (elems H k) = some [v])
  (hT : es ≠ [] → H[T]? = some (.tok es.length)) (hm : es.length + 1 ≤ maxLenA) (hK : K (putD env d (apd k (es ++ [v]) (apT H es.length T))) (apG H es.length T)) : appW C k b x y d env H K:=by
 cases es with
 | nil =>
  refine appNil v hx hy ?_
  simpa [apG,apT] using hK
 | cons a es =>
  refine appTok (a :: es) v T hx hy (hT (by simp)) hm ?_
  simpa [apG,apT] using hK
theorem apG_tok {H : AHeap} {n T : Nat} (hT : n ≠ 0 → ∃ m,H[T]? = some (.tok m)) : (apG H n T)[apT H n T]? = some (.tok (n + 1)):=by
 unfold apG apT
 by_cases hn : n = 0
 ·simp [hn]
 ·obtain ⟨m,hm⟩:=hT hn
  rw [if_neg hn,if_neg hn,List.getElem?_set_self (List.getElem?_eq_some_iff.1 hm).1]
theorem apG_keep {H : AHeap} {n T : Nat} (hT : n ≠ 0 → ∃ m,H[T]? = some (.tok m)) {z : Nat} {x : AObj} (hz : H[z]? = some x) (hx : ∀ m,x ≠ .tok m) : (apG H n T)[z]? = some x:=by
 unfold apG
 by_cases hn : n = 0
 ·rw [if_pos hn,List.getElem?_append_left (List.getElem?_eq_some_iff.1 hz).1]; exact hz
 ·rw [if_neg hn]
  obtain ⟨m,hm⟩:=hT hn
  rw [List.getElem?_set_ne]
  ·exact hz
  ·rintro rfl; rw [hm] at hz; exact hx m (Option.some.inj hz).symm
theorem apG_keep' {H : AHeap} {n T : Nat} {z : Nat} {x : AObj} (hz : H[z]? = some x) (hzT : n ≠ 0 → z ≠ T) : (apG H n T)[z]? = some x:=by
 unfold apG
 by_cases hn : n = 0
 ·rw [if_pos hn,List.getElem?_append_left (List.getElem?_eq_some_iff.1 hz).1]; exact hz
 ·rw [if_neg hn,List.getElem?_set_ne (fun e=>hzT hn e.symm)]; exact hz
theorem apG_len (H : AHeap) (n T : Nat) : H.length ≤ (apG H n T).length:=by unfold apG; split <;> simp
theorem cellsN_row (l : List Nd) (k : Nat) (x : Nd) (h : l[k]? = some x) : ((l.flatMap cellsN).drop (k * 4)).take 4 = cellsN x:=by
 induction l generalizing k with
 | nil=>simp at h
 | cons a l ih =>
  cases k with
  | zero=>simp at h; subst h; simp [List.flatMap_cons,cellsN]
  | succ k =>
   have e : (k + 1) * 4 = 4 + k * 4:=by omega
   have h2 : (cellsN a ++ l.flatMap cellsN).drop 4 = l.flatMap cellsN:=by simp [cellsN]
   rw [List.flatMap_cons,e,← List.drop_drop,h2]
   exact ih k (by simpa using h)
end Go.Apx
end
section
namespace Go.Apx
open Go.Proofs
set_option linter.unusedVariables false
set_option linter.unusedSimpArgs false
set_option linter.unnecessarySimpa false
set_option maxRecDepth 4000
def startP (i0 : Nat) (sp : List Nat) (p : Nat) : Nat:=if p = 0 then i0 else sp.getD (p - 1) 0
def stepP (ps : List Pt) (i0 : Nat) (sp : List Nat) (a : Nat) (st : List Sp × List Nat) (p : Nat) : List Sp × List Nat :=
 match ps[p]? with
 | none=>st
 | some q=>if q.sort = emp ∨ q.arg ≠ (a : Int) then st else ((numSp st.1 ⟨q.sort,startP i0 sp p,sp.getD p 0⟩).1,st.2.set a (numSp st.1 ⟨q.sort,startP i0 sp p,sp.getD p 0⟩).2)
def kid4 (ps : List Pt) (i0 : Nat) (sp : List Nat) (a : Nat) (st : List Sp × List Nat) (n : Nat) : List Sp × List Nat:=(List.range n).foldl (stepP ps i0 sp a) st
def kid3 (ps : List Pt) (i0 : Nat) (sp : List Nat) (st : List Sp × List Nat) (n : Nat) : List Sp × List Nat:=(List.range n).foldl (fun st a=>kid4 ps i0 sp a st sp.length) st
theorem kid4_succ {ps : List Pt} {i0 : Nat} {sp : List Nat} {a : Nat} {st : List Sp × List Nat} {n : Nat} : kid4 ps i0 sp a st (n + 1) = stepP ps i0 sp a (kid4 ps i0 sp a st n) n:=by
 simp [kid4,List.range_succ]
theorem kid3_succ {ps : List Pt} {i0 : Nat} {sp : List Nat} {st : List Sp × List Nat} {n : Nat} : kid3 ps i0 sp st (n + 1) = kid4 ps i0 sp n (kid3 ps i0 sp st n) sp.length:=by
 simp [kid3,List.range_succ]
def wayR (g : Gr) (i0 : Nat) (L : List Sp) (c : Nat × List Nat) : List Sp × (Nat × List Nat) :=
 match g.rules[c.1]? with
 | none=>(L,(c.1,[]))
 | some R=>let w:=kid3 R.parts i0 c.2 (L,List.replicate (argsF R.parts) 0) (argsF R.parts); (w.1,(c.1,w.2))
def candR (g : Gr) (tx : List ByteArray) (X : List Bool) (s : Sp) (r : Nat) : List (Nat × List Nat) :=
 match g.rules[r]? with
 | none=>[]
 | some R=>if R.sort = s.s then (splitsF g tx X R.parts s.i s.j).map (r,·) else []
def runW {C W : Type} (way : List Sp → C → List Sp × W) (st : List Sp × List W) (l : List C) : List Sp × List W:=l.foldl (fun st c=>((way st.1 c).1,st.2 ++ [(way st.1 c).2])) st
theorem runW_append {C W : Type} (way : List Sp → C → List Sp × W) (st : List Sp × List W) (l l' : List C) : runW way st (l ++ l') = runW way (runW way st l) l':=by simp [runW,List.foldl_append]
theorem runW_one {C W : Type} (way : List Sp → C → List Sp × W) (st : List Sp × List W) (c : C) : runW way st [c] = ((way st.1 c).1,st.2 ++ [(way st.1 c).2]):=rfl
def packStep {C W : Type} (cand : Sp → List C) (way : Sp → List Sp → C → List Sp × W) (st : List Sp × List (List W)) : Option (List Sp × List (List W)) :=
 match st.1[st.2.length]? with
 | none=>some st
 | some s=>let w:=runW (way s) (st.1,[]) (cand s)
  if w.1.length > 4000 ∨ (st.2.map List.length).sum + w.2.length > 40000 then none else some (w.1,st.2 ++ [w.2])
def packSt {C W : Type} (cand : Sp → List C) (way : Sp → List Sp → C → List Sp × W) (L0 : List Sp) : Nat → Option (List Sp × List (List W))
 | 0=>some (L0,[])
 | n + 1=>(packSt cand way L0 n).bind (packStep cand way)
abbrev candsR (g : Gr) (tx : List ByteArray) (X : List Bool) (s : Sp) : List (Nat × List Nat):=(List.range g.rules.length).flatMap (candR g tx X s)
abbrev packR (g : Gr) (tx : List ByteArray) (X : List Bool) (s : ByteArray) (n : Nat) : Option (List Sp × List (List (Nat × List Nat))) :=
 packSt (candsR g tx X) (fun s=>wayR g s.i) [⟨s,0,tx.length⟩] n
def Alive (H : AHeap) (a b k : Nat) (w : Wy) : Prop:=H[w.o]? = some (.cells 0 (i64s w.kids)) ∧ w.o ≠ a ∧ w.o ≠ b ∧ w.o < k
structure PSt where
 c : Nat
 N : List TN
 oN : Nat
 gN : Nat
 rc : RCap
 l : List Wy
 T : Nat
 kids : List Nat
 kb : Nat
 H : AHeap
structure PI (h : AHeap) (X : List Bool) (om o : Nat) (s : PSt) : Prop where
 pre : ∀ (z : Nat) (x : AObj),h[z]? = some x → s.H[z]? = some x
 res : s.H[h.length]? = some (.cells 0 [.sl 0 [] .nil])
 mks : s.H[om]? = some (.cells 0 (X.map bl))
 ob : s.H[o]? = some (.cells 0 [.rf s.oN s.gN 0 s.N.length s.rc])
 nd : s.H[s.oN]? = some (.cells s.gN ((s.N.map encN).flatMap cellsN))
 al : ∀ x ∈ s.N,∀ w ∈ x.ws,Alive s.H o s.oN s.kb w
 ll : ∀ w ∈ s.l,Alive s.H o s.oN s.kb w
 tk : s.l ≠ [] → s.H[s.T]? = some (.tok s.l.length) ∧ h.length ≤ s.T
 n1 : h.length < s.oN
 n2 : s.oN ≠ om
 n3 : s.oN ≠ o
 ne : s.N ≠ []
def spsT (N : List TN) : List Sp:=N.map (·.sp)
def waysT (N : List TN) : List (List (Nat × List Nat)):=N.map fun x=>x.ws.map fun w=>(w.r,w.kids)
def totF {α : Type} (F : List (List α)) : Nat:=(F.map List.length).sum
def wl (l : List Wy) : List (Nat × List Nat):=l.map fun w=>(w.r,w.kids)
theorem PI.num {h : AHeap} {X : List Bool} {om o : Nat} {c : Nat} {N : List TN} {oN gN : Nat} {rc : RCap} {l : List Wy} {T : Nat} {kids : List Nat} {kb : Nat} {H : AHeap} (hI : PI h X om o ⟨c,N,oN,gN,rc,l,T,kids,kb,H⟩) (ho : h.length < o) (hm : om ≠ o) {K : AHeap} {o' g' : Nat} {rc' : RCap} {x : Sp}
  (hK : (H ++ K)[o']? = some (.cells g' (((numTN N x).1.map encN).flatMap cellsN))) (ho' : o' = oN ∨ H.length ≤ o') (c' : Nat) (kids' : List Nat) :
  PI h X om o ⟨c',(numTN N x).1,o',g',rc',l,T,kids',kb,(H ++ K).set o (.cells 0 [.rf o' g' 0 (numTN N x).1.length rc'])⟩:=by
 obtain ⟨i1,i2,i3,i4,i5,i6,i7,i8,i9,i10,i11,i12⟩:=hI
 simp only at i1 i2 i3 i4 i5 i6 i7 i8 i9 i10 i11 i12
 have k1 : ∀ (z : Nat) (y : AObj),H[z]? = some y → z ≠ o → ((H ++ K).set o (.cells 0 [.rf o' g' 0 (numTN N x).1.length rc']))[z]? = some y:=fun z y hz hzo=>by
  rw [List.getElem?_set_ne (fun e=>hzo e.symm),List.getElem?_append_left (List.getElem?_eq_some_iff.1 hz).1]; exact hz
 have lt : ∀ {z : Nat} {y : AObj},H[z]? = some y → z < H.length:=fun hz=>(List.getElem?_eq_some_iff.1 hz).1
 have hlo:=lt i4
 have n1 : o' ≠ o:=by rcases ho' with rfl | h'; exact i11; omega
 have al : ∀ w,Alive H o oN kb w → Alive ((H ++ K).set o (.cells 0 [.rf o' g' 0 (numTN N x).1.length rc'])) o o' kb w:=fun w ⟨a,b,d,e⟩=>by
  refine ⟨k1 _ _ a b,b,?_,e⟩
  have:=lt a
  rcases ho' with rfl | h'
  ·exact d
  ·omega
 refine ⟨fun z y hz=>k1 _ _ (i1 z y hz) ?_,k1 _ _ i2 (by omega),k1 _ _ i3 hm,?_,?_,fun y hy w hw=>?_,fun w hw=>al w (i7 w hw),fun hl=>⟨k1 _ _ (i8 hl).1 ?_,(i8 hl).2⟩,?_,?_,n1,?_⟩
 ·have:=(List.getElem?_eq_some_iff.1 hz).1; omega
 ·simp only; rw [List.getElem?_set_self (by simp; omega)]
 ·simp only; rw [List.getElem?_set_ne (fun e=>n1 e.symm)]; exact hK
 ·rcases numTN_mem hy with h1 | h1
  ·exact al w (i6 y h1 w hw)
  ·rw [h1] at hw; cases hw
 ·intro e; simp only at e; subst e
  have:=(i8 hl).1
  rw [i4] at this; cases this
 ·rcases ho' with rfl | h'
  ·exact i9
  ·have:=lt i2; simp only; omega
 ·rcases ho' with rfl | h'
  ·exact i10
  ·have:=lt i3; simp only; omega
 ·intro e
  have h1:=(numTN_le N x).2
  simp only at e
  rw [e] at h1
  exact i12 (List.eq_nil_of_length_eq_zero (by simpa using h1))
theorem PI.kid {h : AHeap} {X : List Bool} {om o : Nat} {c : Nat} {N : List TN} {oN gN : Nat} {rc : RCap} {l : List Wy} {T : Nat} {kids : List Nat} {kb : Nat} {H : AHeap} (hI : PI h X om o ⟨c,N,oN,gN,rc,l,T,kids,kb,H⟩) {ok : Nat} {cs : List AV} (hk : H[ok]? = some (.cells 0 cs))
  (h1 : h.length < ok) (h2 : ok ≠ om) (h3 : ok ≠ o) (h4 : ok ≠ oN) (h5 : kb ≤ ok) (c' : Nat) (kids' : List Nat) (x : AObj) :
  PI h X om o ⟨c',N,oN,gN,rc,l,T,kids',kb,H.set ok x⟩:=by
 obtain ⟨i1,i2,i3,i4,i5,i6,i7,i8,i9,i10,i11,i12⟩:=hI
 simp only at i1 i2 i3 i4 i5 i6 i7 i8 i9 i10 i11 i12
 have k1 : ∀ (z : Nat) (y : AObj),H[z]? = some y → z ≠ ok → (H.set ok x)[z]? = some y:=fun z y hz hzo=>by
  rw [List.getElem?_set_ne (fun e=>hzo e.symm)]; exact hz
 have al : ∀ w,Alive H o oN kb w → Alive (H.set ok x) o oN kb w:=fun w ⟨a,b,d,e⟩=>⟨k1 _ _ a (by omega),b,d,e⟩
 refine ⟨fun z y hz=>k1 _ _ (i1 z y hz) ?_,k1 _ _ i2 (by omega),k1 _ _ i3 h2.symm,k1 _ _ i4 h3.symm,k1 _ _ i5 h4.symm,fun y hy w hw=>al w (i6 y hy w hw),fun w hw=>al w (i7 w hw),fun hl=>⟨k1 _ _ (i8 hl).1 ?_,(i8 hl).2⟩,i9,i10,i11,i12⟩
 ·have:=(List.getElem?_eq_some_iff.1 hz).1; omega
 ·intro e; simp only at e; subst e
  have:=(i8 hl).1
  rw [hk] at this; cases this
theorem PI.app {h : AHeap} {X : List Bool} {om o : Nat} {c : Nat} {N : List TN} {oN gN : Nat} {rc : RCap} {l : List Wy} {T : Nat} {kids : List Nat} {kb : Nat} {H : AHeap} (hI : PI h X om o ⟨c,N,oN,gN,rc,l,T,kids,kb,H⟩) (K : AHeap) (c' : Nat) (kids' : List Nat) :
  PI h X om o ⟨c',N,oN,gN,rc,l,T,kids',H.length,H ++ K⟩:=by
 obtain ⟨i1,i2,i3,i4,i5,i6,i7,i8,i9,i10,i11,i12⟩:=hI
 simp only at i1 i2 i3 i4 i5 i6 i7 i8 i9 i10 i11 i12
 have k1 : ∀ (z : Nat) (y : AObj),H[z]? = some y → (H ++ K)[z]? = some y:=fun z y hz=>by
  rw [List.getElem?_append_left (List.getElem?_eq_some_iff.1 hz).1]; exact hz
 have al : ∀ w,Alive H o oN kb w → Alive (H ++ K) o oN H.length w:=fun w ⟨a,b,d,e⟩=>⟨k1 _ _ a,b,d,(List.getElem?_eq_some_iff.1 a).1⟩
 exact ⟨fun z y hz=>k1 _ _ (i1 z y hz),k1 _ _ i2,k1 _ _ i3,k1 _ _ i4,k1 _ _ i5,fun y hy w hw=>al w (i6 y hy w hw),fun w hw=>al w (i7 w hw),fun hl=>⟨k1 _ _ (i8 hl).1,(i8 hl).2⟩,i9,i10,i11,i12⟩
theorem PI.way {h : AHeap} {X : List Bool} {om o : Nat} {c : Nat} {N : List TN} {oN gN : Nat} {rc : RCap} {l : List Wy} {T : Nat} {kids : List Nat} {kb : Nat} {H : AHeap} (hI : PI h X om o ⟨c,N,oN,gN,rc,l,T,kids,kb,H⟩) {w : Wy} (hw : H[w.o]? = some (.cells 0 (i64s w.kids))) (h1 : w.o ≠ o) (h2 : w.o ≠ oN) (hkb : kb ≤ w.o) (c' : Nat) (kids' : List Nat) :
  PI h X om o ⟨c',N,oN,gN,rc,l ++ [w],apT H l.length T,kids',w.o + 1,apG H l.length T⟩:=by
 obtain ⟨i1,i2,i3,i4,i5,i6,i7,i8,i9,i10,i11,i12⟩:=hI
 simp only at i1 i2 i3 i4 i5 i6 i7 i8 i9 i10 i11 i12
 have hT : l.length ≠ 0 → ∃ m,H[T]? = some (.tok m):=fun hl=>⟨_,(i8 (by rintro rfl; exact hl rfl)).1⟩
 have k1 : ∀ (z g : Nat) (y : List AV),H[z]? = some (.cells g y) → (apG H l.length T)[z]? = some (.cells g y):=fun z g y hz=>apG_keep hT hz (by simp)
 have al : ∀ w',Alive H o oN kb w' → Alive (apG H l.length T) o oN (w.o + 1) w':=fun w' ⟨a,b,d,e⟩=>⟨k1 _ _ _ a,b,d,by omega⟩
 refine ⟨fun z y hz=>apG_keep' (i1 z y hz) (fun hl e=>?_),k1 _ _ _ i2,k1 _ _ _ i3,k1 _ _ _ i4,k1 _ _ _ i5,fun y hy w hw=>al w (i6 y hy w hw),fun w' hw'=>?_,fun _=>?_,i9,i10,i11,i12⟩
 ·have:=(List.getElem?_eq_some_iff.1 hz).1; have:=(i8 (by rintro rfl; exact hl rfl)).2; omega
 ·rcases List.mem_append.1 hw' with h' | h'
  ·exact al w' (i7 w' h')
  ·simp at h'; subst h'; exact ⟨k1 _ _ _ hw,h1,h2,Nat.lt_succ_self _⟩
 ·refine ⟨by simp only; rw [apG_tok hT]; simp,?_⟩
  simp only; unfold apT
  split
  ·have:=(List.getElem?_eq_some_iff.1 i2).1; omega
  ·rename_i hl; exact (i8 (by rintro rfl; exact hl rfl)).2
structure ParOk (g : Gr) (tx : List ByteArray) : Prop where
 all : AllOk g tx
 r : g.rules.length ≤ 100
 p : ∀ R ∈ g.rules,R.parts.length ≤ 10
 q : ∀ R ∈ g.rules,(tx.length + 1) ^ R.parts.length ≤ 20000
def RFor (H : AHeap) (v : AV) (L : List Sp) (F : List (List (Nat × List Nat))) : Prop:=∃ oN gN rc,∃ N : List TN,v = .agg [.rf oN gN 0 N.length rc] ∧ H[oN]? = some (.cells gN ((N.map encN).flatMap cellsN)) ∧ N.map (·.sp) = L ∧ N.map (fun x=>x.ws.map fun w=>(w.r,w.kids)) = F ∧
 ∀ x ∈ N,∀ w ∈ x.ws,H[w.o]? = some (.cells 0 (i64s w.kids))
def rerrF (g : Gr) (s : ByteArray) (tx : List ByteArray) : Int:=if checkF g ≠ 0 then checkF g else if s ∉ g.sorts then 5 else if tx.length > 200 then 4 else 0
def ParseR (g : Gr) (s : ByteArray) (tx : List ByteArray) (h : AHeap) (r : AEnd) (h' : AHeap) : Prop :=
 (∀ (z : Nat) (x : AObj),h[z]? = some x → h'[z]? = some x) ∧
   ((rerrF g s tx ≠ 0 ∧ r = .ret (.tup [.agg [.sl 0 [] .nil],i64 (rerrF g s tx)])) ∨
    (rerrF g s tx = 0 ∧ ∃ X,Sound g tx X ∧ Full g tx X ∧
     ((¬ Mk g tx.length X s 0 tx.length ∧ r = .ret (.tup [.agg [.sl 0 [] .nil],i64 160])) ∨
     (Mk g tx.length X s 0 tx.length ∧ ((∃ n,packR g tx X s n = none ∧ r = .ret (.tup [.agg [.sl 0 [] .nil],i64 15])) ∨
      (∃ n L F v,packR g tx X s n = some (L,F) ∧ F.length = L.length ∧ RFor h' v L F ∧ r = .ret (.tup [v,i64 0])))))))
theorem cellsN_set (l : List Nd) (k : Nat) (x : Nd) (v : AV) (h : l[k]? = some x) : (l.flatMap cellsN).set (k * 4 + 3) v = (l.set k ⟨x.sort,x.i,x.j,v⟩).flatMap cellsN:=by
 induction l generalizing k with
 | nil=>simp at h
 | cons a l ih =>
  cases k with
  | zero=>simp at h; subst h; simp [List.flatMap_cons,cellsN]
  | succ k =>
   have e : (k + 1) * 4 + 3 = (cellsN a).length + (k * 4 + 3):=by simp [cellsN]; omega
   rw [List.flatMap_cons,e,List.set_append_right _ _ (by omega),Nat.add_sub_cancel_left,ih k (by simpa using h),List.set_cons_succ,List.flatMap_cons]
theorem PI.node {h : AHeap} {X : List Bool} {om o : Nat} {c : Nat} {N : List TN} {oN gN : Nat} {rc : RCap} {l : List Wy} {T : Nat} {kids : List Nat} {kb : Nat} {H : AHeap} (hI : PI h X om o ⟨c,N,oN,gN,rc,l,T,kids,kb,H⟩) (k : Nat) (x : TN) (c' : Nat) (kids' : List Nat) :
  PI h X om o ⟨c',N.set k ⟨x.sp,l,T⟩,oN,gN,rc,[],0,kids',kb,H.set oN (.cells gN (((N.set k ⟨x.sp,l,T⟩).map encN).flatMap cellsN))⟩:=by
 obtain ⟨i1,i2,i3,i4,i5,i6,i7,i8,i9,i10,i11,i12⟩:=hI
 simp only at i1 i2 i3 i4 i5 i6 i7 i8 i9 i10 i11 i12
 have k1 : ∀ (y' : AObj) (z : Nat) (y : AObj),H[z]? = some y → z ≠ oN → (H.set oN y')[z]? = some y:=fun y' z y hz hzo=>by
  rw [List.getElem?_set_ne (fun e=>hzo e.symm)]; exact hz
 have al : ∀ y' w,Alive H o oN kb w → Alive (H.set oN y') o oN kb w:=fun y' w ⟨a,b,d,e⟩=>⟨k1 _ _ _ a d,b,d,e⟩
 refine ⟨fun z y hz=>k1 _ _ _ (i1 z y hz) ?_,k1 _ _ _ i2 (by omega),k1 _ _ _ i3 i10.symm,?_,?_,fun y hy w hw=>al _ w ?_,by simp,by simp,i9,i10,i11,by simpa using i12⟩
 ·have:=(List.getElem?_eq_some_iff.1 hz).1; omega
 ·simp only [List.length_set]; exact k1 _ _ _ i4 i11.symm
 ·simp only; rw [List.getElem?_set_self (List.getElem?_eq_some_iff.1 i5).1]
 ·rcases List.mem_or_eq_of_mem_set hy with h1 | h1
  ·exact i6 y h1 w hw
  ·subst h1; exact i7 w hw
def Bd (m : Nat) (N : List TN) : Prop:=∀ x ∈ N,x.sp.i ≤ m ∧ x.sp.j ≤ m
theorem Bd.num {m : Nat} {N : List TN} (h : Bd m N) {x : Sp} (hx : x.i ≤ m ∧ x.j ≤ m) : Bd m (numTN N x).1:=by
 unfold numTN
 split
 ·exact h
 ·intro y hy
  rcases List.mem_append.1 hy with h1 | h1
  ·exact h y h1
  ·simp at h1; subst h1; exact hx
structure J0 (g : Gr) (tx : List ByteArray) (X : List Bool) (s : ByteArray) (h : AHeap) (om o : Nat) (st : PSt) : Prop where
 pi : PI h X om o st
 l : st.l = []
 c : st.c ≤ st.N.length
 b1 : st.N.length ≤ 4000
 b2 : totF (waysT (st.N.take st.c)) ≤ 40000
 e : ∀ x ∈ st.N.drop st.c,x.ws = []
 run : packR g tx X s st.c = some (spsT st.N,waysT (st.N.take st.c))
 bd : Bd tx.length st.N
def Ext (N0 N : List TN) : Prop:=∃ M,N = N0 ++ M ∧ ∀ y ∈ M,y.ws = []
theorem Ext.refl (N : List TN) : Ext N N:=⟨[],by simp,by simp⟩
theorem Ext.num {N0 N : List TN} (h : Ext N0 N) (x : Sp) : Ext N0 (numTN N x).1:=by
 obtain ⟨M,rfl,hM⟩:=h
 unfold numTN
 split
 ·exact ⟨M,rfl,hM⟩
 ·exact ⟨M ++ [⟨x,[],0⟩],by simp,fun y hy=>by rcases List.mem_append.1 hy with h | h; exact hM y h; simp at h; subst h; rfl⟩
structure J1 (g : Gr) (tx : List ByteArray) (X : List Bool) (h : AHeap) (om o : Nat) (N0 : List TN) (sp : Sp) (st : PSt) : Prop where
 pi : PI h X om o st
 c : st.c ≤ g.rules.length
 ext : Ext N0 st.N
 run : runW (wayR g sp.i) (spsT N0,[]) ((List.range st.c).flatMap (candR g tx X sp)) = (spsT st.N,wl st.l)
 b1 : st.l.length ≤ 20000 * st.c
 b2 : st.N.length ≤ 4000 + 100 * st.l.length
 bd : Bd tx.length st.N
structure J2 (g : Gr) (tx : List ByteArray) (X : List Bool) (h : AHeap) (om o : Nat) (N0 : List TN) (sp : Sp) (r : Nat) (ps : List (List Nat)) (st : PSt) : Prop where
 pi : PI h X om o st
 c : st.c ≤ ps.length
 ext : Ext N0 st.N
 run : runW (wayR g sp.i) (spsT N0,[]) ((List.range r).flatMap (candR g tx X sp) ++ (ps.take st.c).map (r,·)) = (spsT st.N,wl st.l)
 b1 : st.l.length ≤ 20000 * r + st.c
 b2 : st.N.length ≤ 4000 + 100 * st.l.length
 bd : Bd tx.length st.N
structure JK (m : Nat) (X : List Bool) (h : AHeap) (om o : Nat) (N0 : List TN) (l2 : List Wy) (T2 n ok : Nat) (st : PSt) : Prop where
 pi : PI h X om o st
 ext : Ext N0 st.N
 l : st.l = l2
 T : st.T = T2
 ob : st.H[ok]? = some (.cells 0 (i64s st.kids))
 kl : st.kids.length = n
 kb : st.kb ≤ ok
 d : ok ≠ st.oN
 bd : Bd m st.N
structure J3 (m : Nat) (X : List Bool) (h : AHeap) (om o : Nat) (N0 : List TN) (l2 : List Wy) (T2 n ok : Nat) (ps : List Pt) (i0 : Nat) (sp : List Nat) (L2 : List Sp) (st : PSt) : Prop where
 k : JK m X h om o N0 l2 T2 n ok st
 run : kid3 ps i0 sp (L2,List.replicate n 0) st.c = (spsT st.N,st.kids)
 c : st.c ≤ n
 b : st.N.length ≤ 4000 + 100 * l2.length + 10 * st.c
structure J4 (m : Nat) (X : List Bool) (h : AHeap) (om o : Nat) (N0 : List TN) (l2 : List Wy) (T2 n ok : Nat) (ps : List Pt) (i0 : Nat) (sp : List Nat) (a : Nat) (s3 : List Sp × List Nat) (st : PSt) : Prop where
 k : JK m X h om o N0 l2 T2 n ok st
 run : kid4 ps i0 sp a s3 st.c = (spsT st.N,st.kids)
 c : st.c ≤ sp.length
 b : st.N.length ≤ 4000 + 100 * l2.length + 10 * a + st.c
theorem JK.num {m : Nat} {X : List Bool} {h : AHeap} {om o : Nat} {N0 : List TN} {l2 : List Wy} {T2 n ok : Nat} {c : Nat} {N : List TN} {oN gN : Nat} {rc : RCap} {l : List Wy} {T : Nat} {kids : List Nat} {kb : Nat} {H : AHeap} (hI : JK m X h om o N0 l2 T2 n ok ⟨c,N,oN,gN,rc,l,T,kids,kb,H⟩) (ho : h.length < o) (hm : om ≠ o) (hok : h.length < ok) (hokm : ok ≠ om) (hoko : ok ≠ o)
  {K : AHeap} {o' g' : Nat} {rc' : RCap} {x : Sp} (hK : (H ++ K)[o']? = some (.cells g' (((numTN N x).1.map encN).flatMap cellsN))) (ho' : o' = oN ∨ H.length ≤ o') (hxm : x.i ≤ m ∧ x.j ≤ m) (c' a : Nat) :
  JK m X h om o N0 l2 T2 n ok ⟨c',(numTN N x).1,o',g',rc',l,T,kids.set a (numTN N x).2,kb,((H ++ K).set o (.cells 0 [.rf o' g' 0 (numTN N x).1.length rc'])).set ok (.cells 0 (i64s (kids.set a (numTN N x).2)))⟩:=by
 obtain ⟨p,e,hl,hT,ob,kl,hkb,d,bd⟩:=hI
 simp only at e hl hT ob kl hkb d bd
 have hlt:=(List.getElem?_eq_some_iff.1 ob).1
 have d' : ok ≠ o':=by rcases ho' with rfl | h'; exact d; omega
 have ob' : ((H ++ K).set o (.cells 0 [.rf o' g' 0 (numTN N x).1.length rc']))[ok]? = some (.cells 0 (i64s kids)):=by
  rw [List.getElem?_set_ne (fun e=>hoko e.symm),List.getElem?_append_left hlt]; exact ob
 refine ⟨PI.kid (PI.num p ho hm hK ho' c' kids) ob' hok hokm hoko d' hkb c' _ _,e.num x,hl,hT,?_,by simpa using kl,hkb,d',bd.num hxm⟩
 simp only
 rw [List.getElem?_set_self (List.getElem?_eq_some_iff.1 ob').1]
theorem splits_le (g : Gr) (tx : List ByteArray) (X : List Bool) : ∀ (ps : List Pt) (i j : Nat),∀ w ∈ splitsF g tx X ps i j,∀ e ∈ w,e ≤ j
 | [],i,j,w,hw,e,he=>by
  simp only [splitsF] at hw
  split at hw
  ·simp at hw; subst hw; cases he
  ·cases hw
 | p :: ps,i,j,w,hw,e,he=>by
  simp only [splitsF,List.mem_flatMap] at hw
  obtain ⟨e',he',hw⟩:=hw
  split at hw
  ·obtain ⟨v,hv,rfl⟩:=List.mem_map.1 hw
   rcases List.mem_cons.1 he with rfl | he
   ·have:=List.mem_range'.1 he'; omega
   ·exact splits_le g tx X ps e' j v hv e he
  ·cases hw
end Go.Apx
end
section
namespace Go.Apx
open Go.Proofs
set_option linter.unusedVariables false
set_option linter.unusedSimpArgs false
set_option linter.unnecessarySimpa false
set_option maxRecDepth 4000
theorem set_self' {α : Type} {l : List α} {i : Nat} {a : α} (h : l[i]? = some a) : l.set i a = l:=by
 obtain ⟨h1,h2⟩:=List.getElem?_eq_some_iff.1 h
 rw [← h2,List.set_getElem_self]
set_option maxHeartbeats 4000000 in
theorem rparse_c (g : Gr) (s : ByteArray) (tx : List ByteArray) (tc : Cap) {h : AHeap} (hsl : g.sorts.length ≤ 2 ^ 31) (hrl : g.rules.length ≤ 2 ^ 31) (hk : checkF g = 0 → s ∈ g.sorts → tx.length ≤ 200 → ParOk g tx) :
  ACalls PP Gl 10 [encG g,.sc (.string s),.sl 1 (tx.map sv) tc] h (ParseR g s tx h):=by
 have hkeep : ∀ K : AHeap,∀ z x,h[z]? = some x → (h ++ K)[z]? = some x:=fun K z x hx=>by rw [List.getElem?_append_left (List.getElem?_eq_some_iff.1 hx).1]; exact hx
 refine enter_ref14_Parse (by simp) ?_
 simp -implicitDefEqProofs [code_ref14_Parse,res_ref14_Parse,ann_ref14_Parse,encG]
 refine callk (rcheck_c g hsl hrl) (by simp [encG]) rfl ?_
 by_cases h1 : checkF g = 0
 case neg =>
  simp -implicitDefEqProofs [h1]
  exact ret1 (v:=.tup [.agg [.sl 0 [] .nil],i64 (checkF g)]) (by simp [deferred,dslot]) (by simp [evalRes,evalRes1]) ⟨hkeep _,.inl (by simp [rerrF,h1])⟩
 simp -implicitDefEqProofs [h1]
 refine callk (rindex14_c g.sorts g.sc s hsl) rfl rfl ?_
 by_cases h2 : s ∈ g.sorts
 case neg =>
  have hneg : indexF g.sorts s = -1:=placeF_none (fun y hy=>by simp; rintro rfl; exact h2 hy)
  simp -implicitDefEqProofs [hneg]
  exact ret1 (v:=.tup [.agg [.sl 0 [] .nil],i64 5]) (by simp [deferred,dslot]) (by simp [evalRes,evalRes1]) ⟨hkeep _,.inl (by simp [rerrF,h1,h2])⟩
 obtain ⟨x,hx,hxs⟩:=index_of h2
 have hxl:=(List.getElem?_eq_some_iff.1 hxs).1
 have hx0 : ¬ (x : Int) < 0:=by omega
 simp -implicitDefEqProofs [hx,hx0]
 refine ⟨fun h3=>?_,fun h3=>?_⟩
 ·have h3' : tx.length > 200:=by omega
  exact ret1 (v:=.tup [.agg [.sl 0 [] .nil],i64 4]) (by simp [deferred,dslot]) (by simp [evalRes,evalRes1]) ⟨hkeep _,.inl (by simp [rerrF,h1,h2,h3'])⟩
 have h3' : ¬ tx.length > 200:=by omega
 have hP:=hk h1 h2 (by omega)
 have hre : rerrF g s tx = 0:=by simp [rerrF,h1,h2]; omega
 refine callr (all_c g tx tc (h:=h ++ [.cells 0 [.sl 0 [] .nil]]) hP.all) (by simp [encG]) rfl ?_
 rintro r1 h' ⟨X,J,rfl,rfl,hsound,hfull,hXl⟩
 simp -implicitDefEqProofs
 have g1 : (HA (h ++ [.cells 0 [.sl 0 [] .nil]]) tx.length X.length X J)[h.length]? = some (.cells 0 [.sl 0 [] .nil]):=by rw [HA_old (by simp)]; simp
 have g2 : (HA (h ++ [.cells 0 [.sl 0 [] .nil]]) tx.length X.length X J)[h.length + 1 + 1]? = some (.cells 0 (X.map bl)):=by
  have:=HA_get1 (h:=h ++ [.cells 0 [.sl 0 [] .nil]]) (n:=tx.length) (L:=X.length) (X:=X) (J:=J); simpa using this
 have g3 : ∀ (z : Nat) (x : AObj),h[z]? = some x → (HA (h ++ [.cells 0 [.sl 0 [] .nil]]) tx.length X.length X J)[z]? = some x:=fun z x hz=>by
  have:=(List.getElem?_eq_some_iff.1 hz).1
  rw [HA_old (by simp; omega),List.getElem?_append_left this]; exact hz
 generalize HA (h ++ [.cells 0 [.sl 0 [] .nil]]) tx.length X.length X J = H1 at *
 refine callk (rindex14_c g.sorts g.sc s hsl) rfl rfl ?_
 simp -implicitDefEqProofs [hx]
 obtain ⟨hn,hs1000,hr,hp,hnm⟩:=hP.all
 refine callk (at_c tx.length (h.length + 1 + 1) X.length x 0 tx.length (by omega) (by omega) (by omega) (by omega)) (by simp) rfl ?_
 have hix : atF tx.length x 0 tx.length < X.length:=by rw [hXl]; exact atF_lt hxl (by omega) (by omega)
 obtain ⟨b,hb⟩ : ∃ b,X[atF tx.length x 0 tx.length]? = some b:=⟨_,List.getElem?_eq_getElem hix⟩
 have hb2 : X[atF tx.length x 0 tx.length] = b:=(List.getElem?_eq_some_iff.1 hb).2
 have hmk : Mk g tx.length X s 0 tx.length ↔ b = true:=by
  unfold Mk markF
  rw [hx]
  simp [List.getD,hb]
 have g4 : h.length < H1.length:=(List.getElem?_eq_some_iff.1 g1).1
 have g5 : h.length + 1 + 1 < H1.length:=(List.getElem?_eq_some_iff.1 g2).1
 simp -implicitDefEqProofs [g1,g2,hix,hb,hb2]
 cases b with
 | false =>
  simp -implicitDefEqProofs [g1,g4]
  exact ret1 (v:=.tup [.agg [.sl 0 [] .nil],i64 160]) (by simp [deferred,dslot]) (by simp [evalRes,evalRes1,g4]) ⟨fun z x hz=>by
   have:=(List.getElem?_eq_some_iff.1 hz).1
   rw [List.getElem?_set_ne (by omega)]; exact g3 z x hz,.inr ⟨hre,X,hsound,hfull,.inl ⟨by simp [hmk],rfl⟩⟩⟩
 | true =>
  simp -implicitDefEqProofs [g1,g4]
  have e1 : ∀ z z',(H1 ++ [z,z'])[H1.length]? = some z:=fun z z'=>by simp
  have e2 : ∀ z z',(H1 ++ [z,z'])[H1.length + 1]? = some z':=fun z z'=>by rw [List.getElem?_append_right (by omega)]; simp
  have e3 : ∀ z z' o x,H1[o]? = some x → (H1 ++ [z,z'])[o]? = some x:=fun z z' o x hx=>by rw [List.getElem?_append_left (List.getElem?_eq_some_iff.1 hx).1]; exact hx
  obtain ⟨om,hom⟩ : ∃ om,om = h.length + 1 + 1:=⟨_,rfl⟩
  obtain ⟨o,ho⟩ : ∃ o,o = H1.length + 1:=⟨_,rfl⟩
  rw [← hom,← ho]
  have hoh : h.length < o:=by omega
  have homh : h.length < om:=by omega
  have hoo : om ≠ o:=by omega
  refine AWp.till (S:=PSt) ⟨0,[⟨⟨s,0,tx.length⟩,[],0⟩],H1.length,0,.full,[],0,[],0,H1 ++ [.cells 0 [.sc (.string s),i64 0,i64 (tx.length : Int),.sl 0 [] .nil],.cells 0 [.rf H1.length 0 0 1 .full]]⟩ (fun st=>4001 - st.c) [2,3,6,9,10]
   (fun st=>[(11,i64 (totF (waysT (st.N.take st.c)) : Nat)),(12,i64 (st.c : Int))]) (fun st=>st.H) (J0 g tx X s h om o) mixed ?_ (le_of (by simp [dslot,totF,waysT])) rfl ?_
  ·refine ⟨⟨fun z x hz=>e3 _ _ _ _ (g3 z x hz),e3 _ _ _ _ g1,e3 _ _ _ _ (by rw [hom]; exact g2),by rw [ho]; exact e2 _ _,by rw [e1]; simp [encN,cellsN],by simp,by simp,by simp,by simp; omega,by simp; omega,by simp; omega,by simp⟩,rfl,by simp,by simp,by simp [totF,waysT],by simp,by simp [packSt,spsT,waysT],by intro x hx; simp at hx; subst hx; simp⟩
  rintro ⟨c,N,oN,gN,rc,l,T,kids,kb,H⟩ ⟨hI,z1,z2,z3,z4,z5,z6,z7⟩
  have hI2:=hI
  simp only at z1 z2 z3 z4 z5 z6 z7
  obtain ⟨i1,i2,i3,i4,i5,i6,i7,i8,i9,i10,i11,i12⟩:=hI
  simp only at i1 i2 i3 i4 i5 i6 i7 i8 i9 i10 i11 i12
  have hol:=(List.getElem?_eq_some_iff.1 i4).1
  have hrl2:=(List.getElem?_eq_some_iff.1 i2).1
  by_cases hc : c < N.length
  case neg =>
   have hce : ¬ (c : Int) < N.length:=by omega
   have hcN : c = N.length:=by omega
   simp -implicitDefEqProofs [lp0_ref14_Parse,i2,i4,hce]
   refine ret1 (v:=.tup [.agg [.rf oN gN 0 N.length rc],i64 0]) (by simp [deferred,dslot]) (by simp [evalRes,evalRes1,hrl2]) ⟨fun z x hz=>?_,.inr ⟨hre,X,hsound,hfull,.inr ⟨by simp [hmk],.inr ⟨c,spsT N,waysT N,_,by rw [z6,hcN,List.take_length],by simp [spsT,waysT],⟨oN,gN,rc,N,rfl,?_,rfl,rfl,fun x hx w hw=>?_⟩,rfl⟩⟩⟩⟩
   ·have:=(List.getElem?_eq_some_iff.1 hz).1
    rw [List.getElem?_set_ne (by omega)]; exact i1 z x hz
   ·rw [List.getElem?_set_ne (by omega)]; exact i5
   ·have:=i6 x hx w hw
    rw [List.getElem?_set_ne]
    ·exact this.1
    ·intro e
     have:=this.1
     rw [← e,i2] at this
     cases hk : w.kids with
     | nil=>rw [hk] at this; simp [i64s] at this
     | cons a l=>rw [hk] at this; simp [i64s] at this
  obtain ⟨x,hx⟩ : ∃ x,N[c]? = some x:=⟨N[c],by simp [hc]⟩
  have hce : (c : Int) < N.length:=by omega
  have hrow : ((List.flatMap cellsN (N.map encN)).drop (c * 4)).take 4 = cellsN (encN x):=cellsN_row _ _ _ (by simp [hx])
  have hflen : (List.flatMap cellsN (N.map encN)).length = N.length * 4:=by rw [cellsN_length]; simp
  have hc4 : c * 4 + 4 ≤ N.length * 4:=by omega
  have hxw : x.ws = []:=z5 x (by rw [List.mem_iff_getElem?]; exact ⟨0,by simp [hx]⟩)
  simp -implicitDefEqProofs [lp0_ref14_Parse,i4,i5,hce,hc,hrow,hflen,hc4,cellsN,hxw]
  refine AWp.till (S:=PSt) ⟨0,N,oN,gN,rc,[],0,[],kb,H⟩ (fun st=>g.rules.length - st.c) [2,3,6,9,10,11,12,13]
   (fun st=>[(14,apd 2 (st.l.map encW) st.T),(15,i64 (st.c : Int))]) (fun st=>st.H) (J1 g tx X h om o N x.sp) mixed ?_ (le_of (by simp [dslot])) rfl ?_
  ·exact ⟨⟨i1,i2,i3,i4,i5,i6,by simp,by simp,i9,i10,i11,i12⟩,by simp,Ext.refl _,by simp [runW,wl],by simp,by simpa using z3,z7⟩
  rintro ⟨r,N1,oN1,gN1,rc1,l1,T1,kids1,kb1,H2⟩ ⟨hI1,y1,y2,y3,y4,y5,y6⟩
  have hI12:=hI1
  simp only at y1 y2 y3 y4 y5 y6
  by_cases hr1 : r < g.rules.length
  case neg =>
   have hno : ¬ (r : Int) < g.rules.length:=by omega
   have hrr : r = g.rules.length:=by omega
   obtain ⟨M,hM,hMe⟩:=y2
   have hxN1 : N1[c]? = some x:=by rw [hM,List.getElem?_append_left hc]; exact hx
   have hcN1 : c < N1.length:=(List.getElem?_eq_some_iff.1 hxN1).1
   have hcN1' : c * 4 + 3 + 1 ≤ N1.length * 4:=by omega
   have hflen1 : (List.flatMap cellsN (N1.map encN)).length = N1.length * 4:=by rw [cellsN_length]; simp
   have hget1 : (N1.map encN)[c]? = some (encN x):=by simp [hxN1]
   have hmapset : (N1.map encN).set c ⟨x.sp.s,x.sp.i,x.sp.j,apd 2 (l1.map encW) T1⟩ = (N1.set c ⟨x.sp,l1,T1⟩).map encN:=by rw [List.map_set]; rfl
   have hput : List.take (c * 4 + 3) (List.flatMap cellsN (N1.map encN)) ++ apd 2 (l1.map encW) T1 :: List.drop (c * 4 + 3 + 1) (List.flatMap cellsN (N1.map encN)) = List.flatMap cellsN ((N1.set c ⟨x.sp,l1,T1⟩).map encN):=by
    rw [put_eq _ _ _ (by rw [hflen1]; omega),cellsN_set _ _ _ _ hget1]
    exact congrArg _ hmapset
   have hno' : (List.map encW l1).length = l1.length:=by simp
   have b1' : l1.length ≤ 20000 * r:=y4
   have hr100:=hP.r
   have wt : IntKind.i64.wrap ((totF (waysT (N.take c)) : Int) + (l1.length : Int)) = (totF (waysT (N.take c)) : Int) + (l1.length : Int):=IntWalk.i64_in _ (by omega)
   have wc : IntKind.i64.wrap ((c : Int) + 1) = (c : Int) + 1:=IntWalk.i64_in _ (by omega)
   have j4:=hI12.ob
   have j5:=hI12.nd
   have j2:=hI12.res
   have j11:=hI12.n3
   simp only at j4 j5 j2 j11
   have j41 : ∀ y,(H2.set oN1 y)[o]? = some (.cells 0 [.rf oN1 gN1 0 N1.length rc1]):=fun y=>by rw [List.getElem?_set_ne j11]; exact j4
   have j21 : ∀ y,(H2.set oN1 y)[h.length]? = some (.cells 0 [.sl 0 [] .nil]):=fun y=>by rw [List.getElem?_set_ne (by have:=hI12.n1; simp only at this; omega)]; exact j2
   have hPN:=PI.node hI12 c x (c + 1) []
   have hp2 : packR g tx X s (c + 1) = if N1.length > 4000 ∨ totF (waysT (N.take c)) + l1.length > 40000 then none else some (spsT N1,waysT (N.take c) ++ [wl l1]):=by
    have hLc : (spsT N)[(waysT (N.take c)).length]? = some x.sp:=by simp [spsT,waysT,Nat.min_eq_left z2,hx]
    show (packR g tx X s c).bind _ = _
    rw [z6]
    show packStep _ _ (spsT N,waysT (N.take c)) = _
    have hrun : runW (wayR g x.sp.i) (spsT N,[]) (candsR g tx X x.sp) = (spsT N1,wl l1):=by rw [← y3,hrr]
    have hl1 : (spsT N1).length = N1.length:=by simp [spsT]
    have hl2 : (wl l1).length = l1.length:=by simp [wl]
    unfold packStep
    simp only [hLc,hrun,hl1,hl2]
    rfl
   have hsps : spsT (N1.set c ⟨x.sp,l1,T1⟩) = spsT N1:=by
    unfold spsT
    rw [List.map_set]
    exact set_self' (by simp [hxN1])
   have htk : (N1.set c ⟨x.sp,l1,T1⟩).take (c + 1) = N.take c ++ [⟨x.sp,l1,T1⟩]:=by
    rw [List.take_add_one,List.take_set_of_le (Nat.le_refl c),List.getElem?_set_self hcN1,hM,List.take_append_of_le_length z2]; rfl
   have hdrop : ∀ y ∈ (N1.set c ⟨x.sp,l1,T1⟩).drop (c + 1),y.ws = []:=by
    intro y hy
    rw [List.drop_set_of_lt (by omega),hM,List.drop_append_of_le_length (by omega)] at hy
    rcases List.mem_append.1 hy with h' | h'
    ·refine z5 y ?_
     rw [← List.drop_drop] at h'
     exact List.mem_of_mem_drop h'
    ·exact hMe y h'
   have hbd : Bd tx.length (N1.set c ⟨x.sp,l1,T1⟩):=by
    intro y hy
    rcases List.mem_or_eq_of_mem_set hy with h' | h'
    ·exact y6 y h'
    ·subst h'; exact z7 x (List.mem_of_getElem? hx)
   have hN1l : (N1.set c ⟨x.sp,l1,T1⟩).length = N1.length:=by simp
   obtain ⟨H6,hH6⟩ : ∃ H6,H6 = H2.set oN1 (.cells gN1 (List.flatMap cellsN ((N1.map encN).set c (encN ⟨x.sp,l1,T1⟩)))):=⟨_,rfl⟩
   simp only [List.map_set] at hPN
   rw [← hH6] at hPN
   have j6:=j41 (.cells gN1 (List.flatMap cellsN ((N1.map encN).set c (encN ⟨x.sp,l1,T1⟩))))
   have j7:=j21 (.cells gN1 (List.flatMap cellsN ((N1.map encN).set c (encN ⟨x.sp,l1,T1⟩))))
   rw [← hH6] at j6 j7
   have j8:=(List.getElem?_eq_some_iff.1 j7).1
   simp -implicitDefEqProofs [lp1_ref14_Parse,hno,j4,j5,hcN1,hcN1',hflen1,hput]
   rw [← hH6]
   have hend : ∀ (z : Nat) (y : AObj),h[z]? = some y → (H6.set h.length (.cells 0 [.sl 0 [] .nil]))[z]? = some y:=fun z y hz=>by
    have:=(List.getElem?_eq_some_iff.1 hz).1
    rw [List.getElem?_set_ne (by omega)]; exact hPN.pre z y hz
   by_cases hbig : N1.length > 4000
   ·have hb1 : (4000 : Int) < N1.length:=by omega
    simp -implicitDefEqProofs [apd,wt,j6,hb1,hbig,j7]
    exact ret1 (v:=.tup [.agg [.sl 0 [] .nil],i64 15]) (by simp [deferred,dslot]) (by simp [evalRes,evalRes1,j8]) ⟨hend,.inr ⟨hre,X,hsound,hfull,.inr ⟨by simp [hmk],.inl ⟨c + 1,by rw [hp2,if_pos (.inl hbig)],rfl⟩⟩⟩⟩
   have hb1 : ¬ (4000 : Int) < N1.length:=by omega
   by_cases hbig2 : totF (waysT (N.take c)) + l1.length > 40000
   ·have hb2 : (40000 : Int) < (totF (waysT (N.take c)) : Int) + (l1.length : Int):=by omega
    simp -implicitDefEqProofs [apd,wt,j6,hb1,hbig,hb2,j7]
    exact ret1 (v:=.tup [.agg [.sl 0 [] .nil],i64 15]) (by simp [deferred,dslot]) (by simp [evalRes,evalRes1,j8]) ⟨hend,.inr ⟨hre,X,hsound,hfull,.inr ⟨by simp [hmk],.inl ⟨c + 1,by rw [hp2,if_pos (.inr hbig2)],rfl⟩⟩⟩⟩
   have hb2 : ¬ (40000 : Int) < (totF (waysT (N.take c)) : Int) + (l1.length : Int):=by omega
   simp -implicitDefEqProofs [apd,wt,j6,hb1,hbig,hb2,wc]
   have htot : totF (waysT ((N1.set c ⟨x.sp,l1,T1⟩).take (c + 1))) = totF (waysT (N.take c)) + l1.length:=by
    rw [htk]; simp [totF,waysT]
   refine ⟨⟨c + 1,N1.set c ⟨x.sp,l1,T1⟩,oN1,gN1,rc1,[],0,[],kb1,H6⟩,by simp; omega,⟨hPN,rfl,by simp; omega,by simp; omega,by simp only; rw [htot]; omega,hdrop,?_,hbd⟩,le_of ?_,rfl⟩
   ·simp only
    rw [hp2,if_neg (by omega),hsps,htk]
    simp [waysT,wl]
   ·simp only; rw [htot]; simp [dslot]
  obtain ⟨R,hR⟩ : ∃ R,g.rules[r]? = some R:=⟨g.rules[r],by simp [hr1]⟩
  have hRm:=List.mem_of_getElem? hR
  have hlt : (r : Int) < g.rules.length:=by omega
  have hr100:=hP.r
  have hne : g.rules ≠ []:=by intro e; rw [e] at hr1; simp at hr1
  have w1 : IntKind.i64.wrap ((r : Int) + 1) = (r : Int) + 1:=IntWalk.i64_in _ (by omega)
  have hcs : (List.range (r + 1)).flatMap (candR g tx X x.sp) = (List.range r).flatMap (candR g tx X x.sp) ++ candR g tx X x.sp r:=by simp [List.range_succ]
  by_cases hRs : R.sort = x.sp.s
  case neg =>
   simp -implicitDefEqProofs [lp1_ref14_Parse,hlt,hR,encR,hRs,w1]
   refine ⟨⟨r + 1,N1,oN1,gN1,rc1,l1,T1,kids1,kb1,H2⟩,by simp; omega,⟨⟨hI1.1,hI1.2,hI1.3,hI1.4,hI1.5,hI1.6,hI1.7,hI1.8,hI1.9,hI1.10,hI1.11,hI1.12⟩,by simp; omega,y2,?_,by simp at y4 ⊢; omega,y5,y6⟩,le_of (by simp [dslot]),rfl⟩
   simp only; rw [hcs,show candR g tx X x.sp r = [] by simp [candR,hR,hRs],List.append_nil]; exact y3
  simp -implicitDefEqProofs [lp1_ref14_Parse,hlt,hR,encR,hRs]
  obtain ⟨sb1,sb2⟩:=z7 x (List.mem_of_getElem? hx)
  have hsp:=splits_c (h:=H2) g tx tc X om (by omega) hs1000 hXl R.parts R.cap x.sp.i x.sp.j hI1.mks (sorts_of (hnm R hRm).2) (by have:=hP.p R hRm; omega) (by have:=hP.q R hRm; omega) sb1 sb2
  refine callk hsp (by simp [encG]) rfl ?_
  have hpl:=splits_length g tx X R.parts x.sp.i x.sp.j sb2
  have hpq:=hP.q R hRm
  have hpe:=splits_each g tx X R.parts x.sp.i x.sp.j
  have hpb:=splits_le g tx X R.parts x.sp.i x.sp.j
  have hcand : candR g tx X x.sp r = (splitsF g tx X R.parts x.sp.i x.sp.j).map (r,·):=by simp [candR,hR,hRs]
  generalize splitsF g tx X R.parts x.sp.i x.sp.j = ps at *
  simp -implicitDefEqProofs
  refine AWp.till (S:=PSt) ⟨0,N1,oN1,gN1,rc1,l1,T1,kids1,kb1,H2⟩ (fun st=>ps.length - st.c) [2,3,6,9,10,11,12,13,15,16]
   (fun st=>[(14,apd 2 (st.l.map encW) st.T),(17,i64 (st.c : Int))]) (fun st=>st.H) (J2 g tx X h om o N x.sp r ps) mixed ?_ (le_of (by simp [dslot])) rfl ?_
  ·exact ⟨⟨hI1.1,hI1.2,hI1.3,hI1.4,hI1.5,hI1.6,hI1.7,hI1.8,hI1.9,hI1.10,hI1.11,hI1.12⟩,by simp,y2,by simpa using y3,by simpa using y4,y5,y6⟩
  rintro ⟨k,N2,oN2,gN2,rc2,l2,T2,kids2,kb2,H3⟩ ⟨hI2',x1,x2,x3,x4,x5,x6⟩
  simp only at x1 x2 x3 x4 x5 x6
  by_cases hk1 : k < ps.length
  case neg =>
   have hno : ¬ (k : Int) < ps.length:=by omega
   simp -implicitDefEqProofs [lp2_ref14_Parse,outV,hno,w1]
   refine ⟨⟨r + 1,N2,oN2,gN2,rc2,l2,T2,kids2,kb2,H3⟩,by simp; omega,⟨⟨hI2'.1,hI2'.2,hI2'.3,hI2'.4,hI2'.5,hI2'.6,hI2'.7,hI2'.8,hI2'.9,hI2'.10,hI2'.11,hI2'.12⟩,by simp; omega,x2,?_,by simp at x4 ⊢; omega,x5,x6⟩,le_of (by simp [dslot]),rfl⟩
   simp only; rw [hcs,hcand,← x3,List.take_of_length_le (by omega)]
  obtain ⟨sp,hspk⟩ : ∃ sp,ps[k]? = some sp:=⟨ps[k],by simp [hk1]⟩
  have hspm:=List.mem_of_getElem? hspk
  have hspk2 : ps[k] = sp:=(List.getElem?_eq_some_iff.1 hspk).2
  have hspl:=hpe sp hspm
  have hlk : (k : Int) < ps.length:=by omega
  have hnep : ps ≠ []:=by intro e; rw [e] at hk1; simp at hk1
  simp -implicitDefEqProofs [lp2_ref14_Parse,outV,hlk,hnep,hR,encR]
  refine callk (args_c R (by have:=hP.p R hRm; omega)) (by simp [encR]) rfl ?_
  have hal:=argsF_le R.parts
  have hpR:=hP.p R hRm
  obtain ⟨n,hn2⟩ : ∃ n,n = argsF R.parts:=⟨_,rfl⟩
  rw [← hn2] at hal ⊢
  have hn10 : (n : Int) ≤ 4294967296:=by omega
  have hnz : ¬ (4294967296 : Int) < n:=by omega
  have wn : IntKind.i64.wrap (n : Int) = n:=IntWalk.i64_in _ (by omega)
  simp -implicitDefEqProofs [hn10,hnz,maxLenA,wn]
  have q1 : (H3 ++ [.cells 0 (List.replicate n (i64 0))])[H3.length]? = some (.cells 0 (List.replicate n (i64 0))):=by simp
  refine AWp.till (S:=PSt) ⟨0,N2,oN2,gN2,rc2,l2,T2,List.replicate n 0,H3.length,H3 ++ [.cells 0 (List.replicate n (i64 0))]⟩ (fun st=>n - st.c) [2,3,6,9,10,11,12,13,14,15,16,17,18]
   (fun st=>[(19,i64 (st.c : Int))]) (fun st=>st.H) (J3 tx.length X h om o N l2 T2 n H3.length R.parts x.sp.i sp (spsT N2)) mixed ?_ (le_of (by simp [dslot])) rfl ?_
  ·have hl3:=(List.getElem?_eq_some_iff.1 hI2'.nd).1
   refine ⟨⟨hI2'.app _ _ _,x2,rfl,rfl,by simp [i64s],by simp,by simp,by simp only at hl3 ⊢; omega,x6⟩,by simp [kid3],by simp,by simp only; omega⟩
  rintro ⟨a,N3,oN3,gN3,rc3,l3,T3,kids3,kb3,H4⟩ ⟨hk3,v1,v2,v3⟩
  simp only at v1 v2 v3
  obtain ⟨p3,e3',el3,eT3,ob3,kl3,hkb3,d3,bd3⟩:=hk3
  simp only at e3' el3 eT3 ob3 kl3 hkb3 d3 bd3
  by_cases ha : a < n
  case neg =>
   have hno : ¬ (a : Int) < n:=by omega
   have han : a = n:=by omega
   subst el3 eT3
   have hne3 : H3.length ≠ o:=by have:=(List.getElem?_eq_some_iff.1 hI2'.ob).1; simp only at this; omega
   simp -implicitDefEqProofs [lp3_ref14_Parse,hno]
   refine appG (l3.map encW) (encW ⟨r,H3.length,kids3⟩) T3 (by simp) (by simp [encW,kl3]) (fun hl=>by simpa using (p3.tk (by simpa using hl)).1) (by simp [maxLenA]; omega) ?_
   have wk : IntKind.i64.wrap ((k : Int) + 1) = (k : Int) + 1:=IntWalk.i64_in _ (by omega)
   simp -implicitDefEqProofs [wk]
   refine ⟨⟨k + 1,N3,oN3,gN3,rc3,l3 ++ [⟨r,H3.length,kids3⟩],apT H4 l3.length T3,[],H3.length + 1,apG H4 l3.length T3⟩,by simp; omega,⟨p3.way ob3 hne3 d3 hkb3 _ _,by simp; omega,e3',?_,by simp; omega,by simp; omega,bd3⟩,le_of (by simp [dslot]),by simp⟩
   simp only
   have htk : (ps.take (k + 1)).map (fun w=>(r,w)) = (ps.take k).map (fun w=>(r,w)) ++ [(r,sp)]:=by rw [List.take_add_one,hspk]; simp
   rw [htk,← List.append_assoc,runW_append,x3,runW_one]
   simp only [wayR,hR]
   rw [han] at v1
   rw [← hn2,v1]
   simp [wl]
  have hla : (a : Int) < n:=by omega
  simp -implicitDefEqProofs [lp3_ref14_Parse,hla]
  have hspc : ∀ p (e : Nat),sp[p]? = some e → e ≤ tx.length:=fun p e he=>Nat.le_trans (hpb sp hspm e (List.mem_of_getElem? he)) sb2
  refine AWp.till (S:=PSt) ⟨0,N3,oN3,gN3,rc3,l3,T3,kids3,kb3,H4⟩ (fun st=>sp.length - st.c) [2,3,6,9,10,11,12,13,14,15,16,17,18,19]
   (fun st=>[(20,i64 (st.c : Int))]) (fun st=>st.H) (J4 tx.length X h om o N l2 T2 n H3.length R.parts x.sp.i sp a (spsT N3,kids3)) mixed ?_ (le_of (by simp [dslot])) rfl ?_
  ·exact ⟨⟨⟨p3.1,p3.2,p3.3,p3.4,p3.5,p3.6,p3.7,p3.8,p3.9,p3.10,p3.11,p3.12⟩,e3',el3,eT3,ob3,kl3,hkb3,d3,bd3⟩,by simp [kid4],by simp,by simpa using v3⟩
  rintro ⟨p,N4,oN4,gN4,rc4,l4,T4,kids4,kb4,H5⟩ ⟨hk4,u1,u2,u3⟩
  simp only at u1 u2 u3
  have hk4':=hk4
  obtain ⟨p4,e4',el4,eT4,ob4,kl4,hkb4,d4,bd4⟩:=hk4
  simp only at e4' el4 eT4 ob4 kl4 hkb4 d4 bd4
  by_cases hpl4 : p < sp.length
  case neg =>
   have hno : ¬ (p : Int) < sp.length:=by omega
   have wa : IntKind.i64.wrap ((a : Int) + 1) = (a : Int) + 1:=IntWalk.i64_in _ (by omega)
   simp -implicitDefEqProofs [lp4_ref14_Parse,outV,hspk,hspk2,hnep,hk1,encS,hno,wa]
   have hps : p = sp.length:=by omega
   rw [hps] at u1
   refine ⟨⟨a + 1,N4,oN4,gN4,rc4,l4,T4,kids4,kb4,H5⟩,by simp; omega,⟨⟨⟨p4.1,p4.2,p4.3,p4.4,p4.5,p4.6,p4.7,p4.8,p4.9,p4.10,p4.11,p4.12⟩,e4',el4,eT4,ob4,kl4,hkb4,d4,bd4⟩,by simp only; rw [kid3_succ,v1]; exact u1,by simp only; omega,by simp only; omega⟩,le_of (by simp [dslot]),rfl⟩
  have hlp : (p : Int) < sp.length:=by omega
  obtain ⟨q,hq⟩ : ∃ q,R.parts[p]? = some q:=⟨R.parts[p]'(by omega),by simp⟩
  have wp : IntKind.i64.wrap ((p : Int) + 1) = (p : Int) + 1:=IntWalk.i64_in _ (by omega)
  have hskip : q.sort = emp ∨ q.arg ≠ (a : Int) → J4 tx.length X h om o N l2 T2 n H3.length R.parts x.sp.i sp a (spsT N3,kids3) ⟨p + 1,N4,oN4,gN4,rc4,l4,T4,kids4,kb4,H5⟩:=fun hq2 =>
   ⟨⟨⟨p4.1,p4.2,p4.3,p4.4,p4.5,p4.6,p4.7,p4.8,p4.9,p4.10,p4.11,p4.12⟩,e4',el4,eT4,ob4,kl4,hkb4,d4,bd4⟩,by simp only; rw [kid4_succ,u1]; simp [stepP,hq,hq2],by simp only; omega,by simp only; omega⟩
  by_cases hqs : q.sort = ⟨#[]⟩
  ·simp -implicitDefEqProofs [lp4_ref14_Parse,outV,hspk,hspk2,hnep,hk1,encS,hlp,hR,encR,hq,encP,hqs,wp]
   exact ⟨⟨p + 1,N4,oN4,gN4,rc4,l4,T4,kids4,kb4,H5⟩,by simp; omega,hskip (.inl hqs),le_of (by simp [dslot]),rfl⟩
  by_cases hqa : q.arg = (a : Int)
  case neg =>
   simp -implicitDefEqProofs [lp4_ref14_Parse,outV,hspk,hspk2,hnep,hk1,encS,hlp,hR,encR,hq,encP,hqs,hqa,wp]
   exact ⟨⟨p + 1,N4,oN4,gN4,rc4,l4,T4,kids4,kb4,H5⟩,by simp; omega,hskip (.inr hqa),le_of (by simp [dslot]),rfl⟩
  have hq2 : ¬ (q.sort = emp ∨ q.arg ≠ (a : Int)):=by simp [hqs,hqa]
  obtain ⟨e,he⟩ : ∃ e,sp[p]? = some e:=⟨sp[p],by simp⟩
  have he2 : sp[p] = e:=(List.getElem?_eq_some_iff.1 he).2
  have heb:=hspc p e he
  have hfrom : startP x.sp.i sp p ≤ tx.length:=by
   unfold startP
   split
   ·exact sb1
   ·rename_i hp0
    have : sp[p - 1]? = some (sp[p - 1]'(by omega)):=by simp
    rw [List.getD,this]; exact hspc _ _ this
  have hnum:=number_c (h:=H5) (N4.map encN) oN4 gN4 rc4 q.sort (startP x.sp.i sp p) e p4.nd (by simp; omega) (by simp) (by simpa using p4.ne)
  have h45:=(List.getElem?_eq_some_iff.1 ob4).1
  have h46:=(List.getElem?_eq_some_iff.1 p4.ob).1
  have hox : H3.length ≠ o:=by have:=(List.getElem?_eq_some_iff.1 hI2'.ob).1; simp only at this; omega
  have hstep : kid4 R.parts x.sp.i sp a (spsT N3,kids3) (p + 1) = (spsT (numTN N4 ⟨q.sort,startP x.sp.i sp p,e⟩).1,kids4.set a (numTN N4 ⟨q.sort,startP x.sp.i sp p,e⟩).2):=by
   rw [kid4_succ,u1]
   have hd : sp.getD p 0 = e:=by simp [List.getD,he]
   have:=numTN_sp N4 ⟨q.sort,startP x.sp.i sp p,e⟩
   simp only [stepP,hq,if_neg hq2,hd]
   unfold spsT
   rw [this.1,this.2]
  have hnum2:=fun K o' g' rc' (hK : (H5 ++ K)[o']? = some (.cells g' (((numTN N4 ⟨q.sort,startP x.sp.i sp p,e⟩).1.map encN).flatMap cellsN))) (ho' : o' = oN4 ∨ H5.length ≤ o')=>JK.num (rc':=rc') hk4' hoh hoo (by have:=(List.getElem?_eq_some_iff.1 hI2'.res).1; simp only at this; omega) (by have:=(List.getElem?_eq_some_iff.1 hI2'.mks).1; simp only at this; omega) hox hK ho' ⟨hfrom,by exact heb⟩ (p + 1) a
  have hle4:=(numTN_le N4 ⟨q.sort,startP x.sp.i sp p,e⟩).1
  have hnn:=nodeNo_tn N4 ⟨q.sort,startP x.sp.i sp p,e⟩
  simp only at hnn
  have h47 : a < kids4.length:=by rw [kl4]; exact ha
  by_cases hp0 : p = 0
  ·subst hp0
   have hfr : startP x.sp.i sp 0 = x.sp.i:=by simp [startP]
   simp only [hfr] at hnum hnum2 hnn hstep hle4
   have hlp0 : 0 < sp.length:=hpl4
   simp -implicitDefEqProofs [lp4_ref14_Parse,outV,hspk,hspk2,hnep,hk1,encS,hlp0,hR,encR,hq,encP,hqs,hqa,p4.ob,he,he2]
   refine callr hnum (by simp [i64s]) rfl ?_
   rintro r1 h'' ⟨K,o',g',rc',rfl,rfl,hK,ho'⟩
   rw [hnn] at hK ⊢
   simp only at hK
   have hJ:=hnum2 K o' g' rc' hK ho'
   generalize hNN : numTN N4 _ = NN at *
   have m1 : (H5 ++ K)[o]? = some (.cells 0 [.rf oN4 gN4 0 N4.length rc4]):=by rw [List.getElem?_append_left h46]; exact p4.ob
   have m2 : (H5 ++ K)[H3.length]? = some (.cells 0 (i64s kids4)):=by rw [List.getElem?_append_left h45]; exact ob4
   have m3 : ∀ y,((H5 ++ K).set o y)[H3.length]? = some (.cells 0 (i64s kids4)):=fun y=>by rw [List.getElem?_set_ne (fun e=>hox e.symm)]; exact m2
   have m4 : o < (H5 ++ K).length:=(List.getElem?_eq_some_iff.1 m1).1
   have m5 : a + 1 ≤ kids4.length:=h47
   have m6 : List.take a (i64s kids4) ++ i64 (NN.2 : Int) :: List.drop (a + 1) (i64s kids4) = i64s (kids4.set a NN.2):=by rw [put_eq _ _ _ (by simpa [i64s] using h47),i64s,i64s,List.map_set]
   have m7 : (i64s kids4).length = kids4.length:=by simp [i64s]
   have m8 : kids4.length = n:=kl4
   have m9 : a < n:=ha
   have m10 : a + 1 ≤ n:=ha
   generalize hHK : H5 ++ K = HK at *
   simp -implicitDefEqProofs [m1,m2,m3,m5,m6,m7,m8,m9,m10,wp]
   exact ⟨⟨0 + 1,NN.1,o',g',rc',l4,T4,kids4.set a NN.2,kb4,(HK.set o (.cells 0 [.rf o' g' 0 NN.1.length rc'])).set H3.length (.cells 0 (i64s (kids4.set a NN.2)))⟩,by simp; omega,⟨hJ,hstep,by simp only; omega,by simp only; omega⟩,le_of (by simp [dslot]),rfl⟩
  ·have w3 : IntKind.i64.wrap ((p : Int) - 1) = (p : Int) - 1:=IntWalk.i64_in _ (by omega)
   have w4 : (0 : Int) ≤ (p : Int) - 1:=by omega
   have w5 : ((p : Int) - 1).toNat = p - 1:=by omega
   have w6 : 0 < p:=by omega
   have w7 : (0 : Int) < p:=by omega
   have w8 : (1 : Int) ≤ p:=by omega
   obtain ⟨f,hf⟩ : ∃ f,sp[p - 1]? = some f:=⟨sp[p - 1]'(by omega),by simp⟩
   have hf2 : sp[p - 1]'(by omega) = f:=(List.getElem?_eq_some_iff.1 hf).2
   have hfr : startP x.sp.i sp p = f:=by simp [startP,List.getD,hf,hp0]
   simp only [hfr] at hnum hnum2 hnn hstep hle4
   have hpn : p - 1 < sp.length:=by omega
   simp -implicitDefEqProofs [lp4_ref14_Parse,outV,hspk,hspk2,hnep,hk1,encS,hlp,hpl4,hpn,hR,encR,hq,encP,hqs,hqa,p4.ob,w3,w4,w5,w6,w7,w8,hf,hf2,he,he2]
   refine callr hnum (by simp [i64s]) rfl ?_
   rintro r1 h'' ⟨K,o',g',rc',rfl,rfl,hK,ho'⟩
   rw [hnn] at hK ⊢
   simp only at hK
   have hJ:=hnum2 K o' g' rc' hK ho'
   generalize hNN : numTN N4 _ = NN at *
   have m1 : (H5 ++ K)[o]? = some (.cells 0 [.rf oN4 gN4 0 N4.length rc4]):=by rw [List.getElem?_append_left h46]; exact p4.ob
   have m2 : (H5 ++ K)[H3.length]? = some (.cells 0 (i64s kids4)):=by rw [List.getElem?_append_left h45]; exact ob4
   have m3 : ∀ y,((H5 ++ K).set o y)[H3.length]? = some (.cells 0 (i64s kids4)):=fun y=>by rw [List.getElem?_set_ne (fun e=>hox e.symm)]; exact m2
   have m4 : o < (H5 ++ K).length:=(List.getElem?_eq_some_iff.1 m1).1
   have m5 : a + 1 ≤ kids4.length:=h47
   have m6 : List.take a (i64s kids4) ++ i64 (NN.2 : Int) :: List.drop (a + 1) (i64s kids4) = i64s (kids4.set a NN.2):=by rw [put_eq _ _ _ (by simpa [i64s] using h47),i64s,i64s,List.map_set]
   have m7 : (i64s kids4).length = kids4.length:=by simp [i64s]
   have m8 : kids4.length = n:=kl4
   have m9 : a < n:=ha
   have m10 : a + 1 ≤ n:=ha
   generalize hHK : H5 ++ K = HK at *
   simp -implicitDefEqProofs [m1,m2,m3,m5,m6,m7,m8,m9,m10,wp]
   exact ⟨⟨p + 1,NN.1,o',g',rc',l4,T4,kids4.set a NN.2,kb4,(HK.set o (.cells 0 [.rf o' g' 0 NN.1.length rc'])).set H3.length (.cells 0 (i64s (kids4.set a NN.2)))⟩,by simp; omega,⟨hJ,hstep,by simp only; omega,by simp only; omega⟩,le_of (by simp [dslot]),rfl⟩
end Go.Apx
end
