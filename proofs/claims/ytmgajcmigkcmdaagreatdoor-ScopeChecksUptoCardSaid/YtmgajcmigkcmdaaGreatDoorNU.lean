/- Walks: the reference's disjoint. -/
import Derived.Test.YtmgajcmigkcmdaaGreatDoorNT
import Derived.Test.YtmgajcmigkcmdaaGreatDoorNH
import Derived.Test.YtmgajcmigkcmdaaGreatDoorNQ
import Derived.Test.YtmgajcmigkcmdaaGreatDoorNP
set_option linter.unusedVariables false
set_option linter.unusedSimpArgs false
set_option linter.unnecessarySimpa false
section
namespace Go.Apx
open Go.Proofs Go.Shelf
set_option maxRecDepth 4000
def disG (r:RSt) (s:St):Int × RSt :=
 if s.text.length < 2 then (66,r) else if disR r.now [] s.text ≠ 0 then (disR r.now [] s.text,r) else (0,{ r with now:={ r.now with ap:=joinR r.now.ap (pairsR s.text) } })
theorem fl_apfV (k:Nat) (es:List AV):Fl k es (apfV k es):=by
 unfold apfV
 by_cases e:es=[]
 .rw [if_pos e]; exact ⟨k,.full,rfl,.inl rfl,.inr (.inl rfl)⟩
 .rw [if_neg e]; exact ⟨k,.any,rfl,.inl rfl,.inl rfl⟩
set_option maxHeartbeats 32000000 in
theorem disjointR_c {r:RSt} {VC VV VH VA VO VP VL VD VF:AV} (e:EncC r VC VV VH VA VO VP VL VD VF) (b:RB r) (s:St) (tl:s.text.length <= 1000) (so:s.tc=.nil -> s.text=[]) (co:CapOk s) {h:AHeap} :
  ACalls PP Gl 74 [stV r.now.d VC VV VH VA VO VP VL VD VF,encSt s] h (StP h (disG r s)):=by
 have E1:=e.ones
 have E2:=e.pends
 have E3:=e.cellsE
 have bnd:=b.now r.now (List.mem_cons_self ..)
 obtain ⟨D,hD⟩:∃ D:Int,D=r.now.d:=⟨_,rfl⟩
 rw [<- hD]
 obtain ⟨H0,hH0⟩:∃ H0,H0=h++[AObj.cells 0 [VC,VV,VH,VA,i64 D,VO,VP,VL,VD,VF],.cells 0 zeroS]:=⟨_,rfl⟩
 have ret:∀ (x:Int) env H',x=(disG r s).1 -> (disG r s).2=r -> Low h.length h H' -> deferred env=some [] -> evalRes Gl env H' [ResA.cell 4 (Ty.agg 10),ResA.t 5]=some (.tup [stV D VC VV VH VA VO VP VL VD VF,i64 x]) ->
   retPost PP Gl h [ResA.cell 4 (Ty.agg 10),ResA.t 5] (StP h (disG r s)) .ret env H':=fun x env H' hx h2 low hd1 hv =>
  retPR hd1 hv (e.pur _ _) low ⟨VC,VV,VH,VA,VO,VP,VL,VD,VF,by rw [h2,<- hx,hD],rfl,by rw [h2]; exact e⟩
 refine enter_74 (by simp) ?_
 by_cases h2:s.text.length < 2
 .have h2':(s.text.length:Int) < 2:=by omega
  simp -implicitDefEqProofs [code_74,res_74,ann_74,E1,E2,E3,encSt,h2,h2']
  exact ret 66 _ _ (by simp [disG,h2]) (by simp [disG,h2]) (Low.app _ _ _) (by simp [deferred,dslot]) (by simp [evalRes,evalRes1])
 have h2':¬ (s.text.length:Int) < 2:=by omega
 have hne:s.text ≠ []:=fun e=>by rw [e] at h2; simp at h2
 have htc:s.tc=.any:=Decidable.byContradiction fun h=>hne (so (co.1 h))
 have hg:disG r s=if disR r.now [] s.text ≠ 0 then (disR r.now [] s.text,r) else (0,{ r with now:={ r.now with ap:=joinR r.now.ap (pairsR s.text) } }):=by unfold disG; rw [if_neg h2]
 simp -implicitDefEqProofs [code_74,res_74,ann_74,E1,E2,E3,encSt,h2,h2',htc]
 obtain ⟨T,hT⟩:∃ T,T=s.text:=⟨_,rfl⟩
 rw [<- hT] at hg tl hne ⊢
 refine AWp.till (S:=PuS) ⟨0⟩ (fun x=>T.length - x.i) [2,3,4] (fun x=>[(6,i64 (x.i:Int))]) (fun _=>h++[AObj.cells 0 [VC,VV,VH,VA,i64 D,VO,VP,VL,VD,VF],.cells 0 zeroS])
  (fun x=>x.i <= T.length /\ disR r.now (T.take x.i) (T.drop x.i)=disR r.now [] T) mixed ⟨by simp,by simp⟩ (le_of (by simp [dslot])) rfl ?_
 rintro ⟨i⟩ ⟨z1,z2⟩
 simp only at z1 z2
 by_cases hi:i < T.length
 case pos =>
  have hlt:(i:Int) < T.length:=by omega
  have hile:i <= T.length:=by omega
  have wi:IntKind.i64.wrap ((i:Int)+1)=(i:Int)+1:=IntWalk.i64_in _ (by omega)
  obtain ⟨w,hw⟩:∃ w,w=T[i]:=⟨_,rfl⟩
  have hw2:T[i]?=some w:=by rw [hw]; simp [hi]
  have hdw:T.drop i=w :: T.drop (i+1):=by rw [List.drop_eq_getElem_cons hi,<- hw]
  rw [hdw] at z2
  simp only [disR] at z2
  have htk:T.take i++[w]=T.take (i+1):=by rw [List.take_add_one,hw2]; rfl
  rw [htk] at z2
  have cS:=symbol_c e b D w (h:=h++[AObj.cells 0 [VC,VV,VH,VA,i64 D,VO,VP,VL,VD,VF],.cells 0 zeroS])
  have cC:=hasR_c r.now.cs w VC e.cs (by omega) (h:=h++[AObj.cells 0 [VC,VV,VH,VA,i64 D,VO,VP,VL,VD,VF],.cells 0 zeroS])
  have cB:=hasR_c (T.take i) w (.sl 1 ((T.take i).map sv) .any) (fl_any 1 _) (by rw [List.length_take]; omega) (h:=h++[AObj.cells 0 [VC,VV,VH,VA,i64 D,VO,VP,VL,VD,VF],.cells 0 zeroS])
  rw [List.map_take] at cB
  have bad:∀ (x:Int) env H',disR r.now [] T=x -> x ≠ 0 -> Low h.length h H' -> deferred env=some [] -> evalRes Gl env H' [ResA.cell 4 (Ty.agg 10),ResA.t 5]=some (.tup [stV D VC VV VH VA VO VP VL VD VF,i64 x]) ->
    retPost PP Gl h [ResA.cell 4 (Ty.agg 10),ResA.t 5] (StP h (disG r s)) .ret env H':=fun x env H' hx h0 low hd1 hv=>by
   have hg2:disG r s=(x,r):=by rw [hg,hx,if_pos h0]
   exact ret x env H' (by rw [hg2]) (by rw [hg2]) low hd1 hv
  simp -implicitDefEqProofs [lp0_74,hlt,hi,<- hw,E1,E2,E3]
  refine callk cS rfl rfl ?_
  cases ha:actR r.now w with
  | false =>
   rw [if_pos ha] at z2
   simp -implicitDefEqProofs [E1,E2,E3]
   exact bad 63 _ _ z2.symm (by decide) (Low.app _ _ _) (by simp [deferred,dslot]) (by simp [evalRes,evalRes1])
  | true =>
   rw [if_neg (by rw [ha]; simp)] at z2
   simp -implicitDefEqProofs [hi,<- hw,E1,E2,E3]
   refine callk cC rfl rfl ?_
   by_cases hc:w ∈ r.now.cs
   .rw [if_pos (.inl hc)] at z2
    simp -implicitDefEqProofs [hc,hi,<- hw,E1,E2,E3]
    exact bad 66 _ _ z2.symm (by decide) (Low.app _ _ _) (by simp [deferred,dslot]) (by simp [evalRes,evalRes1])
   simp -implicitDefEqProofs [hc,hi,hile,<- hw,E1,E2,E3]
   refine callk cB (by simp) rfl ?_
   by_cases hm:w ∈ T.take i
   .rw [if_pos (.inr hm)] at z2
    simp -implicitDefEqProofs [hm,hi,<- hw,E1,E2,E3]
    exact bad 66 _ _ z2.symm (by decide) (Low.app _ _ _) (by simp [deferred,dslot]) (by simp [evalRes,evalRes1])
   rw [if_neg (fun h=>h.elim hc hm)] at z2
   simp -implicitDefEqProofs [hm,hi,<- hw,wi,E1,E2,E3]
   exact ⟨⟨i+1⟩,by simp; omega,⟨by simp; omega,z2⟩,le_of (by simp [dslot])⟩
 have hno:¬ (i:Int) < T.length:=by omega
 rw [List.drop_of_length_le (by omega)] at z2
 have hz:disR r.now [] T=0:=z2.symm
 rw [hg,if_neg (by rw [hz]; simp)]
 obtain ⟨qa,ca,hVA,hqa,_⟩:=e.ap
 simp only [List.map_eq_nil_iff] at hqa
 obtain ⟨L,hL⟩:∃ L,L=joinR r.now.ap (pairsR T):=⟨_,rfl⟩
 have hpl:=pairsR_len T (by omega)
 have hpl2:(pairsR T).length <= 2 ^ 28:=by
  have h1:=layFold_len (T.flatMap (rwP T))
  have h2:=rowsP_len T T
  have h3:T.length * T.length <= 2 ^ 28:=Nat.le_trans (Nat.mul_le_mul tl tl) (by decide)
  exact Nat.le_trans h1 (Nat.le_trans h2 h3)
 have cP:=pairsR_c T 1 .any (.inl rfl) (by omega) (h:=h++[AObj.cells 0 [VC,VV,VH,VA,i64 D,VO,VP,VL,VD,VF],.cells 0 zeroS])
 have cJ:=joinR_c r.now.ap (pairsR T) qa 2 ca (if (pairsR T).map encP=[] then .full else .any) hqa (.inl rfl) (by omega) (h:=h++[AObj.cells 0 [VC,VV,VH,VA,i64 D,VO,VP,VL,VD,VF],.cells 0 zeroS])
 rw [<- hVA,<- hL] at cJ
 have fJ:=fl_apfV 2 (L.map encP)
 obtain ⟨VJ,hVJ⟩:∃ V,V=apfV 2 (L.map encP):=⟨_,rfl⟩
 rw [<- hVJ] at cJ fJ
 have j1:=fJ.pend
 have j2:=fJ.one
 have j3:=fJ.cells
 simp -implicitDefEqProofs [lp0_74,hno,E1,E2,E3]
 refine callk cP rfl rfl ?_
 simp -implicitDefEqProofs [E1,E2,E3]
 refine callk cJ (by simp [apfV]) rfl ?_
 simp -implicitDefEqProofs [E1,E2,E3,j1,j2,j3]
 have eC:EncC { r with now:={ r.now with ap:=L } } VC VV VH VJ VO VP VL VD VF:={ e with ap:=fJ }
 exact retPR (v:=.tup [stV D VC VV VH VJ VO VP VL VD VF,i64 0]) (by simp [deferred,dslot]) (by simp [evalRes,evalRes1]) (eC.pur _ _) (Low.app _ _ _) ⟨VC,VV,VH,VJ,VO,VP,VL,VD,VF,by rw [hD],rfl,by rw [<- hL]; exact eC⟩
end Go.Apx
end
section
namespace Go.Apx
open Go.Proofs Go.Shelf
set_option maxRecDepth 4000
theorem EncL.len {l:List AcR} {os:List AV} (h:EncL l os):os.length=l.length:=by
 induction h with
 | nil=>rfl
 | cons _ _ ih=>simp [ih]
theorem EncL.get {l:List AcR} {os:List AV} (h:EncL l os):∀ (i:Nat) (A:AcR),l[i]?=some A -> ∃ V,os[i]?=some V /\ EncA A V:=by
 induction h with
 | nil=>intro i A h; simp at h
 | cons h _ ih =>
  intro i A hA
  match i with
  | 0=>simp at hA; subst hA; exact ⟨_,rfl,h⟩
  | i+1=>simp at hA; simpa using ih i A hA
theorem EncL.take {l:List AcR} {os:List AV} (h:EncL l os):∀ n,EncL (l.take n) (os.take n):=by
 induction h with
 | nil=>intro n; simp; exact .nil
 | cons h _ ih =>
  intro n
  match n with
  | 0=>exact .nil
  | n+1=>exact .cons h (ih n)
theorem EncL.snoc {l:List AcR} {os:List AV} {A:AcR} {V:AV} (h:EncL l os) (k:EncA A V):EncL (l++[A]) (os++[V]):=by
 induction h with
 | nil=>exact .cons k .nil
 | cons h _ ih=>exact .cons h ih
structure Sw (s:St):Prop where
 sm:Sm s
 so:s.tc=.nil -> s.text=[]
 co:CapOk s
 ll:s.label.size <= 2 ^ 31
 tw:∀ w ∈ s.text,w.size <= 2 ^ 31
theorem lpE_eq (r:RSt) (s:St) (c:ByteArray) (t:List ByteArray):lpE r false c t=formR r.now 1 t /\ (∀ i,0 < i -> formR r.now i t=formR r.now 1 t):=by
 induction t with
 | nil=>exact ⟨rfl,fun _ _=>rfl⟩
 | cons w t ih =>
  have key:∀ i,0 < i -> formR r.now i (w :: t)=if actR r.now w=false then 63 else if w ∉ r.now.cs /\ floatR r.now.hs w=false then 65 else formR r.now 1 t:=fun i hi=>by
   simp only [formR]
   rw [ih.2 (i+1) (by omega)]
   have h0:¬ i=0:=by omega
   simp [h0]
  refine ⟨?_,fun i hi=>by rw [key i hi,key 1 (by omega)]⟩
  rw [key 1 (by omega)]
  simp only [lpE,ih.1]
  simp
theorem labG_step (r:RSt) (a:Int) (s:St) (hf:formF2 s=true) (hk:s.kind=3 \/ s.kind=4 \/ s.kind=6 \/ s.kind=7):∃ c t,s.text=c :: t /\ labG r s c t=stepR r a s:=by
 have hlen:=formF2_len hf
 have hnf:¬ formF2 s=false:=by rw [hf]; simp
 have hne:s.text ≠ []:=by
  intro e
  rw [e] at hlen
  have l3:(frow 3).2.2.1=2:=by decide
  have l4:(frow 4).2.2.1=1:=by decide
  have l6:(frow 6).2.2.1=1:=by decide
  have l7:(frow 7).2.2.1=1:=by decide
  rcases hk with h | h | h | h <;> rw [show s.kind.toNat=_ from congrArg Int.toNat h] at hlen <;> simp at hlen
  all_goals omega
 obtain ⟨c,t,ht⟩:∃ c t,s.text=c :: t:=by
  match hx:s.text,hne with
  | c :: t,_=>exact ⟨c,t,rfl⟩
 refine ⟨c,t,ht,?_⟩
 unfold labG stepR
 rw [if_neg hnf]
 by_cases hl:labR r s.label=true
 .rcases hk with h | h | h | h <;> simp [h,hl]
 rw [if_neg hl]
 have hformR:formR r.now 0 s.text=if tcF r.now c ≠ 0 then tcF r.now c else lpE r false c t:=by
  rw [ht]
  simp only [formR,(lpE_eq r s c t).1]
  unfold tcF
  by_cases h1:actR r.now c=false
  .simp [h1]
  .by_cases h2:c ∈ r.now.cs
   .simp [h1,h2]
   .simp [h1,h2]
 have hcomb:∀ (X Y:Int) (Z:RSt),(if X ≠ 0 then (X,r) else if Y ≠ 0 then (Y,r) else (0,Z))=if (if X ≠ 0 then X else Y) ≠ 0 then ((if X ≠ 0 then X else Y),r) else (0,Z):=fun X Y Z=>by
  by_cases hX:X=0
  .simp [hX]
  .simp [hX]
 rw [hcomb]
 rcases hk with h | h
 .have l3:(frow 3).2.2.1=2:=by decide
  have l3':(frow 3).2.2.2=2:=by decide
  rw [show s.kind.toNat=3 from congrArg Int.toNat h,l3,l3',ht] at hlen
  obtain ⟨v,hv⟩:∃ v,t=[v]:=by
   match t,hlen with
   | [v],_=>exact ⟨v,rfl⟩
  subst hv
  have ec:(hyO s true).code=c:=by unfold hyO Hy.code; rw [ht]; rfl
  have ev:(hyO s true).var=v:=by unfold hyO Hy.var; rw [ht]; rfl
  have hE:floRE r c v=if tcF r.now c ≠ 0 then tcF r.now c else lpE r true c [v]:=by
   unfold floRE tcF
   simp only [lpE]
   by_cases h1:actR r.now c=false
   .simp [h1]
   .by_cases h2:c ∈ r.now.cs
    .simp [h1,h2]
    .simp [h1,h2]
  have hdk:decide (s.kind=3)=true:=by simp [h]
  rw [hdk,<- hE]
  simp only [h,show ¬ (3:Int)=1 by decide,show ¬ (3:Int)=2 by decide,if_false,if_true,ec,ev,if_neg hl]
  unfold labN
  simp [h]
 .have hdk:decide (s.kind=3)=false:=by rcases h with h | h | h <;> simp [h]
  rw [hdk,<- hformR]
  unfold labN
  rcases h with h | h | h <;> simp [h,if_neg hl]
set_option maxHeartbeats 32000000 in
theorem stepR_c {r:RSt} {VC VV VH VA VO VP VL VD VF:AV} (e:EncC r VC VV VH VA VO VP VL VD VF) (b:RB r) (inv:RInv r) (a:Int) (s:St) (w:Sw s) (hb:∀ i,RB (declR (decide (s.kind=1)) r (s.text.take i)).2) {h:AHeap} :
  ACalls PP Gl 51 [stV r.now.d VC VV VH VA VO VP VL VD VF,encSt s,i64 a] h (StP h (stepR r a s)):=by
 have E1:=e.ones
 have E2:=e.pends
 have E3:=e.cellsE
 have bnd:=b.now r.now (List.mem_cons_self ..)
 have hfo:=fun {H:AHeap}=>formedR_c s w.ll w.sm.tl w.sm.pl w.tw w.sm.pw (h:=H)
 rw [formG_eq] at hfo
 have ret:∀ (x:Int) env H',stepR r a s=(x,r) -> Low h.length h H' -> deferred env=some [] -> evalRes Gl env H' [ResA.cell 6 (Ty.agg 10),ResA.t 7]=some (.tup [stV r.now.d VC VV VH VA VO VP VL VD VF,i64 x]) ->
   retPost PP Gl h [ResA.cell 6 (Ty.agg 10),ResA.t 7] (StP h (stepR r a s)) .ret env H':=fun x env H' hx low hd1 hv =>
  retPR hd1 hv (e.pur _ _) low ⟨VC,VV,VH,VA,VO,VP,VL,VD,VF,by rw [hx],rfl,by rw [hx]; exact e⟩
 refine enter_51 (by simp) ?_
 simp -implicitDefEqProofs [code_51,res_51,ann_51,E1,E2,E3,encSt]
 refine callk hfo rfl rfl ?_
 cases hf:formF2 s with
 | false =>
  simp -implicitDefEqProofs [E1,E2,E3]
  exact ret 2 _ _ (by unfold stepR; rw [if_pos hf]) (Low.app _ _ _) (by simp [deferred,dslot]) (by simp [evalRes,evalRes1])
 | true =>
 have hnf:¬ formF2 s=false:=by rw [hf]; simp
 obtain ⟨kr1,kr2⟩:=formF2_range hnf
 by_cases k8:s.kind=8
 .by_cases hd:100 <= r.now.d
  .have hd':(100:Int) <= r.now.d:=by omega
   simp -implicitDefEqProofs [E1,E2,E3,eq_true k8,hd,hd']
   exact ret 9 _ _ (by unfold stepR; rw [if_neg hnf]; simp [k8,hd]) (Low.app _ _ _) (by simp [deferred,dslot]) (by simp [evalRes,evalRes1])
  have hd':¬ (100:Int) <= r.now.d:=by omega
  have wd:IntKind.i64.wrap ((r.now.d:Int)+1)=((r.now.d+1:Nat):Int):=IntWalk.i64_in _ (by omega)
  simp -implicitDefEqProofs [E1,E2,E3,eq_true k8,hd,hd']
  obtain ⟨os,eL,eo⟩:=e.out
  have hos:=eL.len
  have bo:=b.out
  have bp:=b.op
  obtain ⟨NV,hNV⟩:∃ NV:AV,NV=.agg [VC,VV,VH,VA,i64 ↑r.now.d]:=⟨_,rfl⟩
  have eNow:EncA r.now NV:=⟨VC,VV,VH,VA,hNV,e.cs,e.vs,e.hs,e.ap⟩
  obtain ⟨HL,hHL⟩:∃ HL,HL=h++[AObj.cells 0 [VC,VV,VH,VA,i64 ↑r.now.d,VO,VP,VL,VD,VF],.cells 0 zeroS]:=⟨_,rfl⟩
  have hHLl:HL.length=h.length+2:=by rw [hHL]; simp
  have lowL:Low h.length h HL:=by rw [hHL]; exact Low.app _ _ _
  have q1:HL[h.length]?=some (.cells 0 [VC,VV,VH,VA,i64 ↑r.now.d,VO,VP,VL,VD,VF]):=by rw [hHL]; simp
  have q2:HL[h.length+1]?=some (.cells 0 zeroS):=by rw [hHL]; simp
  have eV1:∀ H,elems H 5 VO=some os:=fun H=>Fl.elems eo H
  have eV2:∀ H,elems H 1 VP=some (r.opens.map i64):=fun H=>Fl.elems e.op H
  rw [<- hHL]
  refine appFX (base:=h.length+2) [] os 0 (.nil _ _ _ (by omega)) (by simp [apf]) (by simp [-elems,E1,E2,E3,eV1]) (by simp; unfold maxLenA; omega) ?_
  intro A1 S1 ga1 la1
  have x1:=la1 h.length _ (by omega) q1
  have x2:=la1 (h.length+1) _ (by omega) q2
  simp -implicitDefEqProofs [E1,E2,E3,x1,x2]
  refine appFX (base:=h.length+2) os [.agg [VC,VV,VH,VA,i64 ↑r.now.d]] S1 (by simpa using ga1) (by simp) (by simp [elems]) (by simp; unfold maxLenA; omega) ?_
  intro B1 R1 gb1 lb1
  have y1:=lb1 h.length _ (by omega) x1
  have y2:=lb1 (h.length+1) _ (by omega) x2
  obtain ⟨VO2,hVO2⟩:∃ V:AV,V=apf 5 (os++[.agg [VC,VV,VH,VA,i64 ↑r.now.d]]) R1:=⟨_,rfl⟩
  have t11:VO2.isPend=false:=by rw [hVO2]; rfl
  have t12:VO2.one=true:=by rw [hVO2]; rfl
  have t13:VO2.cells=[VO2]:=by rw [hVO2]; rfl
  have t14:VO2.strip=.sl 5 (os++[NV]) .any:=by rw [hVO2,hNV]; exact apf_any (by simp) (by rw [<- hNV]; exact (eL.snoc eNow).pur)
  rw [<- hVO2]
  have hl1b:h.length+2 <= B1.length:=gb1.len
  obtain ⟨C1,hC1⟩:∃ C1,C1=B1.set h.length (.cells 0 [VC,VV,VH,VA,i64 ↑r.now.d,VO2,VP,VL,VD,VF]):=⟨_,rfl⟩
  have w1:C1[h.length]?=some (.cells 0 [VC,VV,VH,VA,i64 ↑r.now.d,VO2,VP,VL,VD,VF]):=by rw [hC1,List.getElem?_set_self (by omega)]
  have w2:C1[h.length+1]?=some (.cells 0 zeroS):=by rw [hC1,List.getElem?_set_ne (by omega)]; exact y2
  have lowC:Low h.length h C1:=by rw [hC1]; exact (lowL.trans ((la1.trans lb1).mono (by omega))).trans (Low.set (Nat.le_refl _))
  have hlen2:h.length+2 <= C1.length:=by rw [hC1,List.length_set]; omega
  simp -implicitDefEqProofs [E1,E2,E3,y1,y2,t11,t12,t13]
  rw [<- hC1]
  simp -implicitDefEqProofs [E1,E2,E3,w1,w2,t11,t12,t13]
  refine appFX (base:=h.length+2) [] (r.opens.map i64) 0 (.nil _ _ _ hlen2) (by simp [apf]) (by simp [-elems,E1,E2,E3,eV2]) (by simp; unfold maxLenA; omega) ?_
  intro A2 S2 ga2 la2
  simp -implicitDefEqProofs [E1,E2,E3,w1,w2,t11,t12,t13]
  refine appFX (base:=h.length+2) (r.opens.map i64) [i64 a] S2 (by simpa using ga2) (by simp) (by simp [elems]) (by simp; unfold maxLenA; omega) ?_
  intro B2 R2 gb2 lb2
  have u1:=(la2.trans lb2) h.length _ (by omega) w1
  have u2:=(la2.trans lb2) (h.length+1) _ (by omega) w2
  obtain ⟨VP2,hVP2⟩:∃ V:AV,V=apf 1 (r.opens.map i64++[i64 a]) R2:=⟨_,rfl⟩
  have t21:VP2.isPend=false:=by rw [hVP2]; rfl
  have t22:VP2.one=true:=by rw [hVP2]; rfl
  have t23:VP2.cells=[VP2]:=by rw [hVP2]; rfl
  have t24:VP2.strip=.sl 1 ((r.opens++[a]).map i64) .any:=by rw [hVP2,List.map_append]; exact apf_any (by simp) (by have:=purI (r.opens++[a]); simpa using this)
  rw [<- hVP2]
  have hl2b:h.length+2 <= B2.length:=gb2.len
  have s0:∀ X:AObj,(B2.set h.length X)[h.length]?=some X:=fun X=>by rw [List.getElem?_set_self (by omega)]
  have s00:∀ X Y:AObj,((B2.set h.length X).set h.length Y)[h.length]?=some Y:=fun X Y=>by rw [List.getElem?_set_self (by simp; omega)]
  have s0':∀ X:AObj,(B2.set h.length X)[h.length+1]?=some (.cells 0 zeroS):=fun X=>by rw [List.getElem?_set_ne (by omega)]; exact u2
  have s1:∀ X Y:AObj,((B2.set h.length X).set (h.length+1) Y)[h.length+1]?=some Y:=fun X Y=>by rw [List.getElem?_set_self (by simp; omega)]
  simp -implicitDefEqProofs [E1,E2,E3,u1,u2,s0,s00,s0',s1,t11,t12,t13,t21,t22,t23,wd]
  have eS:stepR r a s=(0,{ r with outer:=r.outer++[r.now],opens:=r.opens++[a],now:={ r.now with d:=r.now.d+1 } }):=by unfold stepR; rw [if_neg hnf]; simp [k8,hd]
  obtain ⟨v1,v2,v3,v4,v5,v6,v7,v8,v9⟩:=e.strips
  have eC:EncC (stepR r a s).2 VC VV VH VA (.sl 5 (os++[NV]) .any) (.sl 1 ((r.opens++[a]).map i64) .any) VL VD VF:=by rw [eS]; exact { e with out:=⟨_,eL.snoc eNow,fl_any 5 _⟩,op:=fl_any 1 _ }
  exact retPS (v:=.tup [stV ((r.now.d:Int)+1) VC VV VH VA VO2 VP2 VL VD VF,i64 0]) (v':=.tup [stV ((r.now.d:Int)+1) VC VV VH VA (.sl 5 (os++[NV]) .any) (.sl 1 ((r.opens++[a]).map i64) .any) VL VD VF,i64 0]) (by simp [deferred,dslot]) (by simp [evalRes,evalRes1,s1])
   (by simp only [AV.strip,stripL,stV,t14,t24,v1,v2,v3,v4,v7,v8,v9]) (eC.pur _ _) (((lowC.trans ((la2.trans lb2).mono (by omega))).trans (Low.set (Nat.le_refl _))).trans (Low.set (by omega))) ⟨VC,VV,VH,VA,_,_,VL,VD,VF,by rw [eS]; rfl,rfl,eC⟩
 by_cases k9:s.kind=9
 .obtain ⟨os,eL,eo⟩:=e.out
  have hos:=eL.len
  have bo:=b.out
  have bp:=b.op
  have hop:=inv.op
  by_cases hn:r.outer.length=0
  .have hnil:r.outer=[]:=List.eq_nil_of_length_eq_zero hn
   have hosn:os=[]:=List.eq_nil_of_length_eq_zero (by rw [hos,hn])
   obtain ⟨qo,co,hVO,hqo,_⟩:=eo
   subst hosn hVO
   simp -implicitDefEqProofs [E1,E2,E3,k8,eq_true k9]
   exact ret 67 _ _ (by unfold stepR; rw [if_neg hnf]; simp [k9,hnil]) (Low.app _ _ _) (by simp [deferred,dslot]) (by simp [evalRes,evalRes1])
  obtain ⟨n,hN⟩:∃ n,r.outer.length=n+1:=⟨r.outer.length - 1,by omega⟩
  obtain ⟨A,hA⟩:∃ A,r.outer[n]?=some A:=⟨r.outer[n]'(by omega),by simp⟩
  obtain ⟨W,hW,WC,WV,WH,WA,hWe,f1,f2,f3,f4⟩:=eL.get n A hA
  have hosl:os.length=n+1:=by rw [hos,hN]
  have hosne:¬ os=[]:=fun h=>by rw [h] at hosl; simp at hosl
  obtain ⟨qo,co,hVO,hqo,hco⟩:=eo
  obtain rfl:=hqo.resolve_right hosne
  have hco':co ≠ .nil:=fun h=>by rcases hco with h2 | h2 | h2 <;> simp_all
  obtain ⟨qp,cp,hVP,hqp,hcp⟩:=e.op
  have hopl:r.opens.length=n+1:=by rw [hop,hN]
  have hopne:¬ r.opens=[]:=fun h=>by rw [h] at hopl; simp at hopl
  obtain rfl:=hqp.resolve_right (by simpa using hopne)
  subst hVO hVP hWe
  have wn:IntKind.i64.wrap (n:Int)=(n:Int):=IntWalk.i64_in _ (by omega)
  have hn1:n <= n+1:=by omega
  have hn2:¬ n=n+1:=by omega
  have hlen1:((n:Int)+1=0)=False:=eq_false (by omega)
  have g1:=f1.one
  have g2:=f2.one
  have g3:=f3.one
  have g4:=f4.one
  have j1:=f1.pend
  have j2:=f2.pend
  have j3:=f3.pend
  have j4:=f4.pend
  have l1:=f1.cells
  have l2:=f2.cells
  have l3:=f3.cells
  have l4:=f4.cells
  have hW2:n < os.length:=by omega
  have hW3:os[n]=.agg [WC,WV,WH,WA,i64 A.d]:=by simpa [hW2] using hW
  simp -implicitDefEqProofs [E1,E2,E3,k8,eq_true k9,hosl,hlen1,wn,hW3,g1,g2,g3,g4,j1,j2,j3,j4,l1,l2,l3,l4,hopl]
  have eS:stepR r a s=(0,{ r with now:=A,outer:=r.outer.take n,opens:=r.opens.take n }):=by
   unfold stepR
   rw [if_neg hnf]
   simp only [k9,show ¬ (9:Int)=1 by decide,show ¬ (9:Int)=2 by decide,show ¬ (9:Int)=3 by decide,show ¬ (9:Int)=4 by decide,show ¬ (9:Int)=5 by decide,show ¬ (9:Int)=8 by decide,show ¬ ((9:Int)=6 \/ (9:Int)=7) by decide,if_false]
   rw [hN,hopl,Nat.add_sub_cancel,hA]
  have eC:EncC (stepR r a s).2 WC WV WH WA (.sl 5 (os.take n) .any) (.sl 1 ((r.opens.take n).map i64) .any) VL VD VF:=by
   rw [eS]
   exact { e with cs:=f1,vs:=f2,hs:=f3,ap:=f4,out:=⟨_,eL.take n,fl_any 5 _⟩,op:=fl_any 1 _ }
  rw [<- List.map_take]
  exact retPR (v:=.tup [stV (A.d:Int) WC WV WH WA (.sl 5 (os.take n) .any) (.sl 1 ((r.opens.take n).map i64) .any) VL VD VF,i64 0]) (by simp [deferred,dslot]) (by simp [evalRes,evalRes1]) (eC.pur _ _) (Low.app _ _ _) ⟨WC,WV,WH,WA,_,_,VL,VD,VF,by rw [eS],rfl,eC⟩
 by_cases k1:s.kind=1 \/ s.kind=2
 .have k5:¬ s.kind=5:=by omega
  have hE:(if s.kind=1 /\ r.now.d ≠ 0 then (60,r) else declR (decide (s.kind=1)) r s.text)=stepR r a s:=by
   unfold stepR
   rw [if_neg hnf]
   rcases k1 with h | h <;> simp [h]
  have hd:=fun {H:AHeap}=>declare_c e s w.sm.tl w.so hb (h:=H)
  rw [hE] at hd
  simp only [encSt] at hd
  have kcond:(s.kind=1) \/ ((s.kind=1)=False /\ s.kind=2):=k1.elim .inl fun h=>.inr ⟨eq_false (by omega),h⟩
  rcases kcond with hk1 | ⟨hk1,hk2⟩
  .simp -implicitDefEqProofs [E1,E2,E3,k8,k9,eq_true hk1]
   refine callr hd rfl rfl ?_
   rintro R H' ⟨WC,WV,WH,WA,WO,WP,WL,WD,WF,rfl,rfl,eR⟩
   have F1:=eR.ones
   simp -implicitDefEqProofs [F1]
   exact retPR (v:=.tup [stV (stepR r a s).2.now.d WC WV WH WA WO WP WL WD WF,i64 (stepR r a s).1]) (by simp [deferred,dslot]) (by simp [evalRes,evalRes1]) (eR.pur _ _) (Low.app _ _ _) ⟨WC,WV,WH,WA,WO,WP,WL,WD,WF,rfl,rfl,eR⟩
  .simp -implicitDefEqProofs [E1,E2,E3,k8,k9,hk1,eq_true hk2]
   refine callr hd rfl rfl ?_
   rintro R H' ⟨WC,WV,WH,WA,WO,WP,WL,WD,WF,rfl,rfl,eR⟩
   have F1:=eR.ones
   simp -implicitDefEqProofs [F1]
   exact retPR (v:=.tup [stV (stepR r a s).2.now.d WC WV WH WA WO WP WL WD WF,i64 (stepR r a s).1]) (by simp [deferred,dslot]) (by simp [evalRes,evalRes1]) (eR.pur _ _) (Low.app _ _ _) ⟨WC,WV,WH,WA,WO,WP,WL,WD,WF,rfl,rfl,eR⟩
 have k1':(s.kind=1)=False:=eq_false (by omega)
 have k2':(s.kind=2)=False:=eq_false (by omega)
 by_cases k5:s.kind=5
 .have hE:disG r s=stepR r a s:=by
   unfold stepR disG
   rw [if_neg hnf]
   simp [k5]
  have hd:=fun {H:AHeap}=>disjointR_c e b s w.sm.tl w.so w.co (h:=H)
  rw [hE] at hd
  simp only [encSt] at hd
  .simp -implicitDefEqProofs [E1,E2,E3,k8,k9,k1',k2',eq_true k5]
   refine callr hd rfl rfl ?_
   rintro R H' ⟨WC,WV,WH,WA,WO,WP,WL,WD,WF,rfl,rfl,eR⟩
   have F1:=eR.ones
   simp -implicitDefEqProofs [F1]
   exact retPR (v:=.tup [stV (stepR r a s).2.now.d WC WV WH WA WO WP WL WD WF,i64 (stepR r a s).1]) (by simp [deferred,dslot]) (by simp [evalRes,evalRes1]) (eR.pur _ _) (Low.app _ _ _) ⟨WC,WV,WH,WA,WO,WP,WL,WD,WF,rfl,rfl,eR⟩
 .have hk:s.kind=3 \/ s.kind=4 \/ s.kind=6 \/ s.kind=7:=by omega
  obtain ⟨c,t,ht,hE⟩:=labG_step r a s hf hk
  have hd:∀ {H:AHeap},ACalls PP Gl 75 [stV r.now.d VC VV VH VA VO VP VL VD VF,encSt s] H (StP H (stepR r a s)):=fun {H}=>by
   rw [<- hE]
   by_cases k3:s.kind=3
   .exact lab3_c e b s c t ht w.sm.tl k3
   by_cases k4:s.kind=4
   .exact lab4_c e b s c t ht w.sm.tl k4
   .exact lab67_c e b s c t ht w.sm.tl k3 k4
  simp only [encSt] at hd
  .simp -implicitDefEqProofs [E1,E2,E3,k8,k9,k1',k2',k5]
   refine callr hd rfl rfl ?_
   rintro R H' ⟨WC,WV,WH,WA,WO,WP,WL,WD,WF,rfl,rfl,eR⟩
   have F1:=eR.ones
   simp -implicitDefEqProofs [F1]
   exact retPR (v:=.tup [stV (stepR r a s).2.now.d WC WV WH WA WO WP WL WD WF,i64 (stepR r a s).1]) (by simp [deferred,dslot]) (by simp [evalRes,evalRes1]) (eR.pur _ _) (Low.app _ _ _) ⟨WC,WV,WH,WA,WO,WP,WL,WD,WF,rfl,rfl,eR⟩
end Go.Apx
end
section
namespace Go.Apx
open Go.Proofs Go.Shelf
set_option maxRecDepth 4000
structure RNA (n:Nat) (A:AcR):Prop where
 cs:A.cs.length <= 1000 * n
 vs:A.vs.length <= 1000 * n
 hs:A.hs.length <= n
 ap:A.ap.length <= 1000000 * n
 d:A.d <= n
 ht:∀ h ∈ A.hs,h.fl=true -> 2 <= h.text.length
structure RN (n:Nat) (r:RSt):Prop where
 now:RNA n r.now
 outA:∀ A ∈ r.outer,RNA n A
 out:r.outer.length <= n
 op:r.opens.length <= n
 labs:r.labs.length <= n
 decl:r.decl.length <= 1000 * n
 flts:r.flts.length <= n
 hf:∀ h ∈ r.flts,2 <= h.text.length
theorem RNA.more {n:Nat} {A:AcR} (h:RNA n A):RNA (n+1) A:=⟨by have:=h.cs; omega,by have:=h.vs; omega,by have:=h.hs; omega,by have:=h.ap; omega,by have:=h.d; omega,h.ht⟩
theorem RN.more {n:Nat} {r:RSt} (h:RN n r):RN (n+1) r:=⟨h.now.more,fun A hA=>(h.outA A hA).more,by have:=h.out; omega,by have:=h.op; omega,by have:=h.labs; omega,by have:=h.decl; omega,by have:=h.flts; omega,h.hf⟩
theorem RN.rb {n:Nat} {r:RSt} (h:RN n r) (hn:n <= 200):RB r:=by
 have key:∀ A,RNA n A -> A.cs.length <= 2 ^ 21 /\ A.vs.length <= 2 ^ 21 /\ A.hs.length <= 2 ^ 21 /\ A.ap.length <= 2 ^ 28 /\ A.d <= 2 ^ 21:=fun A hA=>by
  have a1:=hA.cs; have a2:=hA.vs; have a3:=hA.hs; have a4:=hA.ap; have a5:=hA.d
  omega
 refine ⟨fun A hA=>?_,by have:=h.out; omega,by have:=h.op; omega,by have:=h.labs; omega,by have:=h.decl; omega,by have:=h.flts; omega,fun A hA=>?_,h.hf⟩
 .rcases List.mem_cons.1 hA with rfl | hA
  .exact key _ h.now
  .exact key _ (h.outA A hA)
 .rcases List.mem_cons.1 hA with rfl | hA
  .exact h.now.ht
  .exact (h.outA A hA).ht
theorem rn0:RN 0 r0S:=⟨⟨by simp [r0S],by simp [r0S],by simp [r0S],by simp [r0S],by simp [r0S],by simp [r0S]⟩,by simp [r0S],by simp [r0S],by simp [r0S],by simp [r0S],by simp [r0S],by simp [r0S],by simp [r0S]⟩
theorem declR_spec (k:Bool):∀ (l:List ByteArray) (r:RSt),(declR k r l).2.now.cs.length <= r.now.cs.length+l.length /\ (declR k r l).2.now.vs.length <= r.now.vs.length+l.length /\ (declR k r l).2.decl.length <= r.decl.length+l.length /\
  (declR k r l).2.now.ap=r.now.ap /\ (declR k r l).2.opens=r.opens /\ (declR k r l).2.labs=r.labs /\ (declR k r l).2.flts=r.flts
 | [],r=>⟨by simp [declR],by simp [declR],by simp [declR],rfl,rfl,rfl,rfl⟩
 | s :: t,r=>by
  simp only [declR]
  split
  .exact ⟨by simp,by simp,by simp,rfl,rfl,rfl,rfl⟩
  .obtain ⟨h1,h2,h3,h4,h5,h6,h7⟩:=declR_spec k t { r with decl:=r.decl++[s],now:=if k then { r.now with cs:=r.now.cs++[s] } else { r.now with vs:=r.now.vs++[s] } }
   refine ⟨?_,?_,?_,?_,h5,h6,h7⟩
   .cases k <;> simp at h1 ⊢ <;> omega
   .cases k <;> simp at h2 ⊢ <;> omega
   .simp at h3 ⊢; omega
   .rw [h4]; cases k <;> rfl
theorem rn_decl (k:Bool) (l:List ByteArray) {r:RSt} {n:Nat} (h:RN n r) (hl:l.length <= 1000):RN (n+1) (declR k r l).2:=by
 obtain ⟨h1,h2,h3,h4,h5,h6,h7⟩:=declR_spec k l r
 have m:=h.more
 have a1:=h.now.cs; have a2:=h.now.vs; have a3:=h.decl
 exact ⟨⟨by omega,by omega,by rw [declR_hs]; exact m.now.hs,by rw [h4]; exact m.now.ap,by rw [declR_d]; exact m.now.d,by rw [declR_hs]; exact m.now.ht⟩,by rw [declR_outer]; exact m.outA,by rw [declR_outer]; exact m.out,by rw [h5]; exact m.op,by rw [h6]; exact m.labs,by omega,by rw [h7]; exact m.flts,by rw [h7]; exact m.hf⟩
theorem RN.hyp {n:Nat} {r:RSt} (h:RN n r) (e:Hy) (he:e.fl=true -> 2 <= e.text.length) (l:ByteArray) (f:List Hy) (hf:f.length <= n+1) (hf2:∀ h ∈ f,2 <= h.text.length):RN (n+1) { r with labs:=r.labs++[l],flts:=f,now:={ r.now with hs:=r.now.hs++[e] } }:=by
 have m:=h.more
 refine ⟨⟨m.now.cs,m.now.vs,by have:=h.now.hs; simp; omega,m.now.ap,m.now.d,fun x hx=>?_⟩,m.outA,m.out,m.op,by have:=h.labs; simp; omega,m.decl,hf,hf2⟩
 rcases List.mem_append.1 hx with hx | hx
 .exact h.now.ht x hx
 .obtain rfl:=List.mem_singleton.1 hx; exact he
theorem rn_step {n:Nat} {r:RSt} (h:RN n r) (a:Int) (s:St) (sm:Sm s) (h0:(stepR r a s).1=0):RN (n+1) (stepR r a s).2:=by
 have m:=h.more
 by_cases h8:s.kind=8
 .rw [step_open h0 h8]
  refine ⟨⟨m.now.cs,m.now.vs,m.now.hs,m.now.ap,by have:=h.now.d; simp only; omega,m.now.ht⟩,fun A hA=>?_,by have:=h.out; simp; omega,by have:=h.op; simp; omega,m.labs,m.decl,m.flts,m.hf⟩
  rcases List.mem_append.1 hA with hA | hA
  .exact m.outA A hA
  .obtain rfl:=List.mem_singleton.1 hA; exact m.now
 by_cases h9:s.kind=9
 .obtain ⟨B,hB,e⟩:=step_close h0 h9
  rw [e]
  refine ⟨m.outA B (List.mem_of_getElem? hB),fun A hA=>m.outA A (List.mem_of_mem_take hA),by have:=h.out; simp; omega,by have:=h.op; simp; omega,m.labs,m.decl,m.flts,m.hf⟩
 unfold stepR at h0 ⊢
 by_cases hf:formF2 s=false
 .rw [if_pos hf]; exact m
 have hlen:=formF2_len (by simpa using hf)
 have htl:=sm.tl
 rw [if_neg hf]
 split
 .split
  .exact m
  .exact rn_decl _ _ h htl
 split
 .exact rn_decl _ _ h htl
 split
 .rename_i e3
  have l1:(frow 3).2.2.1=2:=by decide
  rw [show s.kind.toNat=3 by omega,l1] at hlen
  split
  .exact m
  .split
   .exact m
   .refine h.hyp (hyO s true) (fun _=>hlen.1) _ _ (by have:=h.flts; simp; omega) fun x hx=>?_
    rcases List.mem_append.1 hx with hx | hx
    .exact h.hf x hx
    .obtain rfl:=List.mem_singleton.1 hx; exact hlen.1
 split
 .split
  .exact m
  .split
   .exact m
   .exact h.hyp (hyO s false) (fun e=>by simp [hyO] at e) _ _ (by have:=h.flts; omega) h.hf
 split
 .split
  .exact m
  .split
   .exact m
   .refine ⟨⟨m.now.cs,m.now.vs,m.now.hs,?_,m.now.d,m.now.ht⟩,m.outA,m.out,m.op,m.labs,m.decl,m.flts,m.hf⟩
    have h1:=layFold_len (r.now.ap++pairsR s.text)
    have h2:(pairsR s.text).length <= 1000000:=by rw [<- pairs_eq]; exact prs_bound _ htl
    have h3:=h.now.ap
    rw [List.length_append] at h1
    simp only [joinR]
    omega
 split
 .split
  .exact m
  .split
   .exact m
   .exact ⟨m.now,m.outA,m.out,m.op,by have:=h.labs; simp; omega,m.decl,m.flts,m.hf⟩
 rename_i g1 g2 g3 g4 g5 g6
 have:=formF2_range hf
 exfalso
 omega
theorem rn_run:∀ (l:List St) (r:RSt) (i n:Nat) (q:RSt),RN n r -> (∀ s ∈ l,Sm s) -> runR i r l=.inr q -> RN (n+l.length) q
 | [],r,i,n,q,h,_,e=>by cases e; exact h
 | s :: t,r,i,n,q,h,sm,e=>by
  simp only [runR] at e
  by_cases g:(stepR r i s).1=0
  .rw [if_pos g] at e
   have:=rn_run t _ _ (n+1) q (rn_step h i s (sm s (by simp)) g) (fun x hx=>sm x (by simp [hx])) e
   rw [show n+1+t.length=n+(s :: t).length by simp; omega] at this
   exact this
  .rw [if_neg g] at e; cases e
def RunQ (h:AHeap) (l:List St) (ret:AEnd) (H:AHeap):Prop :=
 ∃ VC VV VH VA VO VP VL VD VF d i e r,ret=.ret (.tup [stV d VC VV VH VA VO VP VL VD VF,i64 i,i64 e]) /\ H=h /\ EncC r VC VV VH VA VO VP VL VD VF /\
  ((runR 0 r0S l=.inl (i,e)) \/ (runR 0 r0S l=.inr r /\ i=0 /\ e=0 /\ d=r.now.d))
theorem enc0:EncC r0S (.sl 0 [] .nil) (.sl 0 [] .nil) (.sl 0 [] .nil) (.sl 0 [] .nil) (.sl 0 [] .nil) (.sl 0 [] .nil) (.sl 0 [] .nil) (.sl 0 [] .nil) (.sl 0 [] .nil):=by
 have f:∀ k,Fl k [] (.sl 0 [] .nil):=fun k=>⟨0,.nil,rfl,.inr rfl,.inr (.inr ⟨rfl,rfl⟩)⟩
 exact ⟨f 1,f 1,f 3,f 2,⟨[],.nil,f 5⟩,f 1,f 1,f 1,f 3⟩
theorem runR_stepAt (l:List St) (i:Nat) (s:St) (r:RSt) (h:l[i]?=some s):runR i r (l.drop i)=if (stepR r i s).1=0 then runR (i+1) (stepR r i s).2 (l.drop (i+1)) else .inl (i,(stepR r i s).1):=by
 obtain ⟨hl,rfl⟩:=List.getElem?_eq_some_iff.1 h
 rw [List.drop_eq_getElem_cons hl]; rfl
theorem EncC.pur3 {r:RSt} {VC VV VH VA VO VP VL VD VF:AV} (e:EncC r VC VV VH VA VO VP VL VD VF) (d:Int) (x y:Int):(AV.tup [stV d VC VV VH VA VO VP VL VD VF,i64 x,i64 y]).pur=true:=by
 obtain ⟨os,eL,eo⟩:=e.out
 simp [AV.pur,purL,e.cs.pur (purS _),e.vs.pur (purS _),e.hs.pur (purH _),e.ap.pur (purP _),eo.pur eL.pur,e.op.pur (purI _),e.labs.pur (purS _),e.decl.pur (purS _),e.flts.pur (purH _)]
structure RuS where
 i:Nat
 r:RSt
 VC:AV
 VV:AV
 VH:AV
 VA:AV
 VO:AV
 VP:AV
 VL:AV
 VD:AV
 VF:AV
set_option maxHeartbeats 32000000 in
theorem runR_c (l:List St) (c:Cap) (hl:l.length <= 100) (sw:∀ s ∈ l,Sw s) {h:AHeap}:ACalls PP Gl 36 [.sl 4 (l.map encSt) c] h (RunQ h l):=by
 refine enter_36 (by simp) ?_
 simp -implicitDefEqProofs [code_36,res_36,ann_36]
 refine AWp.till (S:=RuS) ⟨0,r0S,.sl 0 [] .nil,.sl 0 [] .nil,.sl 0 [] .nil,.sl 0 [] .nil,.sl 0 [] .nil,.sl 0 [] .nil,.sl 0 [] .nil,.sl 0 [] .nil,.sl 0 [] .nil⟩ (fun x=>l.length - x.i) [0,2,5] (fun x=>[(6,i64 (x.i:Int))])
  (fun x=>h++[.cells 0 zeroS,.cells 0 [x.VC,x.VV,x.VH,x.VA,i64 (x.r.now.d:Int),x.VO,x.VP,x.VL,x.VD,x.VF]])
  (fun x=>x.i <= l.length /\ runR x.i x.r (l.drop x.i)=runR 0 r0S l /\ EncC x.r x.VC x.VV x.VH x.VA x.VO x.VP x.VL x.VD x.VF /\ RN x.i x.r /\ RInv x.r) mixed ⟨by simp,by simp,enc0,rn0,rinv0⟩ (le_of (by simp [dslot])) rfl ?_
 rintro ⟨i,r,VC,VV,VH,VA,VO,VP,VL,VD,VF⟩ ⟨z1,z2,e,rn,inv⟩
 simp only at z1 z2 e rn inv
 have E1:=e.ones
 have E2:=e.pends
 have E3:=e.cellsE
 by_cases hi:i < l.length
 case neg =>
  have hno:¬ (i:Int) < l.length:=by omega
  obtain rfl:i=l.length:=by omega
  rw [List.drop_length] at z2
  simp -implicitDefEqProofs [lp0_36,hno,E1,E2,E3]
  exact retPR (v:=.tup [stV r.now.d VC VV VH VA VO VP VL VD VF,i64 0,i64 0]) (by simp [deferred,dslot]) (by simp [evalRes,evalRes1]) (e.pur3 _ _ _) (Low.app _ _ _) ⟨VC,VV,VH,VA,VO,VP,VL,VD,VF,_,_,_,r,rfl,rfl,e,.inr ⟨z2.symm,rfl,rfl,rfl⟩⟩
 have hlt:(i:Int) < l.length:=by omega
 have wi:IntKind.i64.wrap ((i:Int)+1)=(i:Int)+1:=IntWalk.i64_in _ (by omega)
 obtain ⟨s,hs⟩:∃ s,s=l[i]:=⟨_,rfl⟩
 have hs2:l[i]?=some s:=by rw [hs]; simp [hi]
 have w:=sw s (List.mem_of_getElem? hs2)
 rw [runR_stepAt l i s r hs2] at z2
 have hst:=stepR_c e (rn.rb (by omega)) inv (i:Int) s w (fun j=>(rn_decl _ _ rn (by rw [List.length_take]; have:=w.sm.tl; omega)).rb (by omega)) (h:=h++[.cells 0 zeroS,.cells 0 [VC,VV,VH,VA,i64 (r.now.d:Int),VO,VP,VL,VD,VF]])
 simp only [encSt] at hst
 simp -implicitDefEqProofs [lp0_36,hlt,hi,<- hs,encSt,E1,E2,E3]
 refine callr hst rfl rfl ?_
 rintro R H' ⟨WC,WV,WH,WA,WO,WP,WL,WD,WF,rfl,rfl,eR⟩
 obtain ⟨E,hE⟩:∃ E,E=(stepR r i s).1:=⟨_,rfl⟩
 rw [<- hE] at z2
 rw [<- hE]
 have F1:=eR.ones
 have F2:=eR.pends
 have F3:=eR.cellsE
 by_cases h0:E=0
 .rw [if_pos h0] at z2
  simp -implicitDefEqProofs [E1,E2,E3,F1,F2,F3,h0,wi]
  exact ⟨⟨i+1,(stepR r i s).2,WC,WV,WH,WA,WO,WP,WL,WD,WF⟩,by simp; omega,⟨by simp; omega,z2,eR,rn_step rn _ s w.sm (by rw [<- hE]; exact h0),(inv_step inv _ s (by rw [<- hE]; exact h0)).1⟩,le_of (by simp [dslot,encSt]),rfl,rfl,rfl,rfl,rfl,rfl,rfl,rfl,rfl,rfl⟩
 .rw [if_neg h0] at z2
  simp -implicitDefEqProofs [E1,E2,E3,F1,F2,F3,h0]
  exact retPR (v:=.tup [stV r.now.d VC VV VH VA VO VP VL VD VF,i64 (i:Int),i64 E]) (by simp [deferred,dslot]) (by simp [evalRes,evalRes1]) (e.pur3 _ _ _) (Low.app _ _ _) ⟨VC,VV,VH,VA,VO,VP,VL,VD,VF,_,_,_,r,rfl,rfl,e,.inl z2.symm⟩
end Go.Apx
end
section
namespace Go.Apx
open Go.Proofs Go.Shelf
set_option maxRecDepth 4000
set_option maxHeartbeats 8000000 in
theorem rcheck_c (l:List St) (c:Cap) (hl:l.length <= 100) (sw:∀ s ∈ l,Sw s) {h:AHeap}:AEx PP Gl 22 [.sl 4 (l.map encSt) c] h (.ret (.tup [i64 (checkR l).1,i64 (checkR l).2])) h:=by
 have h1:¬ (2000:Int) < l.length:=by omega
 have h3:¬ 2000 < l.length:=by omega
 refine enter_22 (by simp) ?_
 simp -implicitDefEqProofs [code_22,res_22,ann_22,h1,h3]
 refine callr (runR_c l c hl sw) rfl rfl ?_
 rintro ret H ⟨VC,VV,VH,VA,VO,VP,VL,VD,VF,d,i,e,r,rfl,rfl,eR,hr⟩
 have E1:=eR.ones
 have E2:=eR.pends
 rcases hr with hr | ⟨hr,rfl,rfl,rfl⟩
 .have he:=runR_err _ _ _ _ _ hr
  have hc:checkR l=(i,e):=by unfold checkR; rw [hr]
  simp -implicitDefEqProofs [E1,he]
  exact retE (v:=.tup [i64 i,i64 e]) (by simp [deferred,dslot]) rfl (by rw [hc]) rfl
 .have hrn:=rn_run l r0S 0 0 r rn0 (fun s hs=>(sw s hs).sm) hr
  have hop:=hrn.op
  obtain ⟨qp,cp,hVP,hqp,_⟩:=eR.op
  subst hVP
  by_cases hn:r.opens=[]
  .have hc:checkR l=(0,0):=by unfold checkR; rw [hr]; simp [hn]
   simp -implicitDefEqProofs [E1,hn]
   exact retE (v:=.tup [i64 0,i64 0]) (by simp [deferred,dslot]) rfl (by rw [hc]) rfl
  .obtain rfl:=hqp.resolve_right (by simpa using hn)
   obtain ⟨n,hN⟩:∃ n,r.opens.length=n+1:=⟨r.opens.length - 1,by have:r.opens.length ≠ 0:=fun h=>hn (List.eq_nil_of_length_eq_zero h); omega⟩
   have wn:IntKind.i64.wrap (n:Int)=(n:Int):=IntWalk.i64_in _ (by omega)
   have hlt:n < r.opens.length:=by omega
   have h0n:(0:Int) < (n:Int)+1:=by omega
   obtain ⟨x,hx⟩:∃ x,r.opens[n]?=some x:=⟨r.opens[n],by simp [hlt]⟩
   have hx2:r.opens[n]=x:=by simpa [hlt] using hx
   have hc:checkR l=(x,67):=by unfold checkR; rw [hr]; simp only; rw [List.getLast?_eq_getElem?,hN,Nat.add_sub_cancel,hx]
   simp -implicitDefEqProofs [E1,hN,hn,wn,hx,hx2,h0n]
   exact retE (v:=.tup [i64 x,i64 67]) (by simp [deferred,dslot]) rfl (by rw [hc]) rfl
def AtE (h:AHeap) (A:AcR) (e:Int) (r:AEnd) (H:AHeap):Prop :=
 ∃ VC VV VH VA,r=.ret (.tup [.agg [VC,VV,VH,VA,i64 A.d],i64 e]) /\ H=h /\ Fl 1 (A.cs.map sv) VC /\ Fl 1 (A.vs.map sv) VV /\ Fl 3 (A.hs.map encHy) VH /\ Fl 2 (A.ap.map encP) VA
def acN:AcR:=⟨[],[],[],[],0⟩
def atF (l:List St) (i:Int):AcR × Int:=if i < 0 \/ (l.length:Int) < i then (acN,3) else match runR 0 r0S (l.take i.toNat) with
 | .inl (_,e)=>(acN,e)
 | .inr r=>(r.now,0)
theorem fl_nil (k:Nat):Fl k [] (.sl 0 [] .nil):=⟨0,.nil,rfl,.inr rfl,.inr (.inr ⟨rfl,rfl⟩)⟩
theorem ate_nil (h:AHeap) (e:Int):AtE h acN e (.ret (.tup [actNil,i64 e])) h:=⟨_,_,_,_,rfl,rfl,fl_nil 1,fl_nil 1,fl_nil 3,fl_nil 2⟩
theorem atE_c (l:List St) (c:Cap) (i:Int) (hl:l.length <= 100) (sm:∀ s ∈ l,Sm s) (so:∀ s ∈ l,s.tc=.nil -> s.text=[]) {h:AHeap}:ACalls PP Gl 17 [.sl 4 (l.map encSt) c,i64 i] h (AtE h (atF l i).1 (atF l i).2):=by
 by_cases hi:i < 0 \/ (l.length:Int) < i
 .have e:atF l i=(acN,3):=by unfold atF; rw [if_pos hi]
  rw [e]
  refine (at_range l c i hl hi).mono ?_
  rintro r H ⟨rfl,rfl⟩
  exact ate_nil _ _
 .obtain ⟨n,rfl⟩:∃ n:Nat,i=(n:Int):=⟨i.toNat,by omega⟩
  have hn:n <= l.length:=by omega
  have smt:∀ s ∈ l.take n,Sm s:=fun s hs=>sm s (List.mem_of_mem_take hs)
  cases hr:runR 0 r0S (l.take n) with
  | inl p =>
   obtain ⟨a,e⟩:=p
   have eF:atF l (n:Int)=(acN,e):=by unfold atF; rw [if_neg hi]; simp only [Int.toNat_natCast,hr]
   rw [eF]
   rcases sim_run (l.take n) x0 r0S 0 0 sim0 xi0 smt with ⟨a',e',g1,g2⟩ | ⟨y,q,g1,g2,_⟩
   .rw [hr] at g2; cases g2
    refine (at_err l c n hl hn sm so g1).mono ?_
    rintro r H ⟨rfl,rfl⟩
    exact ate_nil _ _
   .rw [hr] at g2; cases g2
  | inr q =>
   have eF:atF l (n:Int)=(q.now,0):=by unfold atF; rw [if_neg hi]; simp only [Int.toNat_natCast,hr]
   rw [eF]
   exact atR_c l c n hl hn sm so hr
set_option maxHeartbeats 8000000 in
theorem ratE_c (l:List St) (c:Cap) (i:Int) (hl:l.length <= 100) (sw:∀ s ∈ l,Sw s) {h:AHeap}:ACalls PP Gl 23 [.sl 4 (l.map encSt) c,i64 i] h (AtE h (atF l i).1 (atF l i).2):=by
 refine enter_23 (by simp) ?_
 have fin:∀ (e:Int) env H',atF l i=(acN,e) -> Low h.length h H' -> deferred env=some [] -> evalRes Gl env H' [ResA.cell 4 (Ty.agg 5),ResA.t 5]=some (.tup [actNil,i64 e]) ->
   retPost PP Gl h [ResA.cell 4 (Ty.agg 5),ResA.t 5] (AtE h (atF l i).1 (atF l i).2) .ret env H':=fun e env H' he low hd hv=>retPR hd hv rfl low (by rw [he]; exact ate_nil _ _)
 by_cases h0:i < 0
 .simp -implicitDefEqProofs [code_23,res_23,ann_23,h0]
  exact fin 3 _ _ (by unfold atF; rw [if_pos (.inl h0)]) (Low.app _ _ _) (by simp [deferred,dslot]) (by simp [evalRes,evalRes1])
 by_cases h1:(l.length:Int) < i
 .simp -implicitDefEqProofs [code_23,res_23,ann_23,h0,h1]
  exact fin 3 _ _ (by unfold atF; rw [if_pos (.inr h1)]) (Low.app _ _ _) (by simp [deferred,dslot]) (by simp [evalRes,evalRes1])
 obtain ⟨n,rfl⟩:∃ n:Nat,i=(n:Int):=⟨i.toNat,by omega⟩
 have hn:n <= l.length:=by omega
 have h1':¬ l.length < n:=by omega
 have h2:¬ (2000:Int) < n:=by omega
 have h2':¬ 2000 < n:=by omega
 simp -implicitDefEqProofs [code_23,res_23,ann_23,h0,h1,h1',h2,h2',hn]
 have hrun:=fun c'=>runR_c (l.take n) c' (by rw [List.length_take]; omega) (fun s hs=>sw s (List.mem_of_mem_take hs)) (h:=h++[.cells 0 [.sl 0 [] .nil,.sl 0 [] .nil,.sl 0 [] .nil,.sl 0 [] .nil,i64 0]])
 rw [List.map_take] at hrun
 refine callr (hrun _) rfl rfl ?_
 rintro ret H ⟨VC,VV,VH,VA,VO,VP,VL,VD,VF,d,k,e,r,rfl,rfl,eR,hr⟩
 have E1:=eR.ones
 have E2:=eR.pends
 have E3:=eR.cellsE
 rcases hr with hr | ⟨hr,rfl,rfl,rfl⟩
 .have he:=runR_err _ _ _ _ _ hr
  simp -implicitDefEqProofs [E1,he]
  exact fin e _ _ (by unfold atF; rw [if_neg (by omega)]; simp only [Int.toNat_natCast,hr]) (Low.app _ _ _) (by simp [deferred,dslot]) (by simp [evalRes,evalRes1])
 .have eF:atF l (n:Int)=(r.now,0):=by unfold atF; rw [if_neg (by omega)]; simp only [Int.toNat_natCast,hr]
  simp -implicitDefEqProofs [E1,E3]
  exact retPR (v:=.tup [.agg [VC,VV,VH,VA,i64 (r.now.d:Int)],i64 0]) (by simp [deferred,dslot]) (by simp [evalRes,evalRes1]) (by simp [AV.pur,purL,eR.cs.pur (purS _),eR.vs.pur (purS _),eR.hs.pur (purH _),eR.ap.pur (purP _)]) (Low.app _ _ _)
   (by rw [eF]; exact ⟨VC,VV,VH,VA,rfl,rfl,eR.cs,eR.vs,eR.hs,eR.ap⟩)
theorem checkFull_c (l:List St) (c:Cap) (hl:2000 < l.length) {h:AHeap}:AEx PP Gl 16 [.sl 4 (l.map encSt) c] h (.ret (.tup [i64 0,i64 8])) h:=by
 have h1:(2000:Int) < l.length:=by omega
 refine enter_16 (by simp) ?_
 simp -implicitDefEqProofs [code_16,res_16,ann_16,h1,hl]
 exact retE (v:=.tup [i64 0,i64 8]) (by simp [deferred,dslot]) rfl rfl rfl
end Go.Apx
end
