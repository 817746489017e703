/- Walks: the reference's labelled (by program gen53.py). -/
import Derived.Test.YtmgajcmigkcmdaaGreatDoorNS
set_option linter.unusedVariables false
set_option linter.unusedSimpArgs false
set_option linter.unnecessarySimpa false
namespace Go.Apx
open Go.Proofs Go.Shelf
set_option maxRecDepth 4000
theorem retPS {P:Program} {G:Globs} {h H:AHeap} {rs:List ResA} {R:AEnd -> AHeap -> Prop} {env:Env} {v v':AV} (hd:deferred env=some []) (hv:evalRes G env H rs=some v) (hs:v.strip=v') (hp:v'.pur=true) (hl:Low h.length h H) (hR:R (.ret v') h):retPost P G h rs R .ret env H:=by
 refine retCut (v:=v) h.length hd hv (Nat.le_refl _) hl.len (by rw [hs]; exact pur_inb _ hp) hl.cl ?_
 rw [hl.take,hs]
 exact hR
theorem Fl.elems {k:Nat} {es:List AV} {V:AV} (h:Fl k es V) (H:AHeap):elems H k V=some es:=by
 obtain ⟨q,c,rfl,hq,_⟩:=h
 simp only [Go.Apx.elems]
 rw [if_pos hq]
theorem EncC.strips {r:RSt} {VC VV VH VA VO VP VL VD VF:AV} (e:EncC r VC VV VH VA VO VP VL VD VF):VC.strip=VC /\ VV.strip=VV /\ VH.strip=VH /\ VA.strip=VA /\ VO.strip=VO /\ VP.strip=VP /\ VL.strip=VL /\ VD.strip=VD /\ VF.strip=VF:=by
 obtain ⟨os,eL,eo⟩:=e.out
 exact ⟨pur_strip (e.cs.pur (purS _)),pur_strip (e.vs.pur (purS _)),pur_strip (e.hs.pur (purH _)),pur_strip (e.ap.pur (purP _)),pur_strip (eo.pur eL.pur),pur_strip (e.op.pur (purI _)),pur_strip (e.labs.pur (purS _)),pur_strip (e.decl.pur (purS _)),pur_strip (e.flts.pur (purH _))⟩
def lpE (r:RSt) (k3:Bool) (c:ByteArray):List ByteArray -> Int
 | []=>0
 | s :: t=>if actR r.now s=false then 63 else if k3=true /\ s ∈ r.now.cs then 64
   else if (k3=true /\ (floatR r.now.hs s=true \/ typedR r.flts c s=false)) \/ (k3=false /\ s ∉ r.now.cs /\ floatR r.now.hs s=false) then 65 else lpE r k3 c t
def labN (r:RSt) (s:St):RSt :=
 if s.kind=3 then { r with labs:=r.labs++[s.label],flts:=r.flts++[hyO s true],now:={ r.now with hs:=r.now.hs++[hyO s true] } }
 else if s.kind=4 then { r with labs:=r.labs++[s.label],now:={ r.now with hs:=r.now.hs++[hyO s false] } }
 else { r with labs:=r.labs++[s.label] }
def labG (r:RSt) (s:St) (c:ByteArray) (t:List ByteArray):Int × RSt :=
 if labR r s.label=true then (62,r) else if tcF r.now c ≠ 0 then (tcF r.now c,r) else if lpE r (decide (s.kind=3)) c t ≠ 0 then (lpE r (decide (s.kind=3)) c t,r) else (0,labN r s)
set_option maxHeartbeats 32000000 in
theorem lab67_c {r:RSt} {VC VV VH VA VO VP VL VD VF:AV} (e:EncC r VC VV VH VA VO VP VL VD VF) (b:RB r) (s:St) (c:ByteArray) (t:List ByteArray) (ht:s.text=c :: t) (tl:s.text.length <= 1000) (hk:¬ s.kind=3) (k4:¬ s.kind=4) {h:AHeap} :
  ACalls PP Gl 75 [stV r.now.d VC VV VH VA VO VP VL VD VF,encSt s] h (StP h (labG r s c t)):=by
 have E1:=e.ones
 have E2:=e.pends
 have E3:=e.cellsE
 have bnd:=b.now r.now (List.mem_cons_self ..)
 have bd1:=b.decl
 have bd2:=b.labs
 have bd3:=b.flts
 obtain ⟨D,hD⟩:∃ D:Int,D=r.now.d:=⟨_,rfl⟩
 rw [<- hD]
 obtain ⟨H0,hH0⟩:∃ H0,H0=h++[AObj.cells 0 [VC,VV,VH,VA,i64 D,VO,VP,VL,VD,VF],.cells 0 zeroS]:=⟨_,rfl⟩
 have cL:=hasR_c r.labs s.label VL e.labs (by omega) (h:=H0)
 have cD:=hasR_c r.decl s.label VD e.decl (by omega) (h:=H0)
 have cT:=typecode_c e b D c (h:=H0)
 have ret:∀ (x:Int) env H',x=(labG r s c t).1 -> (labG r s c t).2=r -> Low h.length h H' -> deferred env=some [] -> evalRes Gl env H' [ResA.cell 4 (Ty.agg 10),ResA.t 5]=some (.tup [stV D VC VV VH VA VO VP VL VD VF,i64 x]) ->
   retPost PP Gl h [ResA.cell 4 (Ty.agg 10),ResA.t 5] (StP h (labG r s c t)) .ret env H':=fun x env H' hx h2 low hd1 hv =>
  retPR hd1 hv (e.pur _ _) low ⟨VC,VV,VH,VA,VO,VP,VL,VD,VF,by rw [h2,<- hx,hD],rfl,by rw [h2]; exact e⟩
 refine enter_75 (by simp) ?_
 simp -implicitDefEqProofs [code_75,res_75,ann_75,E1,E2,E3,encSt,hk,k4]
 rw [hH0] at cL cD cT
 refine callk cL rfl rfl ?_
 by_cases hl:s.label ∈ r.labs
 .simp -implicitDefEqProofs [E1,E2,E3,hl]
  exact ret 62 _ _ (by simp [labG,labR,hl]) (by simp [labG,labR,hl]) (Low.app _ _ _) (by simp [deferred,dslot]) (by simp [evalRes,evalRes1])
 simp -implicitDefEqProofs [E1,E2,E3,hl]
 refine callk cD rfl rfl ?_
 by_cases hdl:s.label ∈ r.decl
 .simp -implicitDefEqProofs [E1,E2,E3,hdl]
  exact ret 62 _ _ (by simp [labG,labR,hdl]) (by simp [labG,labR,hdl]) (Low.app _ _ _) (by simp [deferred,dslot]) (by simp [evalRes,evalRes1])
 have hlr:labR r s.label ≠ true:=by simp [labR,hl,hdl]
 simp -implicitDefEqProofs [E1,E2,E3,hdl,ht]
 refine callk cT rfl rfl ?_
 obtain ⟨E,hE⟩:∃ E,E=tcF r.now c:=⟨_,rfl⟩
 rw [<- hE]
 by_cases hE0:E=0
 case neg =>
  have hg:labG r s c t=(E,r):=by unfold labG; rw [if_neg hlr,<- hE,if_pos hE0]
  simp -implicitDefEqProofs [E1,E2,E3,hE0]
  exact ret E _ _ (by rw [hg]) (by rw [hg]) (Low.app _ _ _) (by simp [deferred,dslot]) (by simp [evalRes,evalRes1])
 have hg:labG r s c t=if lpE r false c t ≠ 0 then (lpE r false c t,r) else (0,labN r s):=by
  unfold labG
  rw [if_neg hlr,<- hE,if_neg (by simpa using hE0)]
  rw [decide_eq_false hk]
 simp -implicitDefEqProofs [E1,E2,E3,hE0]
 have hlen:s.text.length=t.length+1:=by rw [ht]; rfl
 refine AWp.till (S:=PuS) ⟨0⟩ (fun x=>t.length - x.i) [2,3,4] (fun x=>[(7,i64 ((x.i:Int)+1))]) (fun _=>h++[AObj.cells 0 [VC,VV,VH,VA,i64 D,VO,VP,VL,VD,VF],.cells 0 zeroS])
  (fun x=>x.i <= t.length /\ lpE r false c (t.drop x.i)=lpE r false c t) mixed ⟨by simp,by simp⟩ (le_of (by simp [dslot])) rfl ?_
 rintro ⟨i⟩ ⟨z1,z2⟩
 simp only at z1 z2
 by_cases hi:i < t.length
 case pos =>
  have hlt:(i:Int)+1 < (t.length:Int)+1:=by omega
  have hlt2:(i:Int) < t.length:=by omega
  have h01:(0:Int) <= (i:Int)+1:=by omega
  have wi:IntKind.i64.wrap ((i:Int)+1+1)=(i:Int)+1+1:=IntWalk.i64_in _ (by omega)
  obtain ⟨w,hw⟩:∃ w,w=t[i]:=⟨_,rfl⟩
  have hw2:t[i]?=some w:=by rw [hw]; simp [hi]
  have hdw:t.drop i=w :: t.drop (i+1):=by rw [List.drop_eq_getElem_cons hi,<- hw]
  rw [hdw] at z2
  simp only [lpE] at z2
  have cS:=symbol_c e b D w (h:=h++[AObj.cells 0 [VC,VV,VH,VA,i64 D,VO,VP,VL,VD,VF],.cells 0 zeroS])
  have cC:=hasR_c r.now.cs w VC e.cs (by omega) (h:=h++[AObj.cells 0 [VC,VV,VH,VA,i64 D,VO,VP,VL,VD,VF],.cells 0 zeroS])
  have cF:=floating_c e b D w (h:=h++[AObj.cells 0 [VC,VV,VH,VA,i64 D,VO,VP,VL,VD,VF],.cells 0 zeroS])
  have cY:=typed_c e b D c w (h:=h++[AObj.cells 0 [VC,VV,VH,VA,i64 D,VO,VP,VL,VD,VF],.cells 0 zeroS])
  have bad:∀ (x:Int) env H',lpE r false c t=x -> x ≠ 0 -> Low h.length h H' -> deferred env=some [] -> evalRes Gl env H' [ResA.cell 4 (Ty.agg 10),ResA.t 5]=some (.tup [stV D VC VV VH VA VO VP VL VD VF,i64 x]) ->
    retPost PP Gl h [ResA.cell 4 (Ty.agg 10),ResA.t 5] (StP h (labG r s c t)) .ret env H':=fun x env H' hx h0 low hd1 hv=>by
   have hg2:labG r s c t=(x,r):=by rw [hg,hx,if_pos h0]
   exact ret x env H' (by rw [hg2]) (by rw [hg2]) low hd1 hv
  simp -implicitDefEqProofs [lp0_75,hlt,hlt2,h01,hi,<- hw,E1,E2,E3,ht,hk,k4]
  refine callk cS rfl rfl ?_
  cases ha:actR r.now w with
  | false =>
   rw [if_pos ha] at z2
   simp -implicitDefEqProofs [E1,E2,E3]
   exact bad 63 _ _ z2.symm (by decide) (Low.app _ _ _) (by simp [deferred,dslot]) (by simp [evalRes,evalRes1])
  | true =>
   rw [if_neg (by rw [ha]; simp)] at z2
   simp -implicitDefEqProofs [E1,E2,E3]
   refine callk cC rfl rfl ?_
   rw [if_neg (by simp)] at z2
   by_cases hc:w ∈ r.now.cs
   .rw [if_neg (by simp [hc])] at z2
    simp -implicitDefEqProofs [E1,E2,E3,hc,hk,k4,wi]
    exact ⟨⟨i+1⟩,by simp; omega,⟨by simp; omega,z2⟩,le_of (by simp [dslot])⟩
   simp -implicitDefEqProofs [E1,E2,E3,hc,hk,k4]
   refine callk cF rfl rfl ?_
   cases hfl:floatR r.now.hs w with
   | false =>
    rw [if_pos (by simp [hc,hfl])] at z2
    simp -implicitDefEqProofs [E1,E2,E3,hc,hk,k4]
    exact bad 65 _ _ z2.symm (by decide) (Low.app _ _ _) (by simp [deferred,dslot]) (by simp [evalRes,evalRes1])
   | true =>
    rw [if_neg (by simp [hfl])] at z2
    simp -implicitDefEqProofs [E1,E2,E3,hc,hk,k4,wi]
    exact ⟨⟨i+1⟩,by simp; omega,⟨by simp; omega,z2⟩,le_of (by simp [dslot])⟩
 have hno:¬ (i:Int)+1 < (t.length:Int)+1:=by omega
 have hno2:¬ (i:Int) < t.length:=by omega
 have hno3:¬ i < t.length:=by omega
 rw [List.drop_of_length_le (by omega)] at z2
 have hz:lpE r false c t=0:=z2.symm
 rw [hg,if_neg (by rw [hz]; simp)]
 simp -implicitDefEqProofs [lp0_75,hno,hno2,hno3,E1,E2,E3,ht,hk,k4]
 refine callk (withR_c r.labs s.label VL e.labs (by omega)) rfl rfl ?_
 simp -implicitDefEqProofs [E1,E2,E3,ht,hk,k4]
 have hTX:(c :: t).map sv ≠ []:=by simp
 have hpT:purL ((c :: t).map sv)=true:=purS _
 have hTlen:(c :: t).length <= 1000:=by rw [<- ht]; exact tl
 obtain ⟨VL2,hVL2⟩:∃ V:AV,V=.sl 1 ((r.labs++[s.label]).map sv) .any:=⟨_,rfl⟩
 have fL2:Fl 1 ((r.labs++[s.label]).map sv) VL2:=by rw [hVL2]; exact fl_any 1 _
 have hVL3:AV.sl 1 (r.labs.map sv++[AV.sc (.string s.label)]) .any=VL2:=by rw [hVL2]; simp
 obtain ⟨HL,hHL⟩:∃ HL,HL=h++[AObj.cells 0 [VC,VV,VH,VA,i64 D,VO,VP,VL2,VD,VF],.cells 0 zeroS]:=⟨_,rfl⟩
 have hHLl:HL.length=h.length+2:=by rw [hHL]; simp
 have lowL:Low h.length h HL:=by rw [hHL]; exact Low.app _ _ _
 have q1:HL[h.length]?=some (.cells 0 [VC,VV,VH,VA,i64 D,VO,VP,VL2,VD,VF]):=by rw [hHL]; simp
 have q2:HL[h.length+1]?=some (.cells 0 zeroS):=by rw [hHL]; simp
 rw [hVL3,<- hHL]
 refine appFX (base:=h.length+2) [] ((c :: t).map sv) 0 (.nil _ _ _ (by omega)) (by simp [apf]) (by simp [elems]) (by simp at hTlen ⊢; unfold maxLenA; omega) ?_
 intro H1 T1 g1 l1
 rw [List.nil_append] at g1
 have x1:=l1 h.length _ (by omega) q1
 have x2:=l1 (h.length+1) _ (by omega) q2
 have low1:Low h.length h H1:=lowL.trans (l1.mono (by omega))
 obtain ⟨TX,hTXe⟩:∃ TX:AV,TX=apf 1 ((c :: t).map sv) T1:=⟨_,rfl⟩
 have tx1:TX.isPend=false:=by rw [hTXe]; rfl
 have tx2:TX.one=true:=by rw [hTXe]; rfl
 have tx3:TX.cells=[TX]:=by rw [hTXe]; rfl
 have tx4:TX.strip=.sl 1 ((c :: t).map sv) .any:=by rw [hTXe]; exact apf_any hTX hpT
 rw [List.nil_append,<- hTXe]
 have oL2:=fL2.one
 have pL2:=fL2.pend
 have cL2:=fL2.cells
 have s1:∀ X:AObj,(H1.set (h.length+1) X)[h.length+1]?=some X:=fun X=>by rw [List.getElem?_set_self (lt_of x2)]
 simp -implicitDefEqProofs [E1,E2,E3,hk,k4,tx1,tx2,tx3,x1,x2,s1,oL2,pL2,cL2]
 have eN:labN r s={ r with labs:=r.labs++[s.label] }:=by unfold labN; rw [if_neg hk,if_neg k4]
 have eC:EncC (labN r s) VC VV VH VA VO VP VL2 VD VF:=by rw [eN]; exact { e with labs:=fL2 }
 exact retPR (v:=.tup [stV D VC VV VH VA VO VP VL2 VD VF,i64 0]) (by simp [deferred,dslot]) (by simp [evalRes,evalRes1,s1]) (eC.pur _ _) (low1.trans (Low.set (by omega))) ⟨VC,VV,VH,VA,VO,VP,VL2,VD,VF,by rw [eN,hD],rfl,eC⟩
set_option maxHeartbeats 32000000 in
theorem lab4_c {r:RSt} {VC VV VH VA VO VP VL VD VF:AV} (e:EncC r VC VV VH VA VO VP VL VD VF) (b:RB r) (s:St) (c:ByteArray) (t:List ByteArray) (ht:s.text=c :: t) (tl:s.text.length <= 1000) (k4:s.kind=4) {h:AHeap} :
  ACalls PP Gl 75 [stV r.now.d VC VV VH VA VO VP VL VD VF,encSt s] h (StP h (labG r s c t)):=by
 have E1:=e.ones
 have E2:=e.pends
 have E3:=e.cellsE
 have bnd:=b.now r.now (List.mem_cons_self ..)
 have bd1:=b.decl
 have bd2:=b.labs
 have bd3:=b.flts
 obtain ⟨D,hD⟩:∃ D:Int,D=r.now.d:=⟨_,rfl⟩
 rw [<- hD]
 obtain ⟨H0,hH0⟩:∃ H0,H0=h++[AObj.cells 0 [VC,VV,VH,VA,i64 D,VO,VP,VL,VD,VF],.cells 0 zeroS]:=⟨_,rfl⟩
 have cL:=hasR_c r.labs s.label VL e.labs (by omega) (h:=H0)
 have cD:=hasR_c r.decl s.label VD e.decl (by omega) (h:=H0)
 have cT:=typecode_c e b D c (h:=H0)
 have ret:∀ (x:Int) env H',x=(labG r s c t).1 -> (labG r s c t).2=r -> Low h.length h H' -> deferred env=some [] -> evalRes Gl env H' [ResA.cell 4 (Ty.agg 10),ResA.t 5]=some (.tup [stV D VC VV VH VA VO VP VL VD VF,i64 x]) ->
   retPost PP Gl h [ResA.cell 4 (Ty.agg 10),ResA.t 5] (StP h (labG r s c t)) .ret env H':=fun x env H' hx h2 low hd1 hv =>
  retPR hd1 hv (e.pur _ _) low ⟨VC,VV,VH,VA,VO,VP,VL,VD,VF,by rw [h2,<- hx,hD],rfl,by rw [h2]; exact e⟩
 refine enter_75 (by simp) ?_
 simp -implicitDefEqProofs [code_75,res_75,ann_75,E1,E2,E3,encSt,k4]
 rw [hH0] at cL cD cT
 refine callk cL rfl rfl ?_
 by_cases hl:s.label ∈ r.labs
 .simp -implicitDefEqProofs [E1,E2,E3,hl]
  exact ret 62 _ _ (by simp [labG,labR,hl]) (by simp [labG,labR,hl]) (Low.app _ _ _) (by simp [deferred,dslot]) (by simp [evalRes,evalRes1])
 simp -implicitDefEqProofs [E1,E2,E3,hl]
 refine callk cD rfl rfl ?_
 by_cases hdl:s.label ∈ r.decl
 .simp -implicitDefEqProofs [E1,E2,E3,hdl]
  exact ret 62 _ _ (by simp [labG,labR,hdl]) (by simp [labG,labR,hdl]) (Low.app _ _ _) (by simp [deferred,dslot]) (by simp [evalRes,evalRes1])
 have hlr:labR r s.label ≠ true:=by simp [labR,hl,hdl]
 simp -implicitDefEqProofs [E1,E2,E3,hdl,ht]
 refine callk cT rfl rfl ?_
 obtain ⟨E,hE⟩:∃ E,E=tcF r.now c:=⟨_,rfl⟩
 rw [<- hE]
 by_cases hE0:E=0
 case neg =>
  have hg:labG r s c t=(E,r):=by unfold labG; rw [if_neg hlr,<- hE,if_pos hE0]
  simp -implicitDefEqProofs [E1,E2,E3,hE0]
  exact ret E _ _ (by rw [hg]) (by rw [hg]) (Low.app _ _ _) (by simp [deferred,dslot]) (by simp [evalRes,evalRes1])
 have hg:labG r s c t=if lpE r false c t ≠ 0 then (lpE r false c t,r) else (0,labN r s):=by
  unfold labG
  rw [if_neg hlr,<- hE,if_neg (by simpa using hE0)]
  rw [decide_eq_false (by rw [k4]; decide)]
 simp -implicitDefEqProofs [E1,E2,E3,hE0]
 have hlen:s.text.length=t.length+1:=by rw [ht]; rfl
 refine AWp.till (S:=PuS) ⟨0⟩ (fun x=>t.length - x.i) [2,3,4] (fun x=>[(7,i64 ((x.i:Int)+1))]) (fun _=>h++[AObj.cells 0 [VC,VV,VH,VA,i64 D,VO,VP,VL,VD,VF],.cells 0 zeroS])
  (fun x=>x.i <= t.length /\ lpE r false c (t.drop x.i)=lpE r false c t) mixed ⟨by simp,by simp⟩ (le_of (by simp [dslot])) rfl ?_
 rintro ⟨i⟩ ⟨z1,z2⟩
 simp only at z1 z2
 by_cases hi:i < t.length
 case pos =>
  have hlt:(i:Int)+1 < (t.length:Int)+1:=by omega
  have hlt2:(i:Int) < t.length:=by omega
  have h01:(0:Int) <= (i:Int)+1:=by omega
  have wi:IntKind.i64.wrap ((i:Int)+1+1)=(i:Int)+1+1:=IntWalk.i64_in _ (by omega)
  obtain ⟨w,hw⟩:∃ w,w=t[i]:=⟨_,rfl⟩
  have hw2:t[i]?=some w:=by rw [hw]; simp [hi]
  have hdw:t.drop i=w :: t.drop (i+1):=by rw [List.drop_eq_getElem_cons hi,<- hw]
  rw [hdw] at z2
  simp only [lpE] at z2
  have cS:=symbol_c e b D w (h:=h++[AObj.cells 0 [VC,VV,VH,VA,i64 D,VO,VP,VL,VD,VF],.cells 0 zeroS])
  have cC:=hasR_c r.now.cs w VC e.cs (by omega) (h:=h++[AObj.cells 0 [VC,VV,VH,VA,i64 D,VO,VP,VL,VD,VF],.cells 0 zeroS])
  have cF:=floating_c e b D w (h:=h++[AObj.cells 0 [VC,VV,VH,VA,i64 D,VO,VP,VL,VD,VF],.cells 0 zeroS])
  have cY:=typed_c e b D c w (h:=h++[AObj.cells 0 [VC,VV,VH,VA,i64 D,VO,VP,VL,VD,VF],.cells 0 zeroS])
  have bad:∀ (x:Int) env H',lpE r false c t=x -> x ≠ 0 -> Low h.length h H' -> deferred env=some [] -> evalRes Gl env H' [ResA.cell 4 (Ty.agg 10),ResA.t 5]=some (.tup [stV D VC VV VH VA VO VP VL VD VF,i64 x]) ->
    retPost PP Gl h [ResA.cell 4 (Ty.agg 10),ResA.t 5] (StP h (labG r s c t)) .ret env H':=fun x env H' hx h0 low hd1 hv=>by
   have hg2:labG r s c t=(x,r):=by rw [hg,hx,if_pos h0]
   exact ret x env H' (by rw [hg2]) (by rw [hg2]) low hd1 hv
  simp -implicitDefEqProofs [lp0_75,hlt,hlt2,h01,hi,<- hw,E1,E2,E3,ht,k4]
  refine callk cS rfl rfl ?_
  cases ha:actR r.now w with
  | false =>
   rw [if_pos ha] at z2
   simp -implicitDefEqProofs [E1,E2,E3]
   exact bad 63 _ _ z2.symm (by decide) (Low.app _ _ _) (by simp [deferred,dslot]) (by simp [evalRes,evalRes1])
  | true =>
   rw [if_neg (by rw [ha]; simp)] at z2
   simp -implicitDefEqProofs [E1,E2,E3]
   refine callk cC rfl rfl ?_
   rw [if_neg (by simp)] at z2
   by_cases hc:w ∈ r.now.cs
   .rw [if_neg (by simp [hc])] at z2
    simp -implicitDefEqProofs [E1,E2,E3,hc,k4,wi]
    exact ⟨⟨i+1⟩,by simp; omega,⟨by simp; omega,z2⟩,le_of (by simp [dslot])⟩
   simp -implicitDefEqProofs [E1,E2,E3,hc,k4]
   refine callk cF rfl rfl ?_
   cases hfl:floatR r.now.hs w with
   | false =>
    rw [if_pos (by simp [hc,hfl])] at z2
    simp -implicitDefEqProofs [E1,E2,E3,hc,k4]
    exact bad 65 _ _ z2.symm (by decide) (Low.app _ _ _) (by simp [deferred,dslot]) (by simp [evalRes,evalRes1])
   | true =>
    rw [if_neg (by simp [hfl])] at z2
    simp -implicitDefEqProofs [E1,E2,E3,hc,k4,wi]
    exact ⟨⟨i+1⟩,by simp; omega,⟨by simp; omega,z2⟩,le_of (by simp [dslot])⟩
 have hno:¬ (i:Int)+1 < (t.length:Int)+1:=by omega
 have hno2:¬ (i:Int) < t.length:=by omega
 have hno3:¬ i < t.length:=by omega
 rw [List.drop_of_length_le (by omega)] at z2
 have hz:lpE r false c t=0:=z2.symm
 rw [hg,if_neg (by rw [hz]; simp)]
 simp -implicitDefEqProofs [lp0_75,hno,hno2,hno3,E1,E2,E3,ht,k4]
 refine callk (withR_c r.labs s.label VL e.labs (by omega)) rfl rfl ?_
 simp -implicitDefEqProofs [E1,E2,E3,ht,k4]
 have hTX:(c :: t).map sv ≠ []:=by simp
 have hpT:purL ((c :: t).map sv)=true:=purS _
 have hTlen:(c :: t).length <= 1000:=by rw [<- ht]; exact tl
 obtain ⟨VL2,hVL2⟩:∃ V:AV,V=.sl 1 ((r.labs++[s.label]).map sv) .any:=⟨_,rfl⟩
 have fL2:Fl 1 ((r.labs++[s.label]).map sv) VL2:=by rw [hVL2]; exact fl_any 1 _
 have hVL3:AV.sl 1 (r.labs.map sv++[AV.sc (.string s.label)]) .any=VL2:=by rw [hVL2]; simp
 obtain ⟨HL,hHL⟩:∃ HL,HL=h++[AObj.cells 0 [VC,VV,VH,VA,i64 D,VO,VP,VL2,VD,VF],.cells 0 zeroS]:=⟨_,rfl⟩
 have hHLl:HL.length=h.length+2:=by rw [hHL]; simp
 have lowL:Low h.length h HL:=by rw [hHL]; exact Low.app _ _ _
 have q1:HL[h.length]?=some (.cells 0 [VC,VV,VH,VA,i64 D,VO,VP,VL2,VD,VF]):=by rw [hHL]; simp
 have q2:HL[h.length+1]?=some (.cells 0 zeroS):=by rw [hHL]; simp
 rw [hVL3,<- hHL]
 refine appFX (base:=h.length+2) [] ((c :: t).map sv) 0 (.nil _ _ _ (by omega)) (by simp [apf]) (by simp [elems]) (by simp at hTlen ⊢; unfold maxLenA; omega) ?_
 intro H1 T1 g1 l1
 rw [List.nil_append] at g1
 have x1:=l1 h.length _ (by omega) q1
 have x2:=l1 (h.length+1) _ (by omega) q2
 have low1:Low h.length h H1:=lowL.trans (l1.mono (by omega))
 obtain ⟨TX,hTXe⟩:∃ TX:AV,TX=apf 1 ((c :: t).map sv) T1:=⟨_,rfl⟩
 have tx1:TX.isPend=false:=by rw [hTXe]; rfl
 have tx2:TX.one=true:=by rw [hTXe]; rfl
 have tx3:TX.cells=[TX]:=by rw [hTXe]; rfl
 have tx4:TX.strip=.sl 1 ((c :: t).map sv) .any:=by rw [hTXe]; exact apf_any hTX hpT
 rw [List.nil_append,<- hTXe]
 have oL2:=fL2.one
 have pL2:=fL2.pend
 have cL2:=fL2.cells
 have hlen1:h.length+2 <= H1.length:=g1.len
 simp -implicitDefEqProofs [E1,E2,E3,k4,tx1,tx2,tx3,x1,x2,oL2,pL2,cL2]
 have eV1:∀ H,elems H 3 VH=some (r.now.hs.map encHy):=fun H=>Fl.elems e.hs H
 refine appFX (base:=h.length+2) [] (r.now.hs.map encHy) 0 (.nil _ _ _ hlen1) (by simp [apf]) (by simp [-elems,E1,E2,E3,eV1]) (by simp; unfold maxLenA; omega) ?_
 intro A1 S1 ga1 la1
 simp -implicitDefEqProofs [E1,E2,E3,k4,tx1,tx2,tx3,x1,x2,oL2,pL2,cL2]
 refine appFX (base:=h.length+2) (r.now.hs.map encHy) [.agg [sv s.label,.sc (.bool false),TX]] S1 (by simpa using ga1) (by simp) (by simp [elems]) (by simp; unfold maxLenA; omega) ?_
 intro B1 R1 gb1 lb1
 have lab1:=la1.trans lb1
 obtain ⟨VH2,hVH2⟩:∃ V:AV,V=apf 3 (r.now.hs.map encHy++[.agg [sv s.label,.sc (.bool false),TX]]) R1:=⟨_,rfl⟩
 have t11:VH2.isPend=false:=by rw [hVH2]; rfl
 have t12:VH2.one=true:=by rw [hVH2]; rfl
 have t13:VH2.cells=[VH2]:=by rw [hVH2]; rfl
 have t14:VH2.strip=.sl 3 ((r.now.hs++[hyO s false]).map encHy) .any:=by
  rw [hVH2,strip_apf 3 _ ((r.now.hs++[hyO s false]).map encHy) _ (by
   have:=purL_strip (purH r.now.hs)
   rw [stripL_eq] at this ⊢
   rw [List.map_append,this]
   simp [AV.strip,stripL,tx4,hyO,ht])]
  simp [apfV]
 rw [<- hVH2]
 have hl1b:h.length+2 <= B1.length:=gb1.len
 have y1:=lab1 h.length _ (by omega) x1
 have y2:=lab1 (h.length+1) _ (by omega) x2
 have s0:∀ X:AObj,(B1.set h.length X)[h.length]?=some X:=fun X=>by rw [List.getElem?_set_self (by omega)]
 have s0':∀ X:AObj,(B1.set h.length X)[h.length+1]?=some (.cells 0 zeroS):=fun X=>by rw [List.getElem?_set_ne (by omega)]; exact y2
 have s1:∀ X Y:AObj,((B1.set h.length X).set (h.length+1) Y)[h.length+1]?=some Y:=fun X Y=>by rw [List.getElem?_set_self (by simp; omega)]
 simp -implicitDefEqProofs [E1,E2,E3,k4,tx1,tx2,tx3,y1,y2,s0,s0',s1,oL2,pL2,cL2,t11,t12,t13]
 obtain ⟨v1,v2,v3,v4,v5,v6,v7,v8,v9⟩:=e.strips
 have zL2:=pur_strip (fL2.pur (purS _))
 have eN:labN r s={ r with labs:=r.labs++[s.label],now:={ r.now with hs:=r.now.hs++[hyO s false] } }:=by unfold labN; rw [if_neg (by rw [k4]; decide),if_pos k4]
 have eC:EncC (labN r s) VC VV (.sl 3 ((r.now.hs++[hyO s false]).map encHy) .any) VA VO VP VL2 VD VF:=by rw [eN]; exact { e with labs:=fL2,hs:=fl_any 3 _ }
 exact retPS (v:=.tup [stV D VC VV VH2 VA VO VP VL2 VD VF,i64 0]) (v':=.tup [stV D VC VV (.sl 3 ((r.now.hs++[hyO s false]).map encHy) .any) VA VO VP VL2 VD VF,i64 0]) (by simp [deferred,dslot]) (by simp [evalRes,evalRes1,s1]) (by simp only [AV.strip,stripL,stV,t14,v1,v2,v3,v4,v5,v6,v8,v9,zL2]) (eC.pur _ _) (((low1.trans (lab1.mono (by omega))).trans (Low.set (Nat.le_refl _))).trans (Low.set (by omega))) ⟨VC,VV,_,VA,VO,VP,VL2,VD,VF,by rw [eN,hD],rfl,eC⟩
set_option maxHeartbeats 32000000 in
theorem lab3_c {r:RSt} {VC VV VH VA VO VP VL VD VF:AV} (e:EncC r VC VV VH VA VO VP VL VD VF) (b:RB r) (s:St) (c:ByteArray) (t:List ByteArray) (ht:s.text=c :: t) (tl:s.text.length <= 1000) (hk:s.kind=3) {h:AHeap} :
  ACalls PP Gl 75 [stV r.now.d VC VV VH VA VO VP VL VD VF,encSt s] h (StP h (labG r s c t)):=by
 have E1:=e.ones
 have E2:=e.pends
 have E3:=e.cellsE
 have bnd:=b.now r.now (List.mem_cons_self ..)
 have bd1:=b.decl
 have bd2:=b.labs
 have bd3:=b.flts
 obtain ⟨D,hD⟩:∃ D:Int,D=r.now.d:=⟨_,rfl⟩
 rw [<- hD]
 obtain ⟨H0,hH0⟩:∃ H0,H0=h++[AObj.cells 0 [VC,VV,VH,VA,i64 D,VO,VP,VL,VD,VF],.cells 0 zeroS]:=⟨_,rfl⟩
 have cL:=hasR_c r.labs s.label VL e.labs (by omega) (h:=H0)
 have cD:=hasR_c r.decl s.label VD e.decl (by omega) (h:=H0)
 have cT:=typecode_c e b D c (h:=H0)
 have ret:∀ (x:Int) env H',x=(labG r s c t).1 -> (labG r s c t).2=r -> Low h.length h H' -> deferred env=some [] -> evalRes Gl env H' [ResA.cell 4 (Ty.agg 10),ResA.t 5]=some (.tup [stV D VC VV VH VA VO VP VL VD VF,i64 x]) ->
   retPost PP Gl h [ResA.cell 4 (Ty.agg 10),ResA.t 5] (StP h (labG r s c t)) .ret env H':=fun x env H' hx h2 low hd1 hv =>
  retPR hd1 hv (e.pur _ _) low ⟨VC,VV,VH,VA,VO,VP,VL,VD,VF,by rw [h2,<- hx,hD],rfl,by rw [h2]; exact e⟩
 refine enter_75 (by simp) ?_
 simp -implicitDefEqProofs [code_75,res_75,ann_75,E1,E2,E3,encSt,hk]
 rw [hH0] at cL cD cT
 refine callk cL rfl rfl ?_
 by_cases hl:s.label ∈ r.labs
 .simp -implicitDefEqProofs [E1,E2,E3,hl]
  exact ret 62 _ _ (by simp [labG,labR,hl]) (by simp [labG,labR,hl]) (Low.app _ _ _) (by simp [deferred,dslot]) (by simp [evalRes,evalRes1])
 simp -implicitDefEqProofs [E1,E2,E3,hl]
 refine callk cD rfl rfl ?_
 by_cases hdl:s.label ∈ r.decl
 .simp -implicitDefEqProofs [E1,E2,E3,hdl]
  exact ret 62 _ _ (by simp [labG,labR,hdl]) (by simp [labG,labR,hdl]) (Low.app _ _ _) (by simp [deferred,dslot]) (by simp [evalRes,evalRes1])
 have hlr:labR r s.label ≠ true:=by simp [labR,hl,hdl]
 simp -implicitDefEqProofs [E1,E2,E3,hdl,ht]
 refine callk cT rfl rfl ?_
 obtain ⟨E,hE⟩:∃ E,E=tcF r.now c:=⟨_,rfl⟩
 rw [<- hE]
 by_cases hE0:E=0
 case neg =>
  have hg:labG r s c t=(E,r):=by unfold labG; rw [if_neg hlr,<- hE,if_pos hE0]
  simp -implicitDefEqProofs [E1,E2,E3,hE0]
  exact ret E _ _ (by rw [hg]) (by rw [hg]) (Low.app _ _ _) (by simp [deferred,dslot]) (by simp [evalRes,evalRes1])
 have hg:labG r s c t=if lpE r true c t ≠ 0 then (lpE r true c t,r) else (0,labN r s):=by
  unfold labG
  rw [if_neg hlr,<- hE,if_neg (by simpa using hE0)]
  rw [hk]; rfl
 simp -implicitDefEqProofs [E1,E2,E3,hE0]
 have hlen:s.text.length=t.length+1:=by rw [ht]; rfl
 refine AWp.till (S:=PuS) ⟨0⟩ (fun x=>t.length - x.i) [2,3,4] (fun x=>[(7,i64 ((x.i:Int)+1))]) (fun _=>h++[AObj.cells 0 [VC,VV,VH,VA,i64 D,VO,VP,VL,VD,VF],.cells 0 zeroS])
  (fun x=>x.i <= t.length /\ lpE r true c (t.drop x.i)=lpE r true c t) mixed ⟨by simp,by simp⟩ (le_of (by simp [dslot])) rfl ?_
 rintro ⟨i⟩ ⟨z1,z2⟩
 simp only at z1 z2
 by_cases hi:i < t.length
 case pos =>
  have hlt:(i:Int)+1 < (t.length:Int)+1:=by omega
  have hlt2:(i:Int) < t.length:=by omega
  have h01:(0:Int) <= (i:Int)+1:=by omega
  have wi:IntKind.i64.wrap ((i:Int)+1+1)=(i:Int)+1+1:=IntWalk.i64_in _ (by omega)
  obtain ⟨w,hw⟩:∃ w,w=t[i]:=⟨_,rfl⟩
  have hw2:t[i]?=some w:=by rw [hw]; simp [hi]
  have hdw:t.drop i=w :: t.drop (i+1):=by rw [List.drop_eq_getElem_cons hi,<- hw]
  rw [hdw] at z2
  simp only [lpE] at z2
  have cS:=symbol_c e b D w (h:=h++[AObj.cells 0 [VC,VV,VH,VA,i64 D,VO,VP,VL,VD,VF],.cells 0 zeroS])
  have cC:=hasR_c r.now.cs w VC e.cs (by omega) (h:=h++[AObj.cells 0 [VC,VV,VH,VA,i64 D,VO,VP,VL,VD,VF],.cells 0 zeroS])
  have cF:=floating_c e b D w (h:=h++[AObj.cells 0 [VC,VV,VH,VA,i64 D,VO,VP,VL,VD,VF],.cells 0 zeroS])
  have cY:=typed_c e b D c w (h:=h++[AObj.cells 0 [VC,VV,VH,VA,i64 D,VO,VP,VL,VD,VF],.cells 0 zeroS])
  have bad:∀ (x:Int) env H',lpE r true c t=x -> x ≠ 0 -> Low h.length h H' -> deferred env=some [] -> evalRes Gl env H' [ResA.cell 4 (Ty.agg 10),ResA.t 5]=some (.tup [stV D VC VV VH VA VO VP VL VD VF,i64 x]) ->
    retPost PP Gl h [ResA.cell 4 (Ty.agg 10),ResA.t 5] (StP h (labG r s c t)) .ret env H':=fun x env H' hx h0 low hd1 hv=>by
   have hg2:labG r s c t=(x,r):=by rw [hg,hx,if_pos h0]
   exact ret x env H' (by rw [hg2]) (by rw [hg2]) low hd1 hv
  simp -implicitDefEqProofs [lp0_75,hlt,hlt2,h01,hi,<- hw,E1,E2,E3,ht,hk]
  refine callk cS rfl rfl ?_
  cases ha:actR r.now w with
  | false =>
   rw [if_pos ha] at z2
   simp -implicitDefEqProofs [E1,E2,E3]
   exact bad 63 _ _ z2.symm (by decide) (Low.app _ _ _) (by simp [deferred,dslot]) (by simp [evalRes,evalRes1])
  | true =>
   rw [if_neg (by rw [ha]; simp)] at z2
   simp -implicitDefEqProofs [E1,E2,E3]
   refine callk cC rfl rfl ?_
   by_cases hc:w ∈ r.now.cs
   .rw [if_pos (by simp [hc])] at z2
    simp -implicitDefEqProofs [E1,E2,E3,hc,hk]
    exact bad 64 _ _ z2.symm (by decide) (Low.app _ _ _) (by simp [deferred,dslot]) (by simp [evalRes,evalRes1])
   rw [if_neg (by simp [hc])] at z2
   simp -implicitDefEqProofs [E1,E2,E3,hc,hk]
   refine callk cF rfl rfl ?_
   cases hfl:floatR r.now.hs w with
   | true =>
    rw [if_pos (by simp [hfl])] at z2
    simp -implicitDefEqProofs [E1,E2,E3,hc,hk]
    exact bad 65 _ _ z2.symm (by decide) (Low.app _ _ _) (by simp [deferred,dslot]) (by simp [evalRes,evalRes1])
   | false =>
    simp -implicitDefEqProofs [E1,E2,E3,hc,ht,hk]
    refine callk cY rfl rfl ?_
    cases hty:typedR r.flts c w with
    | false =>
     rw [if_pos (by simp [hty])] at z2
     simp -implicitDefEqProofs [E1,E2,E3,hc,hk]
     exact bad 65 _ _ z2.symm (by decide) (Low.app _ _ _) (by simp [deferred,dslot]) (by simp [evalRes,evalRes1])
    | true =>
     rw [if_neg (by simp [hfl,hty])] at z2
     simp -implicitDefEqProofs [E1,E2,E3,hc,hk,wi]
     exact ⟨⟨i+1⟩,by simp; omega,⟨by simp; omega,z2⟩,le_of (by simp [dslot])⟩
 have hno:¬ (i:Int)+1 < (t.length:Int)+1:=by omega
 have hno2:¬ (i:Int) < t.length:=by omega
 have hno3:¬ i < t.length:=by omega
 rw [List.drop_of_length_le (by omega)] at z2
 have hz:lpE r true c t=0:=z2.symm
 rw [hg,if_neg (by rw [hz]; simp)]
 simp -implicitDefEqProofs [lp0_75,hno,hno2,hno3,E1,E2,E3,ht,hk]
 refine callk (withR_c r.labs s.label VL e.labs (by omega)) rfl rfl ?_
 simp -implicitDefEqProofs [E1,E2,E3,ht,hk]
 have hTX:(c :: t).map sv ≠ []:=by simp
 have hpT:purL ((c :: t).map sv)=true:=purS _
 have hTlen:(c :: t).length <= 1000:=by rw [<- ht]; exact tl
 obtain ⟨VL2,hVL2⟩:∃ V:AV,V=.sl 1 ((r.labs++[s.label]).map sv) .any:=⟨_,rfl⟩
 have fL2:Fl 1 ((r.labs++[s.label]).map sv) VL2:=by rw [hVL2]; exact fl_any 1 _
 have hVL3:AV.sl 1 (r.labs.map sv++[AV.sc (.string s.label)]) .any=VL2:=by rw [hVL2]; simp
 obtain ⟨HL,hHL⟩:∃ HL,HL=h++[AObj.cells 0 [VC,VV,VH,VA,i64 D,VO,VP,VL2,VD,VF],.cells 0 zeroS]:=⟨_,rfl⟩
 have hHLl:HL.length=h.length+2:=by rw [hHL]; simp
 have lowL:Low h.length h HL:=by rw [hHL]; exact Low.app _ _ _
 have q1:HL[h.length]?=some (.cells 0 [VC,VV,VH,VA,i64 D,VO,VP,VL2,VD,VF]):=by rw [hHL]; simp
 have q2:HL[h.length+1]?=some (.cells 0 zeroS):=by rw [hHL]; simp
 rw [hVL3,<- hHL]
 refine appFX (base:=h.length+2) [] ((c :: t).map sv) 0 (.nil _ _ _ (by omega)) (by simp [apf]) (by simp [elems]) (by simp at hTlen ⊢; unfold maxLenA; omega) ?_
 intro H1 T1 g1 l1
 rw [List.nil_append] at g1
 have x1:=l1 h.length _ (by omega) q1
 have x2:=l1 (h.length+1) _ (by omega) q2
 have low1:Low h.length h H1:=lowL.trans (l1.mono (by omega))
 obtain ⟨TX,hTXe⟩:∃ TX:AV,TX=apf 1 ((c :: t).map sv) T1:=⟨_,rfl⟩
 have tx1:TX.isPend=false:=by rw [hTXe]; rfl
 have tx2:TX.one=true:=by rw [hTXe]; rfl
 have tx3:TX.cells=[TX]:=by rw [hTXe]; rfl
 have tx4:TX.strip=.sl 1 ((c :: t).map sv) .any:=by rw [hTXe]; exact apf_any hTX hpT
 rw [List.nil_append,<- hTXe]
 have oL2:=fL2.one
 have pL2:=fL2.pend
 have cL2:=fL2.cells
 have hlen1:h.length+2 <= H1.length:=g1.len
 simp -implicitDefEqProofs [E1,E2,E3,hk,tx1,tx2,tx3,x1,x2,oL2,pL2,cL2]
 have eV1:∀ H,elems H 3 VF=some (r.flts.map encHy):=fun H=>Fl.elems e.flts H
 refine appFX (base:=h.length+2) [] (r.flts.map encHy) 0 (.nil _ _ _ hlen1) (by simp [apf]) (by simp [-elems,E1,E2,E3,eV1]) (by simp; unfold maxLenA; omega) ?_
 intro A1 S1 ga1 la1
 simp -implicitDefEqProofs [E1,E2,E3,hk,tx1,tx2,tx3,x1,x2,oL2,pL2,cL2]
 refine appFX (base:=h.length+2) (r.flts.map encHy) [.agg [sv s.label,.sc (.bool true),TX]] S1 (by simpa using ga1) (by simp) (by simp [elems]) (by simp; unfold maxLenA; omega) ?_
 intro B1 R1 gb1 lb1
 have lab1:=la1.trans lb1
 obtain ⟨VF2,hVF2⟩:∃ V:AV,V=apf 3 (r.flts.map encHy++[.agg [sv s.label,.sc (.bool true),TX]]) R1:=⟨_,rfl⟩
 have t11:VF2.isPend=false:=by rw [hVF2]; rfl
 have t12:VF2.one=true:=by rw [hVF2]; rfl
 have t13:VF2.cells=[VF2]:=by rw [hVF2]; rfl
 have t14:VF2.strip=.sl 3 ((r.flts++[hyO s true]).map encHy) .any:=by
  rw [hVF2,strip_apf 3 _ ((r.flts++[hyO s true]).map encHy) _ (by
   have:=purL_strip (purH r.flts)
   rw [stripL_eq] at this ⊢
   rw [List.map_append,this]
   simp [AV.strip,stripL,tx4,hyO,ht])]
  simp [apfV]
 rw [<- hVF2]
 have hl1b:h.length+2 <= B1.length:=gb1.len
 have y1:=lab1 h.length _ (by omega) x1
 have y2:=lab1 (h.length+1) _ (by omega) x2
 obtain ⟨C1,hC1⟩:∃ C1,C1=B1.set h.length (.cells 0 [VC,VV,VH,VA,i64 D,VO,VP,VL2,VD,VF2]):=⟨_,rfl⟩
 have w1:C1[h.length]?=some (.cells 0 [VC,VV,VH,VA,i64 D,VO,VP,VL2,VD,VF2]):=by rw [hC1,List.getElem?_set_self (by omega)]
 have w2:C1[h.length+1]?=some (.cells 0 zeroS):=by rw [hC1,List.getElem?_set_ne (by omega)]; exact y2
 have lowC:Low h.length h C1:=by rw [hC1]; exact (low1.trans (lab1.mono (by omega))).trans (Low.set (Nat.le_refl _))
 have hlen2:h.length+2 <= C1.length:=by rw [hC1,List.length_set]; omega
 simp -implicitDefEqProofs [E1,E2,E3,hk,tx1,tx2,tx3,y1,y2,oL2,pL2,cL2,t11,t12,t13]
 rw [<- hC1]
 simp -implicitDefEqProofs [E1,E2,E3,hk,tx1,tx2,tx3,w1,w2,oL2,pL2,cL2,t11,t12,t13]
 have eV2:∀ H,elems H 3 VH=some (r.now.hs.map encHy):=fun H=>Fl.elems e.hs H
 refine appFX (base:=h.length+2) [] (r.now.hs.map encHy) 0 (.nil _ _ _ hlen2) (by simp [apf]) (by simp [-elems,E1,E2,E3,eV2]) (by simp; unfold maxLenA; omega) ?_
 intro A2 S2 ga2 la2
 simp -implicitDefEqProofs [E1,E2,E3,hk,tx1,tx2,tx3,w1,w2,oL2,pL2,cL2,t11,t12,t13]
 refine appFX (base:=h.length+2) (r.now.hs.map encHy) [.agg [sv s.label,.sc (.bool true),TX]] S2 (by simpa using ga2) (by simp) (by simp [elems]) (by simp; unfold maxLenA; omega) ?_
 intro B2 R2 gb2 lb2
 have lab2:=la2.trans lb2
 obtain ⟨VH2,hVH2⟩:∃ V:AV,V=apf 3 (r.now.hs.map encHy++[.agg [sv s.label,.sc (.bool true),TX]]) R2:=⟨_,rfl⟩
 have t21:VH2.isPend=false:=by rw [hVH2]; rfl
 have t22:VH2.one=true:=by rw [hVH2]; rfl
 have t23:VH2.cells=[VH2]:=by rw [hVH2]; rfl
 have t24:VH2.strip=.sl 3 ((r.now.hs++[hyO s true]).map encHy) .any:=by
  rw [hVH2,strip_apf 3 _ ((r.now.hs++[hyO s true]).map encHy) _ (by
   have:=purL_strip (purH r.now.hs)
   rw [stripL_eq] at this ⊢
   rw [List.map_append,this]
   simp [AV.strip,stripL,tx4,hyO,ht])]
  simp [apfV]
 rw [<- hVH2]
 have hl2b:h.length+2 <= B2.length:=gb2.len
 have u1:=lab2 h.length _ (by omega) w1
 have u2:=lab2 (h.length+1) _ (by omega) w2
 have s0:∀ X:AObj,(B2.set h.length X)[h.length]?=some X:=fun X=>by rw [List.getElem?_set_self (by omega)]
 have s0':∀ X:AObj,(B2.set h.length X)[h.length+1]?=some (.cells 0 zeroS):=fun X=>by rw [List.getElem?_set_ne (by omega)]; exact u2
 have s1:∀ X Y:AObj,((B2.set h.length X).set (h.length+1) Y)[h.length+1]?=some Y:=fun X Y=>by rw [List.getElem?_set_self (by simp; omega)]
 simp -implicitDefEqProofs [E1,E2,E3,hk,tx1,tx2,tx3,u1,u2,s0,s0',s1,oL2,pL2,cL2,t11,t12,t13,t21,t22,t23]
 obtain ⟨v1,v2,v3,v4,v5,v6,v7,v8,v9⟩:=e.strips
 have zL2:=pur_strip (fL2.pur (purS _))
 have eN:labN r s={ r with labs:=r.labs++[s.label],flts:=r.flts++[hyO s true],now:={ r.now with hs:=r.now.hs++[hyO s true] } }:=by unfold labN; rw [if_pos hk]
 have eC:EncC (labN r s) VC VV (.sl 3 ((r.now.hs++[hyO s true]).map encHy) .any) VA VO VP VL2 VD (.sl 3 ((r.flts++[hyO s true]).map encHy) .any):=by rw [eN]; exact { e with labs:=fL2,hs:=fl_any 3 _,flts:=fl_any 3 _ }
 exact retPS (v:=.tup [stV D VC VV VH2 VA VO VP VL2 VD VF2,i64 0]) (v':=.tup [stV D VC VV (.sl 3 ((r.now.hs++[hyO s true]).map encHy) .any) VA VO VP VL2 VD (.sl 3 ((r.flts++[hyO s true]).map encHy) .any),i64 0]) (by simp [deferred,dslot]) (by simp [evalRes,evalRes1,s1]) (by simp only [AV.strip,stripL,stV,t14,t24,v1,v2,v4,v5,v6,v8,zL2]) (eC.pur _ _) (((lowC.trans (lab2.mono (by omega))).trans (Low.set (Nat.le_refl _))).trans (Low.set (by omega))) ⟨VC,VV,_,VA,VO,VP,VL2,VD,_,by rw [eN,hD],rfl,eC⟩
end Go.Apx
