/- Walks: the reference's has, with, symbol, typecode, floating, typed; its state as it stands. -/
import Derived.Test.YtmgajcmigkcmdaaGreatDoorQB
import Derived.Test.YtmgajcmigkcmdaaGreatDoorNH
set_option linter.unusedVariables false
set_option linter.unusedSimpArgs false
set_option linter.unnecessarySimpa false
section
namespace Go.Apx
open Go.Proofs Go.Shelf
set_option maxRecDepth 4000
theorem appFX {C:Cx} {k b base:Nat} {x y:Opd} {d:Option Nat} {env:Env} {H:AHeap} {K:Env -> AHeap -> Prop} (es xs:List AV) (T:Nat) (g:Grow base H es.length T) (hx:evalOpd C.G env x=some (apf k es T)) (hy:(evalOpd C.G env y).bind (elems H k)=some xs)
  (hm:es.length+xs.length <= maxLenA) (hK:∀ H' T',Grow base H' (es++xs).length T' -> Low base H H' -> K (putD env d (apf k (es++xs) T')) H'):appW C k b x y d env H K :=
 appF es xs T hx hy (fun h=>g.tok (by simpa using h)) hm (hK _ _ (by rw [List.length_append]; exact g.app _) (g.lowG _))
theorem apf_any {k T:Nat} {es:List AV} (h:es ≠ []) (hp:purL es=true):(apf k es T).strip=.sl k es .any:=by
 rw [strip_apf k es es T (purL_strip hp)]
 simp [apfV,h]
theorem fl_any (k:Nat) (es:List AV):Fl k es (.sl k es .any):=⟨k,.any,rfl,.inl rfl,.inl rfl⟩
theorem hasR_c (l:List ByteArray) (w:ByteArray) (V:AV) (hV:Fl 1 (l.map sv) V) (hl:l.length <= 2 ^ 31) {h:AHeap}:AEx PP Gl 112 [V,sv w] h (.ret (.sc (.bool (decide (w ∈ l))))) h:=by
 obtain ⟨q,c,rfl,hq,_⟩:=hV
 simp only [List.map_eq_nil_iff] at hq
 refine enter_112 (by simp) ?_
 simp -implicitDefEqProofs [code_112,res_112,ann_112]
 refine AWp.till (S:=PuS) ⟨0⟩ (fun s=>l.length - s.i) [0,1] (fun s=>[(5,i64 (s.i:Int))]) (fun _=>h)
  (fun s=>s.i <= l.length /\ w ∉ l.take s.i) mixed ⟨by simp,by simp⟩ (le_of (by simp [dslot])) rfl ?_
 rintro ⟨i⟩ ⟨z1,z2⟩
 simp only at z1 z2
 by_cases hi:i < l.length
 case neg =>
  have hno:¬ (i:Int) < l.length:=by omega
  obtain rfl:i=l.length:=by omega
  rw [List.take_length] at z2
  simp -implicitDefEqProofs [lp0_112,hno]
  exact retE (v:=.sc (.bool false)) (by simp [deferred,dslot]) rfl (by rw [decide_eq_false z2]) rfl
 have hlt:(i:Int) < l.length:=by omega
 have wi:IntKind.i64.wrap ((i:Int)+1)=(i:Int)+1:=IntWalk.i64_in _ (by omega)
 obtain rfl:=hq.resolve_right (by rintro rfl; simp at hi)
 obtain ⟨s,hs⟩:∃ s,s=l[i]:=⟨_,rfl⟩
 have hs2:l[i]?=some s:=by rw [hs]; simp [hi]
 by_cases e:s=w
 .subst e
  simp -implicitDefEqProofs [lp0_112,hlt,hi,<- hs]
  exact retE (v:=.sc (.bool true)) (by simp [deferred,dslot]) rfl (by rw [decide_eq_true (List.mem_of_getElem? hs2)]) rfl
 .simp -implicitDefEqProofs [lp0_112,hlt,hi,<- hs,e,wi]
  exact ⟨⟨i+1⟩,by simp; omega,⟨by simp; omega,by simp only; rw [List.take_add_one,hs2]; simp only [List.mem_append,not_or]; exact ⟨z2,by simpa using Ne.symm e⟩⟩,le_of (by simp [dslot])⟩
theorem withR_c (l:List ByteArray) (w:ByteArray) (V:AV) (hV:Fl 1 (l.map sv) V) (hl:l.length <= 2 ^ 31) {h:AHeap}:AEx PP Gl 113 [V,sv w] h (.ret (.sl 1 ((l++[w]).map sv) .any)) h:=by
 obtain ⟨q,c,rfl,hq,_⟩:=hV
 refine enter_113 (by simp) ?_
 have g0:Grow h.length h ([]:List AV).length 0:=.nil _ _ _ (Nat.le_refl _)
 simp -implicitDefEqProofs [code_113,res_113,ann_113]
 refine appFX (base:=h.length) [] (l.map sv) 0 g0 (by simp [apf]) (by simp only [List.map_eq_nil_iff] at hq; simp [elems]; exact fun h=>hq.resolve_left h) (by simp; unfold maxLenA; omega) ?_
 intro H1 T1 g1 l1
 simp -implicitDefEqProofs
 refine appFX (base:=h.length) (l.map sv) [sv w] T1 (by simpa using g1) (by simp) (by simp) (by simp; unfold maxLenA; omega) ?_
 intro H2 T2 g2 l2
 simp -implicitDefEqProofs
 exact retP (v:=apf 1 (l.map sv++[sv w]) T2) (v':=.sl 1 ((l++[w]).map sv) .any) (by simp [deferred,dslot]) (by simp [evalRes,evalRes1]) (by rw [apf_any (by simp) (by rw [show l.map sv++[sv w]=(l++[w]).map sv by simp]; exact purS _)]; simp) ((fl_any 1 _).pur (purS _)) (l1.trans l2) (by simp) rfl
def EncA (A:AcR) (V:AV):Prop:=∃ VC VV VH VA,V=.agg [VC,VV,VH,VA,i64 A.d] /\ Fl 1 (A.cs.map sv) VC /\ Fl 1 (A.vs.map sv) VV /\ Fl 3 (A.hs.map encHy) VH /\ Fl 2 (A.ap.map encP) VA
inductive EncL:List AcR -> List AV -> Prop
 | nil:EncL [] []
 | cons {A:AcR} {V:AV} {l:List AcR} {r:List AV} (h:EncA A V) (t:EncL l r):EncL (A :: l) (V :: r)
structure EncC (r:RSt) (VC VV VH VA VO VP VL VD VF:AV):Prop where
 cs:Fl 1 (r.now.cs.map sv) VC
 vs:Fl 1 (r.now.vs.map sv) VV
 hs:Fl 3 (r.now.hs.map encHy) VH
 ap:Fl 2 (r.now.ap.map encP) VA
 out:∃ os,EncL r.outer os /\ Fl 5 os VO
 op:Fl 1 (r.opens.map i64) VP
 labs:Fl 1 (r.labs.map sv) VL
 decl:Fl 1 (r.decl.map sv) VD
 flts:Fl 3 (r.flts.map encHy) VF
abbrev stV (d:Int) (VC VV VH VA VO VP VL VD VF:AV):AV:=.agg [VC,VV,VH,VA,i64 d,VO,VP,VL,VD,VF]
structure RB (r:RSt):Prop where
 now:∀ A ∈ r.now :: r.outer,A.cs.length <= 2 ^ 21 /\ A.vs.length <= 2 ^ 21 /\ A.hs.length <= 2 ^ 21 /\ A.ap.length <= 2 ^ 28 /\ A.d <= 2 ^ 21
 out:r.outer.length <= 2 ^ 21
 op:r.opens.length <= 2 ^ 21
 labs:r.labs.length <= 2 ^ 21
 decl:r.decl.length <= 2 ^ 21
 flts:r.flts.length <= 2 ^ 21
 ht:∀ A ∈ r.now :: r.outer,∀ h ∈ A.hs,h.fl=true -> 2 <= h.text.length
 hf:∀ h ∈ r.flts,2 <= h.text.length
section
variable {r:RSt} {VC VV VH VA VO VP VL VD VF:AV}
theorem EncC.ones (e:EncC r VC VV VH VA VO VP VL VD VF):VC.one=true /\ VV.one=true /\ VH.one=true /\ VA.one=true /\ VO.one=true /\ VP.one=true /\ VL.one=true /\ VD.one=true /\ VF.one=true:=by
 obtain ⟨os,_,eo⟩:=e.out
 exact ⟨e.cs.one,e.vs.one,e.hs.one,e.ap.one,eo.one,e.op.one,e.labs.one,e.decl.one,e.flts.one⟩
theorem EncC.pends (e:EncC r VC VV VH VA VO VP VL VD VF):VC.isPend=false /\ VV.isPend=false /\ VH.isPend=false /\ VA.isPend=false /\ VO.isPend=false /\ VP.isPend=false /\ VL.isPend=false /\ VD.isPend=false /\ VF.isPend=false:=by
 obtain ⟨os,_,eo⟩:=e.out
 exact ⟨e.cs.pend,e.vs.pend,e.hs.pend,e.ap.pend,eo.pend,e.op.pend,e.labs.pend,e.decl.pend,e.flts.pend⟩
theorem EncC.cellsE (e:EncC r VC VV VH VA VO VP VL VD VF):VC.cells=[VC] /\ VV.cells=[VV] /\ VH.cells=[VH] /\ VA.cells=[VA] /\ VO.cells=[VO] /\ VP.cells=[VP] /\ VL.cells=[VL] /\ VD.cells=[VD] /\ VF.cells=[VF]:=by
 obtain ⟨os,_,eo⟩:=e.out
 exact ⟨e.cs.cells,e.vs.cells,e.hs.cells,e.ap.cells,eo.cells,e.op.cells,e.labs.cells,e.decl.cells,e.flts.cells⟩
theorem symbol_c (e:EncC r VC VV VH VA VO VP VL VD VF) (b:RB r) (d:Int) (w:ByteArray) {h:AHeap}:AEx PP Gl 111 [stV d VC VV VH VA VO VP VL VD VF,sv w] h (.ret (i64 (if actR r.now w=true then 0 else 63))) h:=by
 obtain ⟨b1,b2,b3,b4,b5⟩:=b.now r.now (List.mem_cons_self ..)
 have c1:=hasR_c r.now.cs w VC e.cs (by omega) (h:=h)
 have c2:=hasR_c r.now.vs w VV e.vs (by omega) (h:=h)
 have E1:=e.ones
 have E2:=e.pends
 refine enter_111 (by simp) ?_
 simp -implicitDefEqProofs [code_111,res_111,ann_111,E2,E1]
 refine callk c1 rfl rfl ?_
 by_cases h1:w ∈ r.now.cs
 .simp -implicitDefEqProofs [h1,E1,E2]
  exact retE (v:=i64 0) (by simp [deferred,dslot]) rfl (by simp [actR,h1]) rfl
 .simp -implicitDefEqProofs [h1,E1,E2]
  refine callk c2 rfl rfl ?_
  by_cases h2:w ∈ r.now.vs
  .simp -implicitDefEqProofs [h2]
   exact retE (v:=i64 0) (by simp [deferred,dslot]) rfl (by simp [actR,h2]) rfl
  .simp -implicitDefEqProofs [h2]
   exact retE (v:=i64 63) (by simp [deferred,dslot]) rfl (by simp [actR,h1,h2]) rfl
def tcF (A:AcR) (w:ByteArray):Int:=if actR A w=false then 63 else if w ∉ A.cs then 64 else 0
theorem typecode_c (e:EncC r VC VV VH VA VO VP VL VD VF) (b:RB r) (d:Int) (w:ByteArray) {h:AHeap}:AEx PP Gl 114 [stV d VC VV VH VA VO VP VL VD VF,sv w] h (.ret (i64 (tcF r.now w))) h:=by
 obtain ⟨b1,b2,b3,b4,b5⟩:=b.now r.now (List.mem_cons_self ..)
 have c0:=symbol_c e b d w (h:=h)
 have c1:=hasR_c r.now.cs w VC e.cs (by omega) (h:=h)
 have E1:=e.ones
 have E2:=e.pends
 refine enter_114 (by simp) ?_
 simp -implicitDefEqProofs [code_114,res_114,ann_114,E2,E1]
 refine callk c0 rfl rfl ?_
 cases ha:actR r.now w with
 | false =>
  simp -implicitDefEqProofs
  exact retE (v:=i64 63) (by simp [deferred,dslot]) rfl (by simp [tcF,ha]) rfl
 | true =>
  simp -implicitDefEqProofs [E1,E2]
  refine callk c1 rfl rfl ?_
  by_cases h1:w ∈ r.now.cs
  .simp -implicitDefEqProofs [h1,E1,E2]
   exact retE (v:=i64 0) (by simp [deferred,dslot]) rfl (by simp [tcF,ha,h1]) rfl
  .simp -implicitDefEqProofs [h1,E1,E2]
   exact retE (v:=i64 64) (by simp [deferred,dslot]) rfl (by simp [tcF,ha,h1]) rfl
theorem var_get {x:Hy} (h:2 <= x.text.length):(x.text.map sv)[1]?=some (sv x.var) /\ x.text[1]?=some x.var:=by
 have:x.text[1]?=some x.var:=by unfold Hy.var; rw [List.getElem?_eq_getElem (by omega)]; rfl
 exact ⟨by rw [List.getElem?_map,this]; rfl,this⟩
theorem code_get {x:Hy} (h:2 <= x.text.length):x.text[0]?=some x.code:=by
 unfold Hy.code; rw [List.getElem?_eq_getElem (by omega)]; rfl
set_option maxHeartbeats 2000000 in
theorem floating_c (e:EncC r VC VV VH VA VO VP VL VD VF) (b:RB r) (d:Int) (w:ByteArray) {h:AHeap}:AEx PP Gl 115 [stV d VC VV VH VA VO VP VL VD VF,sv w] h (.ret (.sc (.bool (floatR r.now.hs w)))) h:=by
 obtain ⟨b1,b2,b3,b4,b5⟩:=b.now r.now (List.mem_cons_self ..)
 have hht:=b.ht r.now (List.mem_cons_self ..)
 have E1:=e.ones
 obtain ⟨q,c,rfl,hq,_⟩:=e.hs
 simp only [List.map_eq_nil_iff] at hq
 obtain ⟨L,hL⟩:∃ L,L=r.now.hs:=⟨_,rfl⟩
 rw [<- hL] at hq b3 hht ⊢
 refine enter_115 (by simp) ?_
 simp -implicitDefEqProofs [code_115,res_115,ann_115,E1]
 refine AWp.till (S:=PuS) ⟨0⟩ (fun s=>L.length - s.i) [1,2] (fun s=>[(5,i64 (s.i:Int))]) (fun _=>h)
  (fun s=>s.i <= L.length /\ floatR (L.take s.i) w=false) mixed ⟨by simp,by simp [floatR]⟩ (le_of (by simp [dslot])) rfl ?_
 rintro ⟨i⟩ ⟨z1,z2⟩
 simp only at z1 z2
 by_cases hi:i < L.length
 case neg =>
  have hno:¬ (i:Int) < L.length:=by omega
  obtain rfl:i=L.length:=by omega
  rw [List.take_length] at z2
  simp -implicitDefEqProofs [lp0_115,hno]
  exact retE (v:=.sc (.bool false)) (by simp [deferred,dslot]) rfl (by rw [z2]) rfl
 have hlt:(i:Int) < L.length:=by omega
 have wi:IntKind.i64.wrap ((i:Int)+1)=(i:Int)+1:=IntWalk.i64_in _ (by omega)
 obtain rfl:=hq.resolve_right (by rintro rfl; simp at hi)
 obtain ⟨x,hx⟩:∃ x,x=L[i]:=⟨_,rfl⟩
 have hx2:L[i]?=some x:=by rw [hx]; simp [hi]
 have hmem:=List.mem_of_getElem? hx2
 have htk:floatR (L.take (i+1)) w=(floatR (L.take i) w || (x.fl && decide (x.var=w))):=by rw [List.take_add_one,hx2,floatR_app]; simp [floatR]
 have hall:floatR (L.take (i+1)) w=true -> floatR L w=true:=fun h=>by
  rw [<- List.take_append_drop (i+1) L,floatR_app,h,Bool.true_or]
 cases hf:x.fl with
 | false =>
  simp -implicitDefEqProofs [lp0_115,hlt,hi,<- hx,hf,wi]
  exact ⟨⟨i+1⟩,by simp; omega,⟨by simp; omega,by simp only; rw [htk,z2,hf]; rfl⟩,le_of (by simp [dslot])⟩
 | true =>
  obtain ⟨v1,v2⟩:=var_get (hht x hmem hf)
  by_cases hv:x.var=w
  .simp -implicitDefEqProofs [lp0_115,hlt,hi,<- hx,hf,wi,v1,v2,hv]
   exact retE (v:=.sc (.bool true)) (by simp [deferred,dslot]) rfl (by rw [hall (by rw [htk,hf,hv]; simp)]) rfl
  .simp -implicitDefEqProofs [lp0_115,hlt,hi,<- hx,hf,wi,v1,v2,hv]
   exact ⟨⟨i+1⟩,by simp; omega,⟨by simp; omega,by simp only; rw [htk,z2,hf]; simp [hv]⟩,le_of (by simp [dslot])⟩
set_option maxHeartbeats 2000000 in
theorem typed_c (e:EncC r VC VV VH VA VO VP VL VD VF) (b:RB r) (d:Int) (cd w:ByteArray) {h:AHeap}:AEx PP Gl 116 [stV d VC VV VH VA VO VP VL VD VF,sv cd,sv w] h (.ret (.sc (.bool (typedR r.flts cd w)))) h:=by
 have b3:=b.flts
 have hht:=b.hf
 have E1:=e.ones
 obtain ⟨q,c,rfl,hq,_⟩:=e.flts
 simp only [List.map_eq_nil_iff] at hq
 obtain ⟨L,hL⟩:∃ L,L=r.flts:=⟨_,rfl⟩
 rw [<- hL] at hq b3 hht ⊢
 refine enter_116 (by simp) ?_
 simp -implicitDefEqProofs [code_116,res_116,ann_116,E1]
 refine AWp.till (S:=PuS) ⟨0⟩ (fun s=>L.length - s.i) [1,2,3] (fun s=>[(7,i64 (s.i:Int))]) (fun _=>h)
  (fun s=>s.i <= L.length /\ typedR (L.drop s.i) cd w=typedR L cd w) mixed ⟨by simp,by simp⟩ (le_of (by simp [dslot])) rfl ?_
 rintro ⟨i⟩ ⟨z1,z2⟩
 simp only at z1 z2
 by_cases hi:i < L.length
 case neg =>
  have hno:¬ (i:Int) < L.length:=by omega
  obtain rfl:i=L.length:=by omega
  rw [List.drop_length] at z2
  simp -implicitDefEqProofs [lp0_116,hno]
  exact retE (v:=.sc (.bool true)) (by simp [deferred,dslot]) rfl (by rw [<- z2]; rfl) rfl
 have hlt:(i:Int) < L.length:=by omega
 have wi:IntKind.i64.wrap ((i:Int)+1)=(i:Int)+1:=IntWalk.i64_in _ (by omega)
 obtain rfl:=hq.resolve_right (by rintro rfl; simp at hi)
 obtain ⟨x,hx⟩:∃ x,x=L[i]:=⟨_,rfl⟩
 have hx2:L[i]?=some x:=by rw [hx]; simp [hi]
 have hmem:=List.mem_of_getElem? hx2
 have hd:L.drop i=x :: L.drop (i+1):=by rw [List.drop_eq_getElem_cons hi,<- hx]
 rw [hd] at z2
 obtain ⟨v1,v2⟩:=var_get (hht x hmem)
 have v0:=code_get (hht x hmem)
 by_cases hv:x.var=w
 .have hz:typedR L cd w=decide (x.code=cd):=by rw [<- z2]; simp [typedR,hv]
  rw [hz]
  simp -implicitDefEqProofs [lp0_116,hlt,hi,<- hx,wi,v1,v2,v0,hv]
  exact retE (v:=.sc (.bool (decide (x.code=cd)))) (by simp [deferred,dslot]) rfl rfl rfl
 .simp -implicitDefEqProofs [lp0_116,hlt,hi,<- hx,wi,v1,v2,hv]
  exact ⟨⟨i+1⟩,by simp; omega,⟨by simp; omega,by simp only; rw [<- z2]; simp [typedR,hv]⟩,le_of (by simp [dslot])⟩
end
end Go.Apx
end
section
namespace Go.Apx
open Go.Proofs Go.Shelf
set_option maxRecDepth 4000
theorem retPR {P:Program} {G:Globs} {h H:AHeap} {rs:List ResA} {R:AEnd -> AHeap -> Prop} {env:Env} {v:AV} (hd:deferred env=some []) (hv:evalRes G env H rs=some v) (hp:v.pur=true) (hl:Low h.length h H) (hR:R (.ret v) h):retPost P G h rs R .ret env H:=by
 have hs:=pur_strip hp
 refine retCut (v:=v) h.length hd hv (Nat.le_refl _) hl.len (by rw [hs]; exact pur_inb _ hp) hl.cl ?_
 rw [hl.take,hs]
 exact hR
theorem EncA.pur {A:AcR} {V:AV} (h:EncA A V):V.pur=true:=by
 obtain ⟨VC,VV,VH,VA,rfl,e1,e2,e3,e4⟩:=h
 simp [AV.pur,purL,e1.pur (purS _),e2.pur (purS _),e3.pur (purH _),e4.pur (purP _)]
theorem EncL.pur {l:List AcR} {os:List AV} (h:EncL l os):purL os=true:=by
 induction h with
 | nil=>rfl
 | cons h _ ih=>simp [purL,h.pur,ih]
theorem purI (l:List Int):purL (l.map i64)=true:=purL_map (fun a=>(rfl:(i64 a).pur=true)) _
theorem EncC.pur {r:RSt} {VC VV VH VA VO VP VL VD VF:AV} (e:EncC r VC VV VH VA VO VP VL VD VF) (d:Int) (x:Int):(AV.tup [stV d VC VV VH VA VO VP VL VD VF,i64 x]).pur=true:=by
 obtain ⟨os,eL,eo⟩:=e.out
 simp [AV.pur,purL,e.cs.pur (purS _),e.vs.pur (purS _),e.hs.pur (purH _),e.ap.pur (purP _),eo.pur eL.pur,e.op.pur (purI _),e.labs.pur (purS _),e.decl.pur (purS _),e.flts.pur (purH _)]
def StP (h:AHeap) (res:Int × RSt) (ret:AEnd) (H:AHeap):Prop :=
 ∃ VC VV VH VA VO VP VL VD VF,ret=.ret (.tup [stV res.2.now.d VC VV VH VA VO VP VL VD VF,i64 res.1]) /\ H=h /\ EncC res.2 VC VV VH VA VO VP VL VD VF
theorem declR_app (k:Bool):∀ (a b:List ByteArray) (r:RSt),declR k r (a++b)=if (declR k r a).1=0 then declR k (declR k r a).2 b else declR k r a
 | [],b,r=>by simp [declR]
 | s :: a,b,r=>by
  simp only [List.cons_append,declR]
  split
  .simp
  .exact declR_app k a b _
theorem declR_d (k:Bool):∀ (l:List ByteArray) (r:RSt),(declR k r l).2.now.d=r.now.d
 | [],r=>rfl
 | s :: t,r=>by
  simp only [declR]
  split
  .rfl
  .rw [declR_d k t]; cases k <;> rfl
structure DcS where
 i:Nat
 VC:AV
 VV:AV
 VH:AV
 VA:AV
 VO:AV
 VP:AV
 VL:AV
 VD:AV
 VF:AV
abbrev zeroS:List AV:=[.sl 0 [] .nil,.sl 0 [] .nil,.sl 0 [] .nil,.sl 0 [] .nil,i64 0,.sl 0 [] .nil,.sl 0 [] .nil,.sl 0 [] .nil,.sl 0 [] .nil,.sl 0 [] .nil]
set_option maxHeartbeats 16000000 in
theorem declare_c {r:RSt} {VC VV VH VA VO VP VL VD VF:AV} (e:EncC r VC VV VH VA VO VP VL VD VF) (s:St) (tl:s.text.length <= 1000) (so:s.tc=.nil -> s.text=[]) (hb:∀ i,RB (declR (decide (s.kind=1)) r (s.text.take i)).2) {h:AHeap} :
  ACalls PP Gl 73 [stV r.now.d VC VV VH VA VO VP VL VD VF,encSt s] h (StP h (if s.kind=1 /\ r.now.d ≠ 0 then (60,r) else declR (decide (s.kind=1)) r s.text)):=by
 have E1:=e.ones
 have E2:=e.pends
 have E3:=e.cellsE
 obtain ⟨Kb,hKb⟩:∃ Kb,Kb=decide (s.kind=1):=⟨_,rfl⟩
 refine enter_73 (by simp) ?_
 by_cases hn:s.kind=1 /\ r.now.d ≠ 0
 .have hd:¬ (r.now.d:Int)=0:=by omega
  have hd0:=hn.2
  rw [if_pos hn]
  simp -implicitDefEqProofs [code_73,res_73,ann_73,E1,E2,E3,encSt,hn.1,hd,hd0]
  exact retPR (v:=.tup [stV r.now.d VC VV VH VA VO VP VL VD VF,i64 60]) (by simp [deferred,dslot]) (by simp [evalRes,evalRes1]) (e.pur _ _) (Low.app _ _ _) ⟨_,_,_,_,_,_,_,_,_,rfl,rfl,e⟩
 rw [if_neg hn]
 rw [<- hKb] at hb ⊢
 have hgo:(s.kind=1 /\ Kb=true /\ r.now.d=0) \/ (s.kind ≠ 1 /\ Kb=false):=by
  by_cases hk:s.kind=1
  .exact .inl ⟨hk,by rw [hKb]; simp [hk],Decidable.not_not.1 fun h=>hn ⟨hk,h⟩⟩
  .exact .inr ⟨hk,by rw [hKb]; simp [hk]⟩
 have eb:(!decide (s.kind=1))=!Kb:=by rw [hKb]
 have eb2:decide (s.kind=1)=Kb:=hKb.symm
 rcases hgo with ⟨hk,hKt,hd⟩ | ⟨hk,hKt⟩
 .have hd':(r.now.d:Int)=0:=by omega
  simp -implicitDefEqProofs [code_73,res_73,ann_73,E1,E2,E3,encSt,hk,hd,hd']
  refine AWp.till (S:=DcS) ⟨0,VC,VV,VH,VA,VO,VP,VL,VD,VF⟩ (fun x=>s.text.length - x.i) [2,3,4,6] (fun x=>[(7,i64 (x.i:Int))])
   (fun x=>h++[.cells 0 [x.VC,x.VV,x.VH,x.VA,i64 0,x.VO,x.VP,x.VL,x.VD,x.VF],.cells 0 zeroS])
   (fun x=>x.i <= s.text.length /\ (declR Kb r (s.text.take x.i)).1=0 /\ EncC (declR Kb r (s.text.take x.i)).2 x.VC x.VV x.VH x.VA x.VO x.VP x.VL x.VD x.VF) mixed ⟨by simp,by simp [declR],by simpa [declR] using e⟩ (le_of (by simp [dslot])) rfl ?_
  clear e E1 E2 E3
  rintro ⟨i,VC,VV,VH,VA,VO,VP,VL,VD,VF⟩ ⟨z1,z2,e⟩
  simp only at z1 z2 e
  have bX:=hb i
  have hXd:=declR_d Kb (s.text.take i) r
  obtain ⟨X,hX⟩:∃ X,X=(declR Kb r (s.text.take i)).2:=⟨_,rfl⟩
  rw [<- hX] at e bX hXd
  have E1:=e.ones
  have E2:=e.pends
  have E3:=e.cellsE
  by_cases hi:i < s.text.length
  case neg =>
   have hno:¬ (i:Int) < s.text.length:=by omega
   obtain rfl:i=s.text.length:=by omega
   rw [List.take_length] at z2 hX
   simp -implicitDefEqProofs [lp0_73,hno,E1,E2,E3]
   exact retPR (v:=.tup [stV 0 VC VV VH VA VO VP VL VD VF,i64 0]) (by simp [deferred,dslot]) (by simp [evalRes,evalRes1]) (e.pur _ _) (Low.app _ _ _) ⟨VC,VV,VH,VA,VO,VP,VL,VD,VF,by rw [z2,<- hX,hXd,hd]; rfl,rfl,by rw [<- hX]; exact e⟩
  have hlt:(i:Int) < s.text.length:=by omega
  have wi:IntKind.i64.wrap ((i:Int)+1)=(i:Int)+1:=IntWalk.i64_in _ (by omega)
  obtain ⟨w,hw⟩:∃ w,w=s.text[i]:=⟨_,rfl⟩
  have hw2:s.text[i]?=some w:=by rw [hw]; simp [hi]
  have hdw:s.text.drop i=w :: s.text.drop (i+1):=by rw [List.drop_eq_getElem_cons hi,<- hw]
  have hall:declR Kb r s.text=declR Kb X (w :: s.text.drop (i+1)):=by
   conv=>lhs; rw [<- List.take_append_drop i s.text,declR_app,if_pos z2,<- hX,hdw]
  have hone:declR Kb r (s.text.take (i+1))=declR Kb X [w]:=by
   rw [List.take_add_one,hw2,declR_app,if_pos z2,<- hX]; rfl
  have bnd:=bX.now X.now (List.mem_cons_self ..)
  have bd1:=bX.decl
  have bd2:=bX.labs
  have cS:=symbol_c e bX 0 w (h:=h++[.cells 0 [VC,VV,VH,VA,i64 0,VO,VP,VL,VD,VF],.cells 0 zeroS])
  have cD:=hasR_c X.decl w VD e.decl (by omega) (h:=h++[.cells 0 [VC,VV,VH,VA,i64 0,VO,VP,VL,VD,VF],.cells 0 zeroS])
  have cL:=hasR_c X.labs w VL e.labs (by omega) (h:=h++[.cells 0 [VC,VV,VH,VA,i64 0,VO,VP,VL,VD,VF],.cells 0 zeroS])
  have wD:=withR_c X.decl w VD e.decl (by omega) (h:=h++[.cells 0 [VC,VV,VH,VA,i64 0,VO,VP,VL,VD,VF],.cells 0 zeroS])
  have err:(((actR X.now w || (Kb && decide (w ∈ X.decl))) || decide (w ∈ X.labs))=true) -> ∀ env H',Low h.length h H' -> deferred env=some [] -> evalRes Gl env H' [ResA.cell 4 (Ty.agg 10),ResA.t 5]=some (.tup [stV 0 VC VV VH VA VO VP VL VD VF,i64 61]) ->
    retPost PP Gl h [ResA.cell 4 (Ty.agg 10),ResA.t 5] (StP h (declR Kb r s.text)) .ret env H':=fun hc env H' low hd1 hv=>by
   have h61:declR Kb r s.text=(61,X):=by rw [hall]; simp only [declR]; rw [if_pos hc]
   exact retPR hd1 hv (e.pur _ _) low ⟨VC,VV,VH,VA,VO,VP,VL,VD,VF,by rw [h61]; simp only; rw [hXd,hd]; rfl,rfl,by rw [h61]; exact e⟩
  have going:(((actR X.now w || (Kb && decide (w ∈ X.decl))) || decide (w ∈ X.labs))=false) -> (declR Kb r (s.text.take (i+1))).1=0 /\ (declR Kb r (s.text.take (i+1))).2={ X with decl:=X.decl++[w],now:={ X.now with cs:=X.now.cs++[w] } }:=fun hc=>by
   rw [hone]
   simp only [declR]
   rw [if_neg (by rw [hc]; simp),hKt]
   exact ⟨rfl,rfl⟩
  cases ha:actR X.now w with
  | true =>
   rw [ha] at cS
   simp -implicitDefEqProofs [lp0_73,hlt,hi,<- hw,E1,E2,E3]
   refine callk cS rfl rfl ?_
   simp -implicitDefEqProofs [E1,E2,E3]
   exact err (by simp [ha]) _ _ (Low.app _ _ _) (by simp [deferred,dslot]) (by simp [evalRes,evalRes1])
  | false =>
   rw [ha] at cS
   simp -implicitDefEqProofs [lp0_73,hlt,hi,<- hw,E1,E2,E3]
   refine callk cS rfl rfl ?_
   simp -implicitDefEqProofs [E1,E2,E3]
   refine callk cD rfl rfl ?_
   by_cases hdl:w ∈ X.decl
   .simp -implicitDefEqProofs [E1,E2,E3,hdl]
    exact err (by simp [hdl,hKt]) _ _ (Low.app _ _ _) (by simp [deferred,dslot]) (by simp [evalRes,evalRes1])
   simp -implicitDefEqProofs [E1,E2,E3,hdl]
   refine callk cL rfl rfl ?_
   by_cases hl:w ∈ X.labs
   .simp -implicitDefEqProofs [E1,E2,E3,hl]
    exact err (by simp [hl]) _ _ (Low.app _ _ _) (by simp [deferred,dslot]) (by simp [evalRes,evalRes1])
   simp -implicitDefEqProofs [E1,E2,E3,hl]
   refine callk wD rfl rfl ?_
   simp -implicitDefEqProofs [E1,E2,E3]
   refine callk (withR_c X.now.cs w VC e.cs (by omega)) rfl rfl ?_
   simp -implicitDefEqProofs [E1,E2,E3,wi]
   obtain ⟨g1,g2⟩:=going (by simp [ha,hl,hdl])
   refine ⟨⟨i+1,.sl 1 ((X.now.cs++[w]).map sv) .any,VV,VH,VA,VO,VP,VL,.sl 1 ((X.decl++[w]).map sv) .any,VF⟩,by simp; omega,⟨by simp; omega,g1,?_⟩,le_of (by simp [dslot]),by simp⟩
   simp only
   rw [g2]
   exact { e with cs:=fl_any 1 _,decl:=fl_any 1 _ }
 .simp -implicitDefEqProofs [code_73,res_73,ann_73,E1,E2,E3,encSt,hk]
  refine AWp.till (S:=DcS) ⟨0,VC,VV,VH,VA,VO,VP,VL,VD,VF⟩ (fun x=>s.text.length - x.i) [2,3,4,6] (fun x=>[(7,i64 (x.i:Int))])
   (fun x=>h++[.cells 0 [x.VC,x.VV,x.VH,x.VA,i64 (r.now.d:Int),x.VO,x.VP,x.VL,x.VD,x.VF],.cells 0 zeroS])
   (fun x=>x.i <= s.text.length /\ (declR Kb r (s.text.take x.i)).1=0 /\ EncC (declR Kb r (s.text.take x.i)).2 x.VC x.VV x.VH x.VA x.VO x.VP x.VL x.VD x.VF) mixed ⟨by simp,by simp [declR],by simpa [declR] using e⟩ (le_of (by simp [dslot])) rfl ?_
  clear e E1 E2 E3
  rintro ⟨i,VC,VV,VH,VA,VO,VP,VL,VD,VF⟩ ⟨z1,z2,e⟩
  simp only at z1 z2 e
  have bX:=hb i
  have hXd:=declR_d Kb (s.text.take i) r
  obtain ⟨X,hX⟩:∃ X,X=(declR Kb r (s.text.take i)).2:=⟨_,rfl⟩
  rw [<- hX] at e bX hXd
  have E1:=e.ones
  have E2:=e.pends
  have E3:=e.cellsE
  by_cases hi:i < s.text.length
  case neg =>
   have hno:¬ (i:Int) < s.text.length:=by omega
   obtain rfl:i=s.text.length:=by omega
   rw [List.take_length] at z2 hX
   simp -implicitDefEqProofs [lp0_73,hno,E1,E2,E3]
   exact retPR (v:=.tup [stV (r.now.d:Int) VC VV VH VA VO VP VL VD VF,i64 0]) (by simp [deferred,dslot]) (by simp [evalRes,evalRes1]) (e.pur _ _) (Low.app _ _ _) ⟨VC,VV,VH,VA,VO,VP,VL,VD,VF,by rw [z2,<- hX,hXd],rfl,by rw [<- hX]; exact e⟩
  have hlt:(i:Int) < s.text.length:=by omega
  have wi:IntKind.i64.wrap ((i:Int)+1)=(i:Int)+1:=IntWalk.i64_in _ (by omega)
  obtain ⟨w,hw⟩:∃ w,w=s.text[i]:=⟨_,rfl⟩
  have hw2:s.text[i]?=some w:=by rw [hw]; simp [hi]
  have hdw:s.text.drop i=w :: s.text.drop (i+1):=by rw [List.drop_eq_getElem_cons hi,<- hw]
  have hall:declR Kb r s.text=declR Kb X (w :: s.text.drop (i+1)):=by
   conv=>lhs; rw [<- List.take_append_drop i s.text,declR_app,if_pos z2,<- hX,hdw]
  have hone:declR Kb r (s.text.take (i+1))=declR Kb X [w]:=by
   rw [List.take_add_one,hw2,declR_app,if_pos z2,<- hX]; rfl
  have bnd:=bX.now X.now (List.mem_cons_self ..)
  have bd1:=bX.decl
  have bd2:=bX.labs
  have cS:=symbol_c e bX (r.now.d:Int) w (h:=h++[.cells 0 [VC,VV,VH,VA,i64 (r.now.d:Int),VO,VP,VL,VD,VF],.cells 0 zeroS])
  have cD:=hasR_c X.decl w VD e.decl (by omega) (h:=h++[.cells 0 [VC,VV,VH,VA,i64 (r.now.d:Int),VO,VP,VL,VD,VF],.cells 0 zeroS])
  have cL:=hasR_c X.labs w VL e.labs (by omega) (h:=h++[.cells 0 [VC,VV,VH,VA,i64 (r.now.d:Int),VO,VP,VL,VD,VF],.cells 0 zeroS])
  have wD:=withR_c X.decl w VD e.decl (by omega) (h:=h++[.cells 0 [VC,VV,VH,VA,i64 (r.now.d:Int),VO,VP,VL,VD,VF],.cells 0 zeroS])
  have err:(((actR X.now w || (Kb && decide (w ∈ X.decl))) || decide (w ∈ X.labs))=true) -> ∀ env H',Low h.length h H' -> deferred env=some [] -> evalRes Gl env H' [ResA.cell 4 (Ty.agg 10),ResA.t 5]=some (.tup [stV (r.now.d:Int) VC VV VH VA VO VP VL VD VF,i64 61]) ->
    retPost PP Gl h [ResA.cell 4 (Ty.agg 10),ResA.t 5] (StP h (declR Kb r s.text)) .ret env H':=fun hc env H' low hd1 hv=>by
   have h61:declR Kb r s.text=(61,X):=by rw [hall]; simp only [declR]; rw [if_pos hc]
   exact retPR hd1 hv (e.pur _ _) low ⟨VC,VV,VH,VA,VO,VP,VL,VD,VF,by rw [h61]; simp only; rw [hXd],rfl,by rw [h61]; exact e⟩
  have going:(((actR X.now w || (Kb && decide (w ∈ X.decl))) || decide (w ∈ X.labs))=false) -> (declR Kb r (s.text.take (i+1))).1=0 /\ (declR Kb r (s.text.take (i+1))).2={ X with decl:=X.decl++[w],now:={ X.now with vs:=X.now.vs++[w] } }:=fun hc=>by
   rw [hone]
   simp only [declR]
   rw [if_neg (by rw [hc]; simp),hKt]
   exact ⟨rfl,rfl⟩
  cases ha:actR X.now w with
  | true =>
   rw [ha] at cS
   simp -implicitDefEqProofs [lp0_73,hlt,hi,<- hw,E1,E2,E3]
   refine callk cS rfl rfl ?_
   simp -implicitDefEqProofs [E1,E2,E3]
   exact err (by simp [ha]) _ _ (Low.app _ _ _) (by simp [deferred,dslot]) (by simp [evalRes,evalRes1])
  | false =>
   rw [ha] at cS
   simp -implicitDefEqProofs [lp0_73,hlt,hi,<- hw,E1,E2,E3]
   refine callk cS rfl rfl ?_
   simp -implicitDefEqProofs [E1,E2,E3]
   refine callk cL rfl rfl ?_
   by_cases hl:w ∈ X.labs
   .simp -implicitDefEqProofs [E1,E2,E3,hl]
    exact err (by simp [hl]) _ _ (Low.app _ _ _) (by simp [deferred,dslot]) (by simp [evalRes,evalRes1])
   simp -implicitDefEqProofs [E1,E2,E3,hl]
   refine callk wD rfl rfl ?_
   simp -implicitDefEqProofs [E1,E2,E3]
   refine callk (withR_c X.now.vs w VV e.vs (by omega)) rfl rfl ?_
   simp -implicitDefEqProofs [E1,E2,E3,wi]
   obtain ⟨g1,g2⟩:=going (by simp [ha,hl,hKt])
   refine ⟨⟨i+1,VC,.sl 1 ((X.now.vs++[w]).map sv) .any,VH,VA,VO,VP,VL,.sl 1 ((X.decl++[w]).map sv) .any,VF⟩,by simp; omega,⟨by simp; omega,g1,?_⟩,le_of (by simp [dslot]),by simp⟩
   simp only
   rw [g2]
   exact { e with vs:=fl_any 1 _,decl:=fl_any 1 _ }
end Go.Apx
end
