/- Walks: constants, variables, float. -/
import Derived.Test.YtmgajcmigkcmdaaGreatDoorNI
set_option linter.unusedVariables false
set_option linter.unusedSimpArgs false
set_option linter.unnecessarySimpa false
section
namespace Go.Apx
open Go.Proofs Go.Shelf
set_option maxRecDepth 4000
structure XS where
 i:Nat
 X:Sx
 H:AHeap
def SE (B:Nat) (H:AHeap) (x:Sx):Prop:=∃ ρ VC VV VH VA VL T,SR ρ B H x VC VV VH VA VL T
def conLoop:Sx -> List ByteArray -> Int × Sx
 | x,[]=>(0,x)
 | x,c :: r=>if has x.con c || (has x.dec c || has x.lab c) then (61,x) else conLoop { x with con:=sset x.con c true,cs:=x.cs++[c] } r
def conF (x:Sx) (s:St):Int × Sx:=if x.d ≠ 0 then (60,x) else conLoop x s.text
theorem conLoop_step (x:Sx) (l:List ByteArray) (i:Nat) (c:ByteArray) (h:l[i]?=some c):conLoop x (l.drop i) =
  if has x.con c || (has x.dec c || has x.lab c) then (61,x) else conLoop { x with con:=sset x.con c true,cs:=x.cs++[c] } (l.drop (i+1)):=by
 obtain ⟨hl,rfl⟩:=List.getElem?_eq_some_iff.1 h
 rw [List.drop_eq_getElem_cons hl]; rfl
section
variable {ρ ρ':Nat -> Nat} {B:Nat} {H H':AHeap} {x:Sx} {VC VV VH VA VL:AV} {T:Nat}
set_option maxHeartbeats 8000000 in
theorem con_c (hR:SR ρ B H x VC VV VH VA VL T) (a:Int) (s:St) (hl:s.text.length <= 2 ^ 20) (hcs:x.cs.length <= 2 ^ 20):ACalls PP Gl 56 [.ptr (B+6) 0 0,i64 a,encSt s] H (StepP B H (conF x s)):=by
 have h1:=hR.st
 refine enter_56 (by simp) ?_
 by_cases ed:x.d ≠ 0
 .have ed':¬ (x.d:Int)=0:=by omega
  simp -implicitDefEqProofs [code_56,res_56,ann_56,encSt,h1,ed']
  have:¬ x.d=0:=ed
  simp -implicitDefEqProofs [this]
  exact ret1 (v:=i64 60) (by simp [deferred,dslot]) rfl (by unfold conF; rw [if_pos ed]; exact ⟨rfl,.refl _ _,fun e=>by simp at e⟩)
 have ed0:x.d=0:=by omega
 simp -implicitDefEqProofs [code_56,res_56,ann_56,encSt,h1,ed0]
 obtain ⟨l,hl0⟩:∃ l,l=s.text:=⟨_,rfl⟩
 rw [<- hl0] at hl ⊢
 have hcF:conF x s=conLoop x l:=by unfold conF; rw [if_neg ed,hl0]
 refine AWp.till (S:=XS) ⟨0,x,H⟩ (fun s=>l.length - s.i) [0,1,5,16,17] (fun s=>[(18,i64 (s.i:Int))]) (fun s=>s.H)
  (fun s=>s.i <= l.length /\ conLoop s.X (l.drop s.i)=conLoop x l /\ s.X.cs.length <= x.cs.length+s.i /\ Low B H s.H /\ SE B s.H s.X) mixed ⟨by simp,by simp,by simp,.refl _ _,_,_,_,_,_,_,_,hR⟩ (le_of (by simp [dslot])) rfl ?_
 rintro ⟨i,X,H1⟩ ⟨z1,z2,z3,z4,ρ1,VC1,VV1,VH1,VA1,VL1,T1,hR1⟩
 simp only at z1 z2 z3 z4 hR1
 by_cases hi:i < l.length
 case neg =>
  have hno:¬ (i:Int) < l.length:=by omega
  obtain rfl:i=l.length:=by omega
  rw [List.drop_length] at z2
  simp -implicitDefEqProofs [lp0_56,hno]
  exact ret1 (v:=i64 0) (by simp [deferred,dslot]) rfl (by rw [hcF,<- z2]; exact ⟨rfl,z4,fun _=>⟨_,_,_,_,_,_,_,hR1⟩⟩)
 have hlt:(i:Int) < l.length:=by omega
 have wi:IntKind.i64.wrap ((i:Int)+1)=(i:Int)+1:=IntWalk.i64_in _ (by omega)
 obtain ⟨w,hw⟩:∃ w,w=l[i]:=⟨_,rfl⟩
 have hw2:l[i]?=some w:=by rw [hw]; simp [hi]
 have hstep:=conLoop_step X l i w hw2
 rw [z2] at hstep
 have g1:=hR1.st
 have g2:=hR1.con
 have g3:=hR1.dec
 have g4:=hR1.lab
 have bad:(has X.con w || (has X.dec w || has X.lab w))=true -> StepP B H (conF x s) (.ret (i64 61)) H1:=fun he=>by
  rw [hcF,hstep,if_pos he]
  exact ⟨rfl,z4,fun h=>by simp at h⟩
 cases e1:has X.con w with
 | true =>
  simp -implicitDefEqProofs [lp0_56,hlt,hi,<- hw,g1,g2,g3,g4,e1]
  exact ret1 (v:=i64 61) (by simp [deferred,dslot]) rfl (bad (by simp [e1]))
 | false =>
  cases e2:has X.dec w with
  | true =>
   simp -implicitDefEqProofs [lp0_56,hlt,hi,<- hw,g1,g2,g3,g4,e1,e2]
   exact ret1 (v:=i64 61) (by simp [deferred,dslot]) rfl (bad (by simp [e2]))
  | false =>
   cases e3:has X.lab w with
   | true =>
    simp -implicitDefEqProofs [lp0_56,hlt,hi,<- hw,g1,g2,g3,g4,e1,e2,e3]
    exact ret1 (v:=i64 61) (by simp [deferred,dslot]) rfl (bad (by simp [e3]))
   | false =>
    rw [if_neg (by simp [e1,e2,e3])] at hstep
    have hR2:=hR1.con' (sset X.con w true)
    obtain ⟨H2,hH2⟩:∃ H2,H2=H1.set B (.amap (smap bv (sset X.con w true))):=⟨_,rfl⟩
    have low2:Low B H1 H2:=by rw [hH2]; exact Low.set (Nat.le_refl _)
    rw [<- hH2] at hR2
    have g5:H2[B+6]?=some (.cells 0 (stCells B VC1 VV1 VH1 VA1 VL1 X.d)):=hR2.st
    have hvc:VC1=apd 1 (X.cs.map sv) T1:=hR2.vc
    have htk:X.cs.map sv ≠ [] -> H2[T1]?=some (.tok (X.cs.map sv).length):=fun h=>by rw [List.length_map]; exact (hR2.tk (by simpa using h)).1
    obtain ⟨ρ3,hR3⟩:=hR2.pushC w
    subst hvc
    simp -implicitDefEqProofs [lp0_56,hlt,hi,<- hw,g1,g2,g3,g4,e1,e2,e3]
    rw [<- hH2]
    have g6:(apG H2 X.cs.length 1 T1)[B+6]?=some (.cells 0 (stCells B (apd 1 (X.cs.map sv) T1) VV1 VH1 VA1 VL1 X.d)):=apG_keep g5 (fun hn e=>by
     have:=(hR2.tk (fun e=>hn (by simp only at e; rw [e]; rfl))).2.1
     omega)
    have low3:Low B H2 (apG H2 X.cs.length 1 T1):=Low.apG (fun hn=>by have:=(hR2.tk (fun e=>hn (by simp only at e; rw [e]; rfl))).2.1; omega) (by have:=hR2.len; omega)
    refine appG (X.cs.map sv) [sv w] T1 (by simp) (by simp) htk (by simp; unfold maxLenA; omega) ?_
    simp -implicitDefEqProofs [wi,g6]
    refine ⟨⟨i+1,{ X with con:=sset X.con w true,cs:=X.cs++[w] },_⟩,by simp; omega,⟨by simp; omega,hstep.symm,by simp; omega,((z4.trans low2).trans low3).trans (Low.set (by omega)),?_⟩,le_of (by simp [dslot]),rfl⟩
    have:=hR3
    simp at this
    exact ⟨_,_,_,_,_,_,_,this⟩
def varLoop:Sx -> List ByteArray -> Int × Sx
 | x,[]=>(0,x)
 | x,c :: r=>if has x.con c || (has x.act c || has x.lab c) then (61,x) else varLoop { x with act:=sset x.act c true,dec:=sset x.dec c true,vs:=x.vs++[c] } r
def varF (x:Sx) (s:St):Int × Sx:=varLoop x s.text
theorem varLoop_step (x:Sx) (l:List ByteArray) (i:Nat) (c:ByteArray) (h:l[i]?=some c):varLoop x (l.drop i) =
  if has x.con c || (has x.act c || has x.lab c) then (61,x) else varLoop { x with act:=sset x.act c true,dec:=sset x.dec c true,vs:=x.vs++[c] } (l.drop (i+1)):=by
 obtain ⟨hl,rfl⟩:=List.getElem?_eq_some_iff.1 h
 rw [List.drop_eq_getElem_cons hl]; rfl
set_option maxHeartbeats 8000000 in
theorem var_c (hR:SR ρ B H x VC VV VH VA VL T) (a:Int) (s:St) (hl:s.text.length <= 2 ^ 20) (hvs:x.vs.length <= 2 ^ 20):ACalls PP Gl 57 [.ptr (B+6) 0 0,i64 a,encSt s] H (StepP B H (varF x s)):=by
 refine enter_57 (by simp) ?_
 simp -implicitDefEqProofs [code_57,res_57,ann_57,encSt]
 obtain ⟨l,hl0⟩:∃ l,l=s.text:=⟨_,rfl⟩
 rw [<- hl0] at hl ⊢
 have hcF:varF x s=varLoop x l:=by unfold varF; rw [hl0]
 refine AWp.till (S:=XS) ⟨0,x,H⟩ (fun s=>l.length - s.i) [0,1,5,10,11] (fun s=>[(12,i64 (s.i:Int))]) (fun s=>s.H)
  (fun s=>s.i <= l.length /\ varLoop s.X (l.drop s.i)=varLoop x l /\ s.X.vs.length <= x.vs.length+s.i /\ Low B H s.H /\ SE B s.H s.X) mixed ⟨by simp,by simp,by simp,.refl _ _,_,_,_,_,_,_,_,hR⟩ (le_of (by simp [dslot])) rfl ?_
 rintro ⟨i,X,H1⟩ ⟨z1,z2,z3,z4,ρ1,VC1,VV1,VH1,VA1,VL1,T1,hR1⟩
 simp only at z1 z2 z3 z4 hR1
 by_cases hi:i < l.length
 case neg =>
  have hno:¬ (i:Int) < l.length:=by omega
  obtain rfl:i=l.length:=by omega
  rw [List.drop_length] at z2
  simp -implicitDefEqProofs [lp0_57,hno]
  exact ret1 (v:=i64 0) (by simp [deferred,dslot]) rfl (by rw [hcF,<- z2]; exact ⟨rfl,z4,fun _=>⟨_,_,_,_,_,_,_,hR1⟩⟩)
 have hlt:(i:Int) < l.length:=by omega
 have wi:IntKind.i64.wrap ((i:Int)+1)=(i:Int)+1:=IntWalk.i64_in _ (by omega)
 obtain ⟨w,hw⟩:∃ w,w=l[i]:=⟨_,rfl⟩
 have hw2:l[i]?=some w:=by rw [hw]; simp [hi]
 have hstep:=varLoop_step X l i w hw2
 rw [z2] at hstep
 have g1:=hR1.st
 have g2:=hR1.con
 have g3:=hR1.act
 have g4:=hR1.lab
 have g5:=hR1.dec
 have bad:(has X.con w || (has X.act w || has X.lab w))=true -> StepP B H (varF x s) (.ret (i64 61)) H1:=fun he=>by
  rw [hcF,hstep,if_pos he]
  exact ⟨rfl,z4,fun h=>by simp at h⟩
 cases e1:has X.con w with
 | true =>
  simp -implicitDefEqProofs [lp0_57,hlt,hi,<- hw,g1,g2,g3,g4,e1]
  exact ret1 (v:=i64 61) (by simp [deferred,dslot]) rfl (bad (by simp [e1]))
 | false =>
  cases e2:has X.act w with
  | true =>
   simp -implicitDefEqProofs [lp0_57,hlt,hi,<- hw,g1,g2,g3,g4,e1,e2]
   exact ret1 (v:=i64 61) (by simp [deferred,dslot]) rfl (bad (by simp [e2]))
  | false =>
   cases e3:has X.lab w with
   | true =>
    simp -implicitDefEqProofs [lp0_57,hlt,hi,<- hw,g1,g2,g3,g4,e1,e2,e3]
    exact ret1 (v:=i64 61) (by simp [deferred,dslot]) rfl (bad (by simp [e3]))
   | false =>
    rw [if_neg (by simp [e1,e2,e3])] at hstep
    have hR2:=(hR1.act' (sset X.act w true)).dec' (sset X.dec w true)
    obtain ⟨H2,hH2⟩:∃ H2,H2=(H1.set (B+2) (.amap (smap bv (sset X.act w true)))).set (B+1) (.amap (smap bv (sset X.dec w true))):=⟨_,rfl⟩
    have low2:Low B H1 H2:=by rw [hH2]; exact (Low.set (by omega)).trans (Low.set (by omega))
    rw [<- hH2] at hR2
    have g5':(H1.set (B+2) (.amap (smap bv (sset X.act w true))))[B+1]?=some (.amap (smap bv X.dec)):=by rw [List.getElem?_set_ne (by omega)]; exact g5
    have g6:H2[B+6]?=some (.cells 0 (stCells B VC1 VV1 VH1 VA1 VL1 X.d)):=hR2.st
    obtain ⟨VV2,H3,ρ3,e4,o3,l3,r3,k3⟩:=hR2.vv.push 16 [sv w] (by simp [AV.cells]) hR2.len (by simp [maxLenA]; omega)
    have pv:=hR1.vv.pend
    have ov:=hR1.vv.one
    have pv':=o3.pend
    have cv':=o3.cells
    have ov':=o3.one
    have eg:=e4 Gl (.sl 1 [sv w] .full) (by simp [elems]) rfl
    have g7:H3[B+6]?=some (.cells 0 (stCells B VC1 VV1 VH1 VA1 VL1 X.d)):=by rw [k3 _ (lt_of g6) (.inl (by omega))]; exact g6
    have hl2:List.length H2=List.length H1:=by rw [hH2]; simp
    simp [hl2] at eg
    simp -implicitDefEqProofs [lp0_57,hlt,hi,<- hw,g1,g2,g3,g4,g5,g5',e1,e2,e3]
    rw [<- hH2]
    simp -implicitDefEqProofs [g6,g7,pv,ov,pv',cv',ov',eg,wi]
    have fin:=hR2.pushV [w] o3 l3 r3 k3
    exact ⟨⟨i+1,{ X with act:=sset X.act w true,dec:=sset X.dec w true,vs:=X.vs++[w] },_⟩,by simp; omega,⟨by simp; omega,hstep.symm,by simp; omega,((z4.trans low2).trans (low_push k3)).trans (Low.set (by omega)),_,_,_,_,_,_,_,fin⟩,le_of (by simp [dslot]),rfl⟩
end
end Go.Apx
end
section
namespace Go.Apx
open Go.Proofs Go.Shelf
set_option maxRecDepth 4000
section
variable {ρ ρ':Nat -> Nat} {B:Nat} {H H':AHeap} {x:Sx} {VC VV VH VA VL:AV} {T:Nat}
def typBad (x:Sx) (c v:ByteArray):Bool:=match sfind x.typ v with | some d=>decide (d ≠ c) | none=>false
def floE (x:Sx) (c v:ByteArray):Int :=
 if (has x.con c || has x.act c)=false then 63 else if has x.con c=false then 64 else if (has x.con v || has x.act v)=false then 63 else if has x.act v=false then 64
 else if has x.flo v=true \/ typBad x c v=true then 65 else 0
def floX (x:Sx) (s:St) (c v:ByteArray):Sx:={ labX x s.label with typ:=sset x.typ v c,flo:=sset x.flo v true,hs:=x.hs++[⟨s.label,true,[c,v]⟩] }
def floF (x:Sx) (s:St) (c v:ByteArray):Int × Sx:=if labF2 x s.label=true then (62,x) else if floE x c v ≠ 0 then (floE x c v,labX x s.label) else (0,floX x s c v)
@[simp] theorem getD_sv (o:Option ByteArray) (n:ByteArray):(o.map sv).getD (.sc (.string n))=.sc (.string (o.getD n)):=by cases o <;> rfl
@[simp] theorem amapSet_sv (l:List (ByteArray × ByteArray)) (s n:ByteArray):amapSet (.sc (.string s)) (.sc (.string n)) (smap sv l)=some (smap sv (sset l s n)):=amapSet_smap sv l s n
set_option maxHeartbeats 16000000 in
theorem flo_c (hR:SR ρ B H x VC VV VH VA VL T) (a:Int) (s:St) (c v:ByteArray) (ht:s.text=[c,v]) (hc:s.tc ≠ .nil) (hhs:x.hs.length <= 2 ^ 20):ACalls PP Gl 58 [.ptr (B+6) 0 0,i64 a,encSt s] H (StepP B H (floF x s c v)):=by
 have hlab:=label_c hR s.label
 refine enter_58 (by simp) ?_
 simp -implicitDefEqProofs [code_58,res_58,ann_58,encSt,ht]
 refine callk hlab rfl rfl ?_
 by_cases e:labF2 x s.label=true
 .rw [if_pos e,if_pos e]
  simp -implicitDefEqProofs
  exact ret1 (v:=i64 62) (by simp [deferred,dslot]) rfl (by unfold floF; rw [if_pos e]; exact ⟨rfl,.refl _ _,fun e=>by simp at e⟩)
 rw [if_neg e,if_neg e]
 have hR1:=hR.lab' (sset x.lab s.label true)
 have lowL:Low B H (H.set (B+3) (.amap (smap bv (sset x.lab s.label true)))):=Low.set (by omega)
 obtain ⟨H1,hH1⟩:∃ H1,H1=H.set (B+3) (.amap (smap bv (sset x.lab s.label true))):=⟨_,rfl⟩
 rw [<- hH1] at hR1 lowL ⊢
 have g1:H1[B+6]?=some (.cells 0 (stCells B VC VV VH VA VL x.d)):=hR1.st
 have g2:H1[B]?=some (.amap (smap bv x.con)):=hR1.con
 have g3:H1[B+2]?=some (.amap (smap bv x.act)):=hR1.act
 have g4:H1[B+4]?=some (.amap (smap sv x.typ)):=hR1.typ
 have g5:H1[B+5]?=some (.amap (smap bv x.flo)):=hR1.flo
 have hac:AEx PP Gl 88 [.ptr (B+6) 0 0,sv c] H1 (.ret (.sc (.bool (has x.con c || has x.act c)))) H1:=isActive_c hR1 c
 have hav:AEx PP Gl 88 [.ptr (B+6) 0 0,sv v] H1 (.ret (.sc (.bool (has x.con v || has x.act v)))) H1:=isActive_c hR1 v
 have bad:∀ n:Int,n ≠ 0 -> floE x c v=n -> StepP B H (floF x s c v) (.ret (i64 n)) H1:=fun n hn he=>by
  unfold floF
  rw [if_neg e,he,if_pos hn]
  exact ⟨rfl,lowL,fun h=>(hn h).elim⟩
 simp -implicitDefEqProofs [g1,g4]
 refine callk hac rfl rfl ?_
 cases e1:(has x.con c || has x.act c) with
 | false =>
  simp -implicitDefEqProofs
  exact ret1 (v:=i64 63) (by simp [deferred,dslot]) rfl (bad 63 (by decide) (by unfold floE; rw [if_pos e1]))
 | true =>
  cases e2:has x.con c with
  | false =>
   simp -implicitDefEqProofs [g1,g2,e2]
   exact ret1 (v:=i64 64) (by simp [deferred,dslot]) rfl (bad 64 (by decide) (by unfold floE; rw [if_neg (by rw [e1]; simp),if_pos e2]))
  | true =>
   simp -implicitDefEqProofs [g1,g2,e2]
   refine callk hav rfl rfl ?_
   cases e3:(has x.con v || has x.act v) with
   | false =>
    simp -implicitDefEqProofs
    exact ret1 (v:=i64 63) (by simp [deferred,dslot]) rfl (bad 63 (by decide) (by unfold floE; rw [if_neg (by rw [e1]; simp),if_neg (by rw [e2]; simp),if_pos e3]))
   | true =>
    cases e4:has x.act v with
    | false =>
     simp -implicitDefEqProofs [g1,g3,e4]
     exact ret1 (v:=i64 64) (by simp [deferred,dslot]) rfl (bad 64 (by decide) (by unfold floE; rw [if_neg (by rw [e1]; simp),if_neg (by rw [e2]; simp),if_neg (by rw [e3]; simp),if_pos e4]))
    | true =>
     have rest:floE x c v=if has x.flo v=true \/ typBad x c v=true then 65 else 0:=by
      unfold floE; rw [if_neg (by rw [e1]; simp),if_neg (by rw [e2]; simp),if_neg (by rw [e3]; simp),if_neg (by rw [e4]; simp)]
     cases e5:has x.flo v with
     | true =>
      simp -implicitDefEqProofs [g1,g3,e4,g5,e5]
      exact ret1 (v:=i64 65) (by simp [deferred,dslot]) rfl (bad 65 (by decide) (by rw [rest,if_pos (.inl e5)]))
     | false =>
      have hR2:=(hR1.typ' (sset x.typ v c)).flo' (sset x.flo v true)
      obtain ⟨H2,hH2⟩:∃ H2,H2=(H1.set (B+4) (.amap (smap sv (sset x.typ v c)))).set (B+5) (.amap (smap bv (sset x.flo v true))):=⟨_,rfl⟩
      have low2:Low B H1 H2:=by rw [hH2]; exact (Low.set (by omega)).trans (Low.set (by omega))
      rw [<- hH2] at hR2
      have g5':(H1.set (B+4) (.amap (smap sv (sset x.typ v c))))[B+5]?=some (.amap (smap bv x.flo)):=by rw [List.getElem?_set_ne (by omega)]; exact g5
      have g6:H2[B+6]?=some (.cells 0 (stCells B VC VV VH VA VL x.d)):=hR2.st
      obtain ⟨VH2,H3,ρ3,e6,o3,l3,r3,k3⟩:=hR2.vh.push 48 [.agg [sv s.label,.sc (.bool true),.sl 1 ([c,v].map sv) .any]] (by simp [AV.cells]) hR2.len (by simp [maxLenA]; omega)
      have ph:=hR1.vh.pend
      have oh:=hR1.vh.one
      have ph':=o3.pend
      have ch':=o3.cells
      have oh':=o3.one
      have eg:=e6 Gl (.sl 3 [.agg [sv s.label,.sc (.bool true),.sl 1 ([c,v].map sv) .any]] .full) (by simp [elems]) rfl
      have g7:H3[B+6]?=some (.cells 0 (stCells B VC VV VH VA VL x.d)):=by rw [k3 _ (lt_of g6) (.inl (by omega))]; exact g6
      have hl2:List.length H2=List.length H1:=by rw [hH2]; simp
      simp at eg
      have hcl:=cloneFz [c,v] s.tc hc (by simp) (by simp) (h:=H2)
      simp at hcl
      have fin:=hR2.pushH [⟨s.label,true,[c,v]⟩] o3 l3 r3 k3
      have low:Low B H (H3.set (B+6) (.cells 0 (stCells B VC VV VH2 VA VL x.d))):=((lowL.trans low2).trans (low_push k3)).trans (Low.set (by omega))
      have good:floE x c v=0 -> StepP B H (floF x s c v) (.ret (i64 0)) (H3.set (B+6) (.cells 0 (stCells B VC VV VH2 VA VL x.d))):=fun h0=>by
       unfold floF
       rw [if_neg e,if_neg (by simpa using h0)]
       exact ⟨rfl,low,fun _=>⟨_,_,_,_,_,_,_,fin⟩⟩
      cases hT:sfind x.typ v with
      | none =>
       simp -implicitDefEqProofs [g1,g3,e4,g5,e5,hT,g4,g5']
       rw [<- hH2]
       refine callk hcl rfl rfl ?_
       simp -implicitDefEqProofs [g6,g7,ph,oh,ph',ch',oh',eg]
       exact ret1 (v:=i64 0) (by simp [deferred,dslot]) (by simp [evalRes,evalRes1]) (good (by rw [rest,if_neg (by simp [typBad,hT,e5])]))
      | some d =>
       by_cases hd:d=c
       .simp -implicitDefEqProofs [g1,g3,e4,g5,e5,hT,hd,g4,g5']
        rw [<- hH2]
        refine callk hcl rfl rfl ?_
        simp -implicitDefEqProofs [g6,g7,ph,oh,ph',ch',oh',eg]
        exact ret1 (v:=i64 0) (by simp [deferred,dslot]) (by simp [evalRes,evalRes1]) (good (by rw [rest,if_neg (by simp [typBad,hT,hd,e5])]))
       .simp -implicitDefEqProofs [g1,g3,e4,g5,e5,hT,hd]
        exact ret1 (v:=i64 65) (by simp [deferred,dslot]) rfl (bad 65 (by decide) (by rw [rest,if_pos (.inr (by unfold typBad; rw [hT]; simpa using hd))]))
end
end Go.Apx
end
section
namespace Go.Apx
open Go.Proofs Go.Shelf
set_option maxRecDepth 4000
def delL (m:List (ByteArray × Bool)) (l:List ByteArray):List (ByteArray × Bool):=l.foldl sdel m
def Hy.var (h:Hy):ByteArray:=(h.text[1]?).getD ⟨#[]⟩
def delH (m:List (ByteArray × Bool)) (l:List Hy):List (ByteArray × Bool):=l.foldl (fun m h=>if h.fl=true then sdel m h.var else m) m
def closeX (x:Sx) (n:Nat) (L:Lv):Sx:={ x with d:=n,lv:=x.lv.take n,act:=delL x.act (x.vs.drop L.nv),flo:=delH x.flo (x.hs.drop L.nh),vs:=x.vs.take L.nv,hs:=x.hs.take L.nh,ap:=x.ap.take L.na }
def closeF (x:Sx):Int × Sx:=if x.d=0 then (67,x) else match x.lv[x.d - 1]? with | some L=>(0,closeX x (x.d - 1) L) | none=>(0,x)
structure LvOk (x:Sx):Prop where
 len:x.lv.length=x.d
 le:∀ L ∈ x.lv,L.nv <= x.vs.length /\ L.nh <= x.hs.length /\ L.na <= x.ap.length
 tx:∀ h ∈ x.hs,h.fl=true -> 2 <= h.text.length
section
variable {ρ ρ':Nat -> Nat} {B:Nat} {H H':AHeap} {x:Sx} {VC VV VH VA VL:AV} {T:Nat}
set_option maxHeartbeats 16000000 in
theorem close_c (hR:SR ρ B H x VC VV VH VA VL T) (a:Int) (s:St) (ok:LvOk x) (hd:x.d <= 2 ^ 20) (hvs:x.vs.length <= 2 ^ 20) (hhs:x.hs.length <= 2 ^ 20):ACalls PP Gl 63 [.ptr (B+6) 0 0,i64 a,encSt s] H (StepP B H (closeF x)):=by
 have h1:=hR.st
 refine enter_63 (by simp) ?_
 by_cases ed:x.d=0
 .simp -implicitDefEqProofs [code_63,res_63,ann_63,encSt,h1,ed]
  exact ret1 (v:=i64 67) (by simp [deferred,dslot]) rfl (by unfold closeF; rw [if_pos ed]; exact ⟨rfl,.refl _ _,fun e=>by simp at e⟩)
 obtain ⟨n,hn⟩:∃ n,x.d=n+1:=⟨x.d - 1,by omega⟩
 have hlvl:x.lv.length=n+1:=by rw [ok.len,hn]
 obtain ⟨L,hL⟩:∃ L,x.lv[n]?=some L:=⟨x.lv[n]'(by omega),by simp⟩
 obtain ⟨q1,q2,q3⟩:=ok.le L (List.mem_of_getElem? hL)
 have hcF:closeF x=(0,closeX x n L):=by unfold closeF; rw [if_neg ed,hn,Nat.add_sub_cancel,hL]
 have hsub:((x.d:Int) - 1)=(n:Int):=by omega
 have wi:IntKind.i64.wrap ((x.d:Int) - 1)=(n:Int):=by rw [hsub]; exact IntWalk.i64_in _ (by omega)
 have ed1:¬ (x.d:Int)=0:=by omega
 have hR1:=hR.d' n
 obtain ⟨H1,hH1⟩:∃ H1,H1=H.set (B+6) (.cells 0 (stCells B VC VV VH VA VL (n:Int))):=⟨_,rfl⟩
 have low1:Low B H H1:=by rw [hH1]; exact Low.set (by omega)
 rw [<- hH1] at hR1
 have g1:H1[B+6]?=some (.cells 0 (stCells B VC VV VH VA VL (n:Int))):=hR1.st
 obtain ⟨VL',eL,oL⟩:=hR1.vl.cutTo (m:=n) (by simp only; omega)
 rcases hR1.vl.2 with ⟨h0,_⟩ | ⟨al,gl,zl,hVL,hal,hbl,hrl⟩
 .simp only at h0; omega
 subst hVL
 have hVL':VL'=.rf al gl 0 n (.own 4):=by
  have:=eL Gl []
  simp [show n <= x.lv.length by omega] at this
  exact this.symm
 subst hVL'
 have hR2:=hR1.cutL n (by simp only; omega) oL
 obtain ⟨H2,hH2⟩:∃ H2,H2=H1.set (B+6) (.cells 0 (stCells B VC VV VH VA (.rf al gl 0 n (.own 4)) (n:Int))):=⟨_,rfl⟩
 have low2:Low B H1 H2:=by rw [hH2]; exact Low.set (by omega)
 rw [<- hH2] at hR2
 have g2:H2[B+6]?=some (.cells 0 (stCells B VC VV VH VA (.rf al gl 0 n (.own 4)) (n:Int))):=hR2.st
 have hrow:cut (x.lv.flatMap Lv.cells++zl) (n * 4) 4=[i64 L.at_,i64 (L.nv:Int),i64 (L.nh:Int),i64 (L.na:Int)]:=rowCut (k:=4) (fun _=>rfl) x.lv zl n L hL
 have hal':H1[al]?=some (.cells gl (x.lv.flatMap Lv.cells++zl)):=hal
 have hlenl:n * 4+4 <= (x.lv.flatMap Lv.cells++zl).length:=by rw [List.length_append,rowLen (k:=4) (fun _=>rfl)]; omega
 obtain ⟨LC,hLC⟩:∃ LC,LC=x.lv.flatMap Lv.cells++zl:=⟨_,rfl⟩
 rw [<- hLC] at hrow hal' hlenl
 have hnl:n < x.lv.length:=by omega
 have hnl':n <= x.lv.length:=by omega
 simp -implicitDefEqProofs [code_63,res_63,ann_63,encSt,h1,ed1,wi]
 rw [<- hH1]
 have hrow':List.take 4 (List.drop (n * 4) LC)=[i64 L.at_,i64 (L.nv:Int),i64 (L.nh:Int),i64 (L.na:Int)]:=by simpa [cut] using hrow
 simp -implicitDefEqProofs [g1,hnl,hnl',hal',hrow',hlenl,ed]
 rw [<- hH2]
 have q1':L.nv <= x.vs.length:=q1
 obtain ⟨Vo,eV,pV,onV,cV,lV,rV⟩:=hR2.vv.off (m:=L.nv) q1
 obtain ⟨mv,hmv⟩:∃ m,m=x.vs.length - L.nv:=⟨_,rfl⟩
 have lV':∀ X,evalOp Gl [] X (.len .sl (.c Vo))=some (.sc (.int .i64 (mv:Int)),X):=fun X=>by rw [hmv]; exact lV Gl X
 have eV0:=eV Gl []
 have lV0:=lV' []
 have pvv:=hR2.vv.pend
 have ovv:=hR2.vv.one
 simp at eV0 lV0
 simp -implicitDefEqProofs [g2,pvv,ovv,eV0,lV0,pV,onV]
 refine AWp.till (S:=XS) ⟨0,{ x with d:=n,lv:=x.lv.take n },H2⟩ (fun s=>mv - s.i) [0,7,58,59] (fun s=>[(60,i64 (s.i:Int))]) (fun s=>s.H)
  (fun s=>s.i <= mv /\ s.X={ x with d:=n,lv:=x.lv.take n,act:=delL x.act ((x.vs.drop L.nv).take s.i) } /\ Low B H2 s.H /\ SR ρ B s.H s.X VC VV VH VA (.rf al gl 0 n (.own 4)) T) mixed ⟨by simp,rfl,.refl _ _,hR2⟩ (le_of (by simp [dslot])) rfl ?_
 rintro ⟨i,X,H3⟩ ⟨z1,z2,z3,z4⟩
 simp only at z1 z2 z3 z4
 subst z2
 by_cases hi:i < mv
 case pos =>
  have hlt:(i:Int) < mv:=by omega
  have wi:IntKind.i64.wrap ((i:Int)+1)=(i:Int)+1:=IntWalk.i64_in _ (by omega)
  have hi':i < x.vs.length - L.nv:=by clear z4 hR2 hR1; omega
  have hpos:0 < x.vs.length - L.nv:=by clear z4 hR2 hR1; omega
  have hlen1:L.nv+i < x.vs.length:=by clear z4 hR2 hR1; omega
  obtain ⟨V2,e2,_,_,_,_,r2⟩:=z4.vv.off (m:=L.nv) q1
  have hV2:V2=Vo:=by
   have a1:=e2 Gl []
   have a2:=eV Gl []
   rw [a1] at a2
   exact (Prod.mk.inj (Option.some.inj a2)).1
  obtain ⟨av,gv,zv,rcv,hVo,hav,_,_⟩:=r2 hpos
  rw [hV2] at hVo
  subst hVo
  simp only at hav
  obtain ⟨w,hw⟩:∃ w,x.vs[L.nv+i]?=some w:=⟨x.vs[L.nv+i],by simp⟩
  have hwv:(x.vs.map sv++zv)[L.nv+i]?=some (sv w):=by rw [List.getElem?_append_left (by rw [List.length_map]; exact hlen1),List.getElem?_map,hw]; rfl
  have g3:=z4.st
  have g4:=z4.act
  have hstep:delL x.act ((x.vs.drop L.nv).take (i+1))=sdel (delL x.act ((x.vs.drop L.nv).take i)) w:=by
   unfold delL
   rw [List.take_add_one,List.getElem?_drop,hw,List.foldl_append]; rfl
  have hR4:=z4.act' (sdel (delL x.act ((x.vs.drop L.nv).take i)) w)
  obtain ⟨VCs,hVCs⟩:∃ l,l=x.vs.map sv++zv:=⟨_,rfl⟩
  rw [<- hVCs] at hav hwv
  simp -implicitDefEqProofs [lp0_63,hlt,hi',hav,hwv,g3,g4,wi]
  refine ⟨⟨i+1,_,_⟩,by simp; omega,⟨by simp; omega,?_,z3.trans (Low.set (by omega)),hR4⟩,le_of (by simp [dslot]),rfl⟩
  simp only
  rw [hstep]
 obtain rfl:i=mv:=by omega
 have hno:¬ (i:Int) < i:=by omega
 have htk:(x.vs.drop L.nv).take i=x.vs.drop L.nv:=List.take_of_length_le (by rw [List.length_drop]; clear z4 hR2 hR1; omega)
 rw [htk] at z4
 have g3:H3[B+6]?=some (.cells 0 (stCells B VC VV VH VA (.rf al gl 0 n (.own 4)) (n:Int))):=z4.st
 obtain ⟨Ho,eH,pH,onH,cH,lH,rH⟩:=z4.vh.off (m:=L.nh) q2
 obtain ⟨mh,hmh⟩:∃ m,m=x.hs.length - L.nh:=⟨_,rfl⟩
 have lH':∀ X,evalOp Gl [] X (.len .sl (.c Ho))=some (.sc (.int .i64 (mh:Int)),X):=fun X=>by rw [hmh]; exact lH Gl X
 have eH0:=eH Gl []
 have lH0:=lH' []
 have phh:=z4.vh.pend
 have ohh:=z4.vh.one
 simp at eH0 lH0
 simp -implicitDefEqProofs [lp0_63,hno,g3,phh,ohh,eH0,lH0,pH,onH]
 refine AWp.till (S:=XS) ⟨0,{ x with d:=n,lv:=x.lv.take n,act:=delL x.act (x.vs.drop L.nv) },H3⟩ (fun s=>mh - s.i) [0,7,77,78] (fun s=>[(79,i64 (s.i:Int))]) (fun s=>s.H)
  (fun s=>s.i <= mh /\ s.X={ x with d:=n,lv:=x.lv.take n,act:=delL x.act (x.vs.drop L.nv),flo:=delH x.flo ((x.hs.drop L.nh).take s.i) } /\ Low B H3 s.H /\ SR ρ B s.H s.X VC VV VH VA (.rf al gl 0 n (.own 4)) T) mixed ⟨by simp,rfl,.refl _ _,z4⟩ (le_of (by simp [dslot])) rfl ?_
 rintro ⟨j,X,H4⟩ ⟨y1,y2,y3,y4⟩
 simp only at y1 y2 y3 y4
 subst y2
 by_cases hj:j < mh
 case pos =>
  have hlt:(j:Int) < mh:=by omega
  have wj:IntKind.i64.wrap ((j:Int)+1)=(j:Int)+1:=IntWalk.i64_in _ (by clear z4 hR2 hR1 y4; omega)
  have hj':j < x.hs.length - L.nh:=by clear z4 hR2 hR1 y4; omega
  have hpos:0 < x.hs.length - L.nh:=by clear z4 hR2 hR1 y4; omega
  have hlen1:L.nh+j < x.hs.length:=by clear z4 hR2 hR1 y4; omega
  obtain ⟨V2,e2,_,_,_,_,r2⟩:=y4.vh.off (m:=L.nh) q2
  have hV2:V2=Ho:=by
   have a1:=e2 Gl []
   have a2:=eH Gl []
   rw [a1] at a2
   exact (Prod.mk.inj (Option.some.inj a2)).1
  obtain ⟨av,gv,zv,rcv,hHo,hav,_,_⟩:=r2 hpos
  rw [hV2] at hHo
  subst hHo
  simp only at hav
  obtain ⟨w,hw⟩:∃ w,x.hs[L.nh+j]?=some w:=⟨x.hs[L.nh+j],by simp⟩
  have hrow2:cut (x.hs.flatMap Hy.cells++zv) ((L.nh+j) * 3) 3=Hy.cells w:=rowCut (k:=3) (fun _=>rfl) x.hs zv (L.nh+j) w hw
  have hoff:(L.nh+j) * 3=L.nh * 3+j * 3:=Nat.add_mul _ _ _
  rw [hoff] at hrow2
  have hlen2:L.nh * 3+j * 3+3 <= (x.hs.flatMap Hy.cells++zv).length:=by rw [List.length_append,rowLen (k:=3) (fun _=>rfl)]; clear z4 hR2 hR1 y4; omega
  obtain ⟨HC,hHC⟩:∃ l,l=x.hs.flatMap Hy.cells++zv:=⟨_,rfl⟩
  rw [<- hHC] at hav hrow2 hlen2
  have hrow3:List.take 3 (List.drop (L.nh * 3+j * 3) HC)=[sv w.label,.sc (.bool w.fl),.sl 1 (w.text.map sv) .any]:=hrow2
  have k3:=y4.st
  have k4:=y4.flo
  have hmem:w ∈ x.hs:=List.mem_of_getElem? hw
  have hstep:delH x.flo ((x.hs.drop L.nh).take (j+1))=if w.fl=true then sdel (delH x.flo ((x.hs.drop L.nh).take j)) w.var else delH x.flo ((x.hs.drop L.nh).take j):=by
   unfold delH
   rw [List.take_add_one,List.getElem?_drop,hw,List.foldl_append]; rfl
  cases hfl:w.fl with
  | false =>
   rw [if_neg (by rw [hfl]; simp)] at hstep
   rw [hfl] at hrow3
   simp -implicitDefEqProofs [lp1_63,hlt,hj',hav,hrow3,hlen2,k3,k4,wj]
   refine ⟨⟨j+1,{ x with d:=n,lv:=x.lv.take n,act:=delL x.act (x.vs.drop L.nv),flo:=delH x.flo ((x.hs.drop L.nh).take (j+1)) },H4⟩,by simp; omega,⟨by simp; omega,rfl,y3,?_⟩,le_of (by simp [dslot]),rfl⟩
   simp only
   rw [hstep]
   exact y4
  | true =>
   have htx:=ok.tx w hmem hfl
   rw [if_pos hfl] at hstep
   rw [hfl] at hrow3
   have hv1:w.text[1]?=some w.var:=by unfold Hy.var; rw [List.getElem?_eq_getElem (by omega)]; rfl
   have h1l:1 < w.text.length:=htx
   have hv2:w.text[1]=w.var:=by have:=hv1; rw [List.getElem?_eq_getElem h1l] at this; exact Option.some.inj this
   have hR5:=y4.flo' (sdel (delH x.flo ((x.hs.drop L.nh).take j)) w.var)
   simp -implicitDefEqProofs [lp1_63,hlt,hj',hav,hrow3,hlen2,k3,k4,wj,h1l,hv2]
   refine ⟨⟨j+1,{ x with d:=n,lv:=x.lv.take n,act:=delL x.act (x.vs.drop L.nv),flo:=delH x.flo ((x.hs.drop L.nh).take (j+1)) },_⟩,by simp; omega,⟨by simp; omega,rfl,y3.trans (Low.set (by omega)),?_⟩,le_of (by simp [dslot]),rfl⟩
   simp only
   rw [hstep]
   exact hR5
 obtain rfl:j=mh:=by omega
 have hno2:¬ (j:Int) < j:=by omega
 have htk2:(x.hs.drop L.nh).take j=x.hs.drop L.nh:=List.take_of_length_le (by rw [List.length_drop]; clear z4 hR2 hR1 y4; omega)
 rw [htk2] at y4
 obtain ⟨VV',eVV,oVV⟩:=y4.vv.cutTo (m:=L.nv) q1
 obtain ⟨VH',eVH,oVH⟩:=y4.vh.cutTo (m:=L.nh) q2
 obtain ⟨VA',eVA,oVA⟩:=y4.va.cutTo (m:=L.na) q3
 have fin:=y4.cutVHA L.nv L.nh L.na q1 q2 q3 oVV oVH oVA
 have k3:H4[B+6]?=some (.cells 0 (stCells B VC VV VH VA (.rf al gl 0 n (.own 4)) (n:Int))):=y4.st
 have w1:=eVV Gl []
 have w2:=eVH Gl []
 have w3:=eVA Gl []
 have pav:=y4.va.pend
 have oav:=y4.va.one
 have u1:=oVV.pend
 have u2:=oVV.one
 have u3:=oVV.cells
 have u4:=oVH.pend
 have u5:=oVH.one
 have u6:=oVH.cells
 have u7:=oVA.pend
 have u8:=oVA.one
 have u9:=oVA.cells
 have hl4:∀ y,(List.set H4 (B+6) y)[B+6]?=some y:=fun y=>List.getElem?_set_self (lt_of k3)
 simp at w1 w2 w3
 simp -implicitDefEqProofs [lp1_63,hno2,k3,hl4,pvv,ovv,phh,ohh,pav,oav,w1,w2,w3,u1,u2,u3,u4,u5,u6,u7,u8,u9]
 have low:Low B H (List.set H4 (B+6) (.cells 0 (stCells B VC VV' VH' VA' (.rf al gl 0 n (.own 4)) (n:Int)))):=((((low1.trans low2).trans z3).trans y3)).trans (Low.set (by omega))
 exact ret1 (v:=i64 0) (by simp [deferred,dslot]) (by simp [evalRes,evalRes1]) (by rw [hcF]; exact ⟨rfl,low,fun _=>⟨_,_,_,_,_,_,_,fin⟩⟩)
end
end Go.Apx
end
