/- Walks: the reference's Cyclic, the closing of the matrix. -/
import Derived.Test.YtdiemjjfkoccfaaGreatDoorUC
import Derived.Test.YtdiemjjfkoccfaaGreatDoorYC
set_option linter.unusedVariables false
set_option linter.unusedSimpArgs false
set_option linter.unnecessarySimpa false
section
namespace Go.Apx
open Go.Proofs
set_option maxRecDepth 4000
theorem triv_ok {n:Nat}:∀ i k j,i < n -> k < n -> j < n -> (fun _ _:Nat=>True) i k -> (fun _ _:Nat=>True) k j -> (fun _ _:Nat=>True) i j:=fun _ _ _ _ _ _ _ _=>trivial
theorem wJs_sq {n k i:Nat} (hk:k < n) (hi:i < n) {l:List Nat} (hl:∀ j ∈ l,j < n) {M:Mx} (h:Sq n M):Sq n (l.foldl (wJ k i) M):=(wJs_ok (T:=fun _ _=>True) triv_ok hk hi l hl h).1.sq
theorem wIs_sq {n k:Nat} (hk:k < n) {l:List Nat} (hl:∀ j ∈ l,j < n) {M:Mx} (h:Sq n M):Sq n (l.foldl (wI n k) M):=(wIs_ok (T:=fun _ _=>True) triv_ok hk l hl h).1.sq
theorem wKs_sq {n:Nat}:∀ {l:List Nat},(∀ k ∈ l,k < n) -> ∀ {M:Mx},Sq n M -> Sq n (l.foldl (wK n) M)
 | [],_,M,h=>h
 | k :: l,hl,M,h=>by
  rw [List.foldl_cons]
  exact wKs_sq (fun j hj=>hl j (by simp [hj])) (wK_ok (T:=fun _ _=>True) triv_ok (hl k (by simp)) h).1.sq
theorem range_get {n i:Nat} (h:i < n):(List.range n)[i]?=some i:=by simp [h]
theorem mem_take_range {n i j:Nat} (h:j ∈ (List.range n).take i):j < n:=List.mem_range.1 (List.mem_of_mem_take h)
set_option maxHeartbeats 8000000 in
theorem cyc_close (n:Nat) (N X:List Bool) (TR:List AV) (K:Mx -> AHeap) (M0:Mx) (x1:AV) {h:AHeap} {Q:APost} (hK:TK h N X n TR K) (hn:n <= 2 ^ 31) (h0:Sq n M0)
  (hnext:AWp ⟨PP,Gl,203,ann_32,h.length,none⟩ tl8_32 Q [(1,x1),(7,i64 (n:Int)),(8,.rf (h.length+2) 0 0 n .full)] (K ((List.range n).foldl (wK n) M0))) :
  AWp ⟨PP,Gl,203,ann_32,h.length,none⟩ tl7_32 Q [(1,x1),(7,i64 (n:Int)),(8,.rf (h.length+2) 0 0 n .full)] (K M0):=by
 refine AWp.go (a:=cp7_32) (b:=tl8_32) rfl ?_
 simp -implicitDefEqProofs [cp7_32]
 obtain ⟨A,hA⟩:∃ A:Nat -> Mx,∀ k,A k=((List.range n).take k).foldl (wK n) M0:=⟨_,fun _=>rfl⟩
 have hA0:A 0=M0:=by rw [hA]; rfl
 have hAsq:∀ k,Sq n (A k):=fun k=>by rw [hA]; exact wKs_sq (fun j hj=>mem_take_range hj) h0
 refine AWp.cnt n [1,7,8] (fun k=>[(15,i64 (k:Int))]) (fun k=>K (A k)) (fun _=>True) mixed trivial (aI (by simp [dslot])) (by rw [hA0]) (fun k hk _=>?_) fun _=>?_
 .have hltk:(k:Int) < n:=by omega
  have wk:IntKind.i64.wrap ((k:Int)+1)=(k:Int)+1:=IntWalk.i64_in _ (by omega)
  have hAs:A (k+1)=wK n (A k) k:=by rw [hA,hA,fold_take _ _ (range_get hk)]
  have hsk:=hAsq k
  rw [hAs]
  generalize A k=M1 at hsk
  simp -implicitDefEqProofs [lp4_32,hltk,wk]
  obtain ⟨B,hB⟩:∃ B:Nat -> Mx,∀ i,B i=((List.range n).take i).foldl (wI n k) M1:=⟨_,fun _=>rfl⟩
  have hB0:B 0=M1:=by rw [hB]; rfl
  have hBsq:∀ i,Sq n (B i):=fun i=>by rw [hB]; exact wIs_sq hk (fun j hj=>mem_take_range hj) hsk
  refine AWp.cnt n [1,7,8,15] (fun i=>[(16,i64 (i:Int))]) (fun i=>K (B i)) (fun _=>True) mixed trivial (aI (by simp [dslot])) (by rw [hB0]) (fun i hi _=>?_) fun _=>?_
  .have hlti:(i:Int) < n:=by omega
   have wi:IntKind.i64.wrap ((i:Int)+1)=(i:Int)+1:=IntWalk.i64_in _ (by omega)
   have hBs:B (i+1)=wI n k (B i) i:=by rw [hB,hB,fold_take _ _ (range_get hi)]
   have hsi:=hBsq i
   rw [hBs]
   generalize B i=M2 at hsi
   simp -implicitDefEqProofs [lp5_32,hlti,wi]
   obtain ⟨D,hD⟩:∃ D:Nat -> Mx,∀ j,D j=((List.range n).take j).foldl (wJ k i) M2:=⟨_,fun _=>rfl⟩
   have hD0:D 0=M2:=by rw [hD]; rfl
   have hDsq:∀ j,Sq n (D j):=fun j=>by rw [hD]; exact wJs_sq hk hi (fun j hj=>mem_take_range hj) hsi
   refine AWp.cnt n [1,7,8,15,16] (fun j=>[(17,i64 (j:Int))]) (fun j=>K (D j)) (fun _=>True) mixed trivial (aI (by simp [dslot])) (by rw [hD0]) (fun j hj _=>?_) fun _=>?_
   .have hltj:(j:Int) < n:=by omega
    have wj:IntKind.i64.wrap ((j:Int)+1)=(j:Int)+1:=IntWalk.i64_in _ (by omega)
    have hDs:D (j+1)=wJ k i (D j) j:=by rw [hD,hD,fold_take _ _ (range_get hj)]
    have hsj:=hDsq j
    rw [hDs]
    generalize D j=M at hsj
    have hgT:=hK.gT M
    have hTl:=hK.tl
    have hTi:=hK.tr i hi
    have hTk:=hK.tr k hk
    have hiT:i < TR.length:=by omega
    have hkT:k < TR.length:=by omega
    have hTie:TR[i]'hiT=.rf (h.length+3+i) 0 0 n .full:=(List.getElem?_eq_some_iff.1 hTi).2
    have hTke:TR[k]'hkT=.rf (h.length+3+k) 0 0 n .full:=(List.getElem?_eq_some_iff.1 hTk).2
    obtain ⟨a1,a2⟩:=hsj.row hi
    obtain ⟨b1,b2⟩:=hsj.row hk
    have vij:=hsj.get hi hj
    have vik:=hsj.get hi hk
    have vkj:=hsj.get hk hj
    obtain ⟨ri,hri⟩:∃ ri,ri=M.getD i []:=⟨_,rfl⟩
    obtain ⟨rk,hrk⟩:∃ rk,rk=M.getD k []:=⟨_,rfl⟩
    have hsm:∀ v,setM M i j v=M.set i (ri.set j v):=fun v=>by unfold setM; rw [hri]
    rw [<- hri] at a1 a2 vij vik
    rw [<- hrk] at b1 b2 vkj
    have hgi:=hK.gR M i ri a1
    have hgk:=hK.gR M k rk b1
    have hsR:=fun v=>hK.sR M i (ri.set j v) (by rw [hsj.1]; exact hi)
    have hj1:j+1 <= n:=hj
    have hjr:j < ri.length:=by omega
    have hkr:k < ri.length:=by omega
    have hjk2:j < rk.length:=by omega
    have eij:ri[j]'hjr=bj M i j:=(List.getElem?_eq_some_iff.1 vij).2
    have eik:ri[k]'hkr=bj M i k:=(List.getElem?_eq_some_iff.1 vik).2
    have ekj:rk[j]'hjk2=bj M k j:=(List.getElem?_eq_some_iff.1 vkj).2
    have hpe:∀ v,List.take j (ri.map bl)++bl v :: List.drop (j+1) (ri.map bl)=(ri.set j v).map bl:=fun v=>by
     rw [put_eq (ri.map bl) j _ (by simpa using hjr),List.map_set]
    unfold wJ
    rw [hsm]
    cases c1:bj M i j with
    | true =>
     simp -implicitDefEqProofs [lp6_32,hltj,hi,hj,hk,hgT,hTl,hTi,hTk,hiT,hkT,hTie,hTke,hgi,hgk,a2,b2,vij,vik,vkj,hjr,hkr,hjk2,eij,eik,ekj,c1,hj1,wj]
     exact ⟨aI (by simp [dslot]),(congrArg (fun c=>(K M).set (h.length+3+i) (.cells 0 c)) (hpe true)).trans (hsR true)⟩
    | false =>
     cases c2:bj M i k with
     | false =>
      simp -implicitDefEqProofs [lp6_32,hltj,hi,hj,hk,hgT,hTl,hTi,hTk,hiT,hkT,hTie,hTke,hgi,hgk,a2,b2,vij,vik,vkj,hjr,hkr,hjk2,eij,eik,ekj,c1,c2,hj1,wj]
      exact ⟨aI (by simp [dslot]),(congrArg (fun c=>(K M).set (h.length+3+i) (.cells 0 c)) (hpe false)).trans (hsR false)⟩
     | true =>
      simp -implicitDefEqProofs [lp6_32,hltj,hi,hj,hk,hgT,hTl,hTi,hTk,hiT,hkT,hTie,hTke,hgi,hgk,a2,b2,vij,vik,vkj,hjr,hkr,hjk2,eij,eik,ekj,c1,c2,hj1,wj]
      exact ⟨aI (by simp [dslot]),(congrArg (fun c=>(K M).set (h.length+3+i) (.cells 0 c)) (hpe _)).trans (hsR _)⟩
   .simp -implicitDefEqProofs [lp6_32,wi]
    refine ⟨aI (by simp [dslot]),?_⟩
    rw [hD,List.take_of_length_le (by simp)]; rfl
  .simp -implicitDefEqProofs [lp5_32,wk]
   refine ⟨aI (by simp [dslot]),?_⟩
   rw [hB,List.take_of_length_le (by simp)]; rfl
 .have hfin:A n=(List.range n).foldl (wK n) M0:=by rw [hA,List.take_of_length_le (by simp)]
  rw [hfin]
  simp -implicitDefEqProofs [lp4_32]
  exact hnext.weaken (aI (by simp [dslot]))
end Go.Apx
end
section
namespace Go.Apx
open Go.Proofs
set_option maxRecDepth 4000
def rowR (B n i:Nat):AV:=.rf (B+3+i) 0 0 n .full
def tH (h:AHeap) (N X:List Bool) (TR:List AV) (M:Mx):AHeap:=h++[.cells 0 (N.map bl),.cells 0 (X.map bl),.cells 0 TR]++M.map fun r=>.cells 0 (r.map bl)
theorem tH_len {h:AHeap} {N X:List Bool} {TR:List AV} {M:Mx}:(tH h N X TR M).length=h.length+3+M.length:=by simp [tH]; omega
theorem tH_ok (h:AHeap) (N X:List Bool) (n:Nat):TK h N X n ((List.range n).map (rowR h.length n)) (tH h N X ((List.range n).map (rowR h.length n))):=by
 refine ⟨fun M=>by simp [tH],fun M=>by simp [tH],fun M=>by simp [tH],by simp,fun i hi=>by simp [hi,rowR],fun M i r hr=>?_,fun M i r hi=>?_,fun M=>?_,fun M=>by rw [tH_len]; omega⟩
 .unfold tH
  rw [List.getElem?_append_right (by simp)]
  simp [show h.length+3+i - (h.length+3)=i by omega,hr]
 .unfold tH
  rw [List.set_append_right _ _ (by simp)]
  simp [show h.length+3+i - (h.length+3)=i by omega,List.map_set]
 .unfold tH
  rw [List.append_assoc]
  exact Low.app _ _ _
def diagM (n:Nat) (M:Mx):List Bool:=(List.range n).map fun i=>bj M i i
set_option maxHeartbeats 4000000 in
theorem cyc_end (g:Gr) (N X:List Bool) (TR:List AV) (K:Mx -> AHeap) (M:Mx) {h:AHeap} {R:AEnd -> AHeap -> Prop} (hK:TK h N X g.sorts.length TR K) (hs:g.sorts.length <= 2 ^ 31) (hM:Sq g.sorts.length M) (hnd:g.sorts.Nodup)
  (hR:R (.ret (.tup [aW 1 ((bY g (diagM g.sorts.length M)).map sv),i64 0])) h) :
  AWp ⟨PP,Gl,203,ann_32,h.length,none⟩ tl8_32 (bw PP Gl h res_32 R) [(1,.ip (aM g)),(7,i64 (g.sorts.length:Int)),(8,.rf (h.length+2) 0 0 g.sorts.length .full)] (K M):=by
 obtain ⟨n,hn⟩:∃ n,n=g.sorts.length:=⟨_,rfl⟩
 have hml:n <= maxLenA:=by unfold maxLenA; omega
 rw [<- hn] at hK hM hs hR ⊢
 refine AWp.go (a:=cp8_32) (b:=tl9_32) rfl ?_
 simp -implicitDefEqProofs [cp8_32,hml,evW]
 refine AWp.go (a:=cp9_32) (b:=tl10_32) rfl ?_
 simp -implicitDefEqProofs [cp9_32]
 obtain ⟨o,ho⟩:∃ o,o=(K M).length:=⟨_,rfl⟩
 obtain ⟨D,hD⟩:∃ D:Nat -> List Bool,∀ i,D i=(List.range i).map (fun i=>bj M i i)++List.replicate (n - i) false:=⟨_,fun _=>rfl⟩
 have hDl:∀ i,i <= n -> (D i).length=n:=fun i hi=>by rw [hD]; simp; omega
 refine AWp.cnt n [1,7,8,18] (fun i=>[(19,i64 (i:Int))]) (fun i=>K M++[.cells 0 ((D i).map bl)]) (fun _=>True) mixed trivial (aI (by simp [dslot])) (by rw [hD]; simp) (fun i hi _=>?_) fun _=>?_
 .have hlti:(i:Int) < n:=by omega
  have wi:IntKind.i64.wrap ((i:Int)+1)=(i:Int)+1:=IntWalk.i64_in _ (by omega)
  have hgT:(K M++[.cells 0 ((D i).map bl)])[h.length+2]?=some (.cells 0 TR):=by rw [List.getElem?_append_left (ar (hK.gT M))]; exact hK.gT M
  have hTl:=hK.tl
  have hTi:=hK.tr i hi
  have hiT:i < TR.length:=by omega
  have hTie:TR[i]'hiT=.rf (h.length+3+i) 0 0 n .full:=(List.getElem?_eq_some_iff.1 hTi).2
  obtain ⟨a1,a2⟩:=hM.row hi
  have vii:=hM.get hi hi
  obtain ⟨ri,hri⟩:∃ ri,ri=M.getD i []:=⟨_,rfl⟩
  rw [<- hri] at a1 a2 vii
  have hgi:(K M++[.cells 0 ((D i).map bl)])[h.length+3+i]?=some (.cells 0 (ri.map bl)):=by
   have:=hK.gR M i ri a1
   rw [List.getElem?_append_left (ar this)]; exact this
  have hir:i < ri.length:=by omega
  have eii:ri[i]'hir=bj M i i:=(List.getElem?_eq_some_iff.1 vii).2
  have hdl:=hDl i (by omega)
  have hi1:i+1 <= n:=hi
  have hpe:List.take i ((D i).map bl)++bl (bj M i i) :: List.drop (i+1) ((D i).map bl)=(D (i+1)).map bl:=by
   rw [put_eq ((D i).map bl) i _ (by simpa using (by omega:i < (D i).length)),<- List.map_set]
   congr 1
   rw [hD,hD,List.set_append_right _ _ (by simp),List.range_succ,List.map_append,List.append_assoc]
   congr 1
   rw [show n - i=(n - (i+1))+1 by omega,List.replicate_succ]
   simp
  generalize D i=Di at hgT hgi hdl hpe
  simp -implicitDefEqProofs [lp7_32,hlti,hi,hgT,hTl,hTi,hiT,hTie,hgi,a2,vii,hir,eii,hdl,hi1,wi]
  exact ⟨aI (by simp [dslot]),hpe⟩
 .have hfin:D n=diagM n M:=by rw [hD]; simp [diagM]
  rw [hfin]
  simp -implicitDefEqProofs [lp7_32]
  refine AWp.go (a:=cp10_32) (b:=tl11_32) rfl ?_
  simp -implicitDefEqProofs [cp10_32,aM]
  have hpk:=rpicked_c g (diagM n M) (K M).length .full hnd (by rw [<- hn]; simp [diagM]) (h:=K M++[.cells 0 ((diagM n M).map bl)]) (by simp) (by omega)
  rw [<- hn] at hpk
  refine aP hpk (by simp [aM]) rfl ?_
  simp -implicitDefEqProofs
  have hst:(aW 1 ((bY g (diagM n M)).map sv)).strip=aW 1 ((bY g (diagM n M)).map sv):=strip_grown_sv _
  have hlow:Low h.length h (K M++[.cells 0 ((diagM n M).map bl)]):=(hK.low M).trans (Low.app _ _ _)
  refine AWp.ret ?_
  refine retCut (v:=.tup [aW 1 ((bY g (diagM n M)).map sv),i64 0]) h.length (by simp [deferred,dslot]) (by simp [aN,aK,res_32]) (Nat.le_refl _) hlow.len ?_ hlow.cl ?_
  .simp only [AV.strip,aj,hst,AV.inb,inbL,inb_grown_sv]; rfl
  .simp only [AV.strip,aj,hst]
   rw [hlow.take]
   exact hR
def stM (h:AHeap) (N X:List Bool) (n i:Nat):AHeap:=h++[.cells 0 (N.map bl),.cells 0 (X.map bl),.cells 0 ((List.range i).map (rowR h.length n)++List.replicate (n - i) (.sl 0 [] .nil))]++List.replicate i (.cells 0 ((List.replicate n false).map bl))
def RCycR (g:Gr) (h:AHeap) (r:AEnd) (h':AHeap):Prop:=h'=h /\ ((aO g ≠ 0 /\ r=.ret (.tup [.sl 0 [] .nil,i64 (aO g)])) \/
 (aO g=0 /\ ∃ D:List Bool,(∀ x,bU g.sorts x=true -> (mkF g D x=true ↔ TcG g x x)) /\ r=.ret (.tup [aW 1 ((bY g D).map sv),i64 0])))
set_option maxHeartbeats 4000000 in
theorem rCyclic_c (g:Gr) {h:AHeap} (hs:g.sorts.length <= 2 ^ 31) (hr:g.rules.length <= 2 ^ 31):ACalls PP Gl 32 [aM g] h (RCycR g h):=by
 refine aC Tryz.func32 body_32 comp_32 resc_32 (by simp) (Nat.le_trans (m:=1) (by simp) (by decide)) ?_
 refine AWp.go (a:=cp0_32) (b:=tl1_32) rfl ?_
 simp -implicitDefEqProofs [cp0_32,aM]
 refine AWp.go (a:=cp1_32) (b:=tl2_32) rfl ?_
 simp -implicitDefEqProofs [cp1_32]
 refine aP (rcheck_c g hs hr) (by simp [aM]) rfl ?_
 by_cases h1:aO g=0
 case neg =>
  simp -implicitDefEqProofs [h1]
  exact bx (v:=.tup [.sl 0 [] .nil,i64 (aO g)]) (by simp [deferred,dslot]) (by simp [aN,aK,res_32]) ⟨rfl,.inl ⟨h1,rfl⟩⟩
 have G:=gok h1
 simp -implicitDefEqProofs [h1]
 refine AWp.go (a:=cp2_32) (b:=tl3_32) rfl ?_
 simp -implicitDefEqProofs [cp2_32]
 refine be (grown_c g false G.inn hs hr G.pl) (by simp [aM]) rfl ?_
 rintro r h' ⟨N,hN,rfl,rfl⟩
 simp -implicitDefEqProofs
 refine be (grown_c g true G.inn hs hr G.pl) (by simp [aM]) rfl ?_
 rintro r h' ⟨X,hX,rfl,rfl⟩
 have hM:=mks_of G.inn hN hX
 have hNl:=hN.len
 have hXl:=hX.len
 simp only at hNl hXl
 simp -implicitDefEqProofs
 refine AWp.go (a:=cp3_32) (b:=tl4_32) rfl ?_
 simp -implicitDefEqProofs [cp3_32]
 have hml:g.sorts.length <= maxLenA:=by unfold maxLenA; omega
 refine AWp.go (a:=cp4_32) (b:=tl5_32) rfl ?_
 simp -implicitDefEqProofs [cp4_32,hml,evW]
 refine AWp.go (a:=cp5_32) (b:=tl6_32) rfl ?_
 simp -implicitDefEqProofs [cp5_32]
 obtain ⟨n,hn⟩:∃ n,n=g.sorts.length:=⟨_,rfl⟩
 have hn2:n <= 2 ^ 31:=by omega
 rw [<- hn] at hml ⊢
 obtain ⟨T,hT⟩:∃ T:Nat -> List AV,∀ i,T i=(List.range i).map (rowR h.length n)++List.replicate (n - i) (.sl 0 [] .nil):=⟨_,fun _=>rfl⟩
 have hTl:∀ i,i <= n -> (T i).length=n:=fun i hi=>by rw [hT]; simp; omega
 refine AWp.cnt n [1,5,6,7,8] (fun i=>[(9,i64 (i:Int))]) (fun i=>stM h N X n i) (fun _=>True) mixed trivial (aI (by simp [dslot])) (by simp [stM]) (fun i hi _=>?_) fun _=>?_
 .have hlti:(i:Int) < n:=by omega
  have wi:IntKind.i64.wrap ((i:Int)+1)=(i:Int)+1:=IntWalk.i64_in _ (by omega)
  have sl:(stM h N X n i).length=h.length+3+i:=by simp [stM]; omega
  have sT:∀ z,(stM h N X n i++[z])[h.length+2]?=some (.cells 0 (T i)):=fun z=>by
   rw [List.getElem?_append_left (by omega),hT]; simp [stM]
  have hti:=hTl i (by omega)
  have hi1:i+1 <= n:=hi
  have e1:List.take i (T i)++rowR h.length n i :: List.drop (i+1) (T i)=T (i+1):=by
   rw [put_eq (T i) i _ (by omega),hT,hT,List.set_append_right _ _ (by simp),List.range_succ,List.map_append,List.append_assoc]
   congr 1
   rw [show n - i=(n - (i+1))+1 by omega,List.replicate_succ]
   simp
  have sS:(stM h N X n i++[AObj.cells 0 ((List.replicate n false).map bl)]).set (h.length+2) (.cells 0 (List.take i (T i)++rowR h.length n i :: List.drop (i+1) (T i)))=stM h N X n (i+1):=by
   rw [e1]
   unfold stM
   rw [List.append_assoc,List.set_append_left _ _ (by simp),hT,List.replicate_succ',<- List.append_assoc,List.append_assoc]
   simp
  generalize stM h N X n i=S at sl sT sS
  generalize T i=Ti at sT sS hti
  simp -implicitDefEqProofs [lp0_32,hlti,hi,hml,evW,sl,sT,hti,hi1,wi]
  simp only [List.map_replicate] at sS
  exact ⟨aI (by simp [dslot]),sS⟩
 .have hend:stM h N X n n=tH h N X ((List.range n).map (rowR h.length n)) (zeroM n):=by
   simp [stM,tH,zeroM]
  rw [hend]
  simp -implicitDefEqProofs [lp0_32]
  have hTK:=tH_ok h N X n
  have hend2:=cyc_end (R:=RCycR g h) g N X _ _ ((List.range n).foldl (wK n) (linkA g N X (zeroM n))) (by rw [<- hn]; exact hTK) hs (by rw [<- hn]; exact wKs_sq (fun k hk=>List.mem_range.1 hk) (by rw [hn]; exact (linkA_iff G.inn hM).1)) G.nd (by
   refine ⟨rfl,.inr ⟨h1,diagM g.sorts.length ((List.range n).foldl (wK n) (linkA g N X (zeroM n))),fun x hx=>?_,rfl⟩⟩
   obtain ⟨i1,i2,i3⟩:=ixN_of hx
   rw [<- mx_tc G.inn hM hx hx]
   unfold mkF diagM
   rw [i1,Int.toNat_natCast,List.getD_eq_getElem?_getD,List.getElem?_map,range_get i2,hn]
   rfl)
  have hcl2:=cyc_close n N X _ _ (linkA g N X (zeroM n)) (.ip (aM g)) hTK hn2 (by rw [hn]; exact (linkA_iff G.inn hM).1) (by simpa [<- hn] using hend2)
  have hlk:=cyc_link g N X _ _ G.inn (by rw [<- hn]; exact hTK) hs hr G.pl hNl hXl (by simpa [<- hn] using hcl2)
  rw [<- hn] at hlk
  exact hlk.weaken (aI (by simp [dslot,aM]))
end Go.Apx
end
