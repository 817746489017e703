/- Walks: the order of pairs (scope.compare), the library's sorts, sorted lists of pairs. -/
import Derived.Test.YtmgajcmigkcmdaaGreatDoorNF
import Derived.Test.YtmgajcmigkcmdaaGreatDoorAmH
import Derived.Test.YtmgajcmigkcmdaaGreatDoorLays
import Derived.Test.YtmgajcmigkcmdaaGreatDoorCodeT
import Derived.Test.YtmgajcmigkcmdaaGreatDoorAmD
set_option linter.unusedVariables false
set_option linter.unusedSimpArgs false
set_option linter.unnecessarySimpa false
section
namespace Go.Apx
open Go.Proofs Go.Shelf
set_option maxRecDepth 4000
theorem isNaN_c (a:ByteArray) {h:AHeap}:AEx PP Gl 104 [.sc (.string a)] h (.ret (.sc (.bool false))) h:=by
 refine enter_104 (by simp) ?_
 simp -implicitDefEqProofs [code_104,res_104,ann_104]
 exact retE (v:=.sc (.bool false)) (by simp [deferred,dslot]) rfl rfl rfl
def cmpS2 (a b:ByteArray):Int:=if ltB a b=true then -1 else if a=b then 0 else 1
theorem gtr_eq (a b:ByteArray):strV .gtr a b=some (.bool (!(ltB a b || decide (a=b)))):=by simp only [strV,str_eq]; rfl
set_option maxHeartbeats 1000000 in
theorem cmpStr_c (a b:ByteArray) {h:AHeap}:AEx PP Gl 71 [.sc (.string a),.sc (.string b)] h (.ret (i64 (cmpS2 a b))) h:=by
 refine enter_71 (by simp) ?_
 simp -implicitDefEqProofs [code_71,res_71,ann_71]
 refine callk (isNaN_c a) rfl rfl ?_
 simp -implicitDefEqProofs
 refine callk (isNaN_c b) rfl rfl ?_
 cases hl:ltB a b with
 | true =>
  have hl':Op.bytesLess a.toList b.toList=true:=hl
  simp -implicitDefEqProofs [hl']
  exact retE (v:=i64 (-1)) (by simp [deferred,dslot]) rfl (by simp [cmpS2,hl]) rfl
 | false =>
  have hl':Op.bytesLess a.toList b.toList=false:=hl
  by_cases e:a=b
  .have hg:strV .gtr a b=some (.bool false):=by rw [gtr_eq,hl,decide_eq_true e]; rfl
   simp -implicitDefEqProofs [hl',hg]
   exact retE (v:=i64 0) (by simp [deferred,dslot]) rfl (by simp [cmpS2,hl,e,ltB_irrefl]) rfl
  .have hg:strV .gtr a b=some (.bool true):=by rw [gtr_eq,hl,decide_eq_false e]; rfl
   simp -implicitDefEqProofs [hl',hg]
   exact retE (v:=i64 1) (by simp [deferred,dslot]) rfl (by simp [cmpS2,hl,e]) rfl
set_option maxHeartbeats 1000000 in
theorem cmpOr_c (a b:Int) (c:Cap) {h:AHeap}:AEx PP Gl 70 [.sl 1 [i64 a,i64 b] c] h (.ret (i64 (if a=0 then b else a))) h:=by
 refine enter_70 (by simp) ?_
 simp -implicitDefEqProofs [code_70,res_70,ann_70]
 refine AWp.cnt 2 [3,6,7] (fun i=>[(8,i64 (i:Int))]) (fun _=>h) (fun i=>(0 < i -> a=0) /\ (1 < i -> b=0)) mixed (by simp) (le_of (by simp [dslot])) rfl ?_ ?_
 .intro i hi hz
  have hlt:(i:Int) < 2:=by omega
  have wi:IntKind.i64.wrap ((i:Int)+1)=(i:Int)+1:=IntWalk.i64_in _ (by omega)
  match i,hi with
  | 0,_ =>
   by_cases e:a=0
   .simp -implicitDefEqProofs [lp0_70,e]
    exact le_of (by simp [dslot])
   .simp -implicitDefEqProofs [lp0_70,e]
    exact retE (v:=i64 a) (by simp [deferred,dslot]) rfl rfl rfl
  | 1,_ =>
   have ha:=hz.1 (by omega)
   by_cases e:b=0
   .simp -implicitDefEqProofs [lp0_70,e,ha]
    exact le_of (by simp [dslot])
   .simp -implicitDefEqProofs [lp0_70,e,ha]
    exact retE (v:=i64 b) (by simp [deferred,dslot]) rfl rfl rfl
 .intro hz
  have ha:=hz.1 (by omega)
  have hb:=hz.2 (by omega)
  simp -implicitDefEqProofs [lp0_70]
  exact retE (v:=i64 0) (by simp [deferred,dslot]) rfl (by simp [ha,hb]) rfl
def cmpP (p q:Pr):Int:=if cmpS2 p.1 q.1=0 then cmpS2 p.2 q.2 else cmpS2 p.1 q.1
set_option maxHeartbeats 1000000 in
theorem compare_c (p q:Pr) {h:AHeap}:AEx PP Gl 49 [encP p,encP q] h (.ret (i64 (cmpP p q))) h:=by
 refine enter_49 (by simp) ?_
 simp -implicitDefEqProofs [code_49,res_49,ann_49,encP]
 refine callk (cmpStr_c p.1 q.1) rfl rfl ?_
 simp -implicitDefEqProofs
 refine callk (cmpStr_c p.2 q.2) rfl rfl ?_
 simp -implicitDefEqProofs
 refine callk (cmpOr_c (cmpS2 p.1 q.1) (cmpS2 p.2 q.2) .full) rfl rfl ?_
 simp -implicitDefEqProofs
 exact retE (v:=i64 (cmpP p q)) (by simp [deferred,dslot]) (by simp [evalRes,evalRes1,cmpP]) rfl rfl
theorem cmpP_lt (p q:Pr):decide (cmpP p q < 0)=ltP p q:=by
 unfold cmpP cmpS2 ltP
 rcases ltB_tri p.1 q.1 with h | h | h
 .rw [h]; simp
 .rw [h,ltB_irrefl]
  rcases ltB_tri p.2 q.2 with h' | h' | h'
  .rw [h']; simp
  .rw [h',ltB_irrefl]; simp
  .have h2:=ltB_asymm h'
   have h3:¬ p.2=q.2:=by intro e; rw [e,ltB_irrefl] at h'; cases h'
   rw [h2]; simp [h3]
 .have h2:=ltB_asymm h
  have h3:¬ p.1=q.1:=by intro e; rw [e,ltB_irrefl] at h; cases h
  rw [h2]; simp [h3]
theorem sortS_hb:hasBody PP 39=true:=by kernel_rfl
theorem sortP_hb:hasBody PP 48=true:=by kernel_rfl
theorem sortS_sl (k:Nat) (c:Cap) {h:AHeap}:AEx PP Gl 39 [.sl k [] c] h (.ret (.tup [])) h:=by
 refine ⟨sortS_hb,fun I m w vs hi ha=>?_⟩
 obtain ⟨x,xs,rfl,hx,hxs⟩:=AVRels.cons_iff.1 ha
 obtain rfl:=AVRels.nil_iff.1 hxs
 have e:∃ p cap,x=.slice p 0 cap:=by
  cases hx with
  | slnil=>exact ⟨none,0,rfl⟩
  | sl _ _ _ a cap vs hc=>exact ⟨some a,cap,rfl⟩
 obtain ⟨p,cap,rfl⟩:=e
 refine (Any.slices_Sort_string_none laysSort p cap w).mono ?_
 rintro e w' ⟨rfl,rfl⟩
 exact ⟨_,_,I,m,⟨rfl,rfl⟩,.tup [] [] rfl (fun i a x ha=>by simp at ha),hi,.refl _ _ _ _⟩
theorem sortP_sl (k:Nat) (c:Cap) (v:AV) {h:AHeap}:AEx PP Gl 48 [.sl k [] c,v] h (.ret (.tup [])) h:=by
 refine ⟨sortP_hb,fun I m w vs hi ha=>?_⟩
 obtain ⟨x,xs,rfl,hx,hxs⟩:=AVRels.cons_iff.1 ha
 obtain ⟨y,ys,rfl,hy,hys⟩:=AVRels.cons_iff.1 hxs
 obtain rfl:=AVRels.nil_iff.1 hys
 have e:∃ p cap,x=.slice p 0 cap:=by
  cases hx with
  | slnil=>exact ⟨none,0,rfl⟩
  | sl _ _ _ a cap vs hc=>exact ⟨some a,cap,rfl⟩
 obtain ⟨p,cap,rfl⟩:=e
 refine (AnyF.slices_SortFunc_none laysSF p cap y w).mono ?_
 rintro e w' ⟨rfl,rfl⟩
 exact ⟨_,_,I,m,⟨rfl,rfl⟩,.tup [] [] rfl (fun i a x ha=>by simp at ha),hi,.refl _ _ _ _⟩
theorem cellsS_map (A:List ByteArray) (r:List AV):cellsS A r=A.map sv++r:=by
 unfold cellsS
 congr 1
 induction A with
 | nil=>rfl
 | cons a A ih=>rw [List.flatMap_cons,ih]; rfl
theorem sortS_c (l:List ByteArray) (o g:Nat) (rc:RCap) (rest:List AV) {h:AHeap} (ho:h[o]?=some (.cells g (cellsS l rest))) (hne:l ≠ []) (hl:l.length <= 2 ^ 31) :
  AEx PP Gl 39 [.rf o g 0 l.length rc] h (.ret (.tup [])) (h.set o (.cells g (cellsS (srtS l) rest))):=by
 rw [cellsS_map] at ho ⊢
 exact sort_lib laysSort rfl sortS_hb ho hne (by omega)
def encV (p:Pr):List Value:=[.string p.1,.string p.2]
theorem ltOf_cmp:ltOf cmpP=ltP:=by
 funext p q
 exact cmpP_lt p q
theorem sortP_c (l:List Pr) (o g:Nat) (rc:RCap) (rest:List AV) {h:AHeap} (ho:h[o]?=some (.cells g (cellsP l rest))) (hne:l ≠ []) (hl:l.length <= 2 ^ 31) :
  AEx PP Gl 48 [.rf o g 0 l.length rc,.fn (.func 49) [] []] h (.ret (.tup [])) (h.set o (.cells g (cellsP (l.mergeSort fun x y=>!ltP y x) rest))):=by
 have:=sortFunc_lib (α:=Pr) (G:=Gl) laysSF 2 (by omega) (fun w=>Tryz.isAgg50 w) (fun w=>Tryz.sizeOf50 w) (fun p=>(encP p).cells) encV (fun _=>rfl) (by intro x v hv; simp [encV] at hv; rcases hv with rfl | rfl <;> rfl) (fun _=>rfl) cmpP
  {irrefl:=fun x=>by rw [ltOf_cmp]; exact ltP_irrefl x
   trans:=fun x y z h1 h2=>by rw [ltOf_cmp] at *; exact ltP_trans h1 h2
   ntrans:=fun x y z h1 h2=>by
    rw [ltOf_cmp] at *
    cases h:ltP x z with
    | false=>rfl
    | true =>
     rcases ltP_tri x y with h' | h' | h'
     .rw [h1] at h'; cases h'
     .subst h'; rw [h] at h2; cases h2
     .have:=ltP_trans h' h; rw [h2] at this; cases this }
  (fun x y h1 h2=>by
   rw [ltOf_cmp] at h1 h2
   rcases ltP_tri x y with h' | h' | h'
   .rw [h1] at h'; cases h'
   .exact h'
   .rw [h2] at h'; cases h')
  (fun x y=>compare_c x y) (show laysSF_ren.f 6=48 from rfl) sortP_hb ho hne (by omega) (rc:=rc)
 rwa [ltOf_cmp] at this
end Go.Apx
end
section
namespace Go.Apx
open Go.Proofs Go.Shelf
set_option maxRecDepth 4000
def prsT (W:List ByteArray):Nat -> List Pr
 | 0=>[]
 | i+1=>prsT W i++(match W[i]? with | some a=>(W.drop (i+1)).map (fun b=>(a,b)) | none=>[])
theorem prsT_cons (a:ByteArray) (W:List ByteArray):∀ i,prsT (a :: W) (i+1)=W.map (fun b=>(a,b))++prsT W i
 | 0=>by simp [prsT]
 | i+1=>by
  rw [prsT,prsT_cons a W i]
  simp only [prsT,List.getElem?_cons_succ,List.drop_succ_cons,List.append_assoc]
theorem prsT_all:∀ W:List ByteArray,prsT W W.length=prsF W
 | []=>rfl
 | a :: W=>by rw [List.length_cons,prsT_cons,prsT_all W]; rfl
theorem prsT_len (W:List ByteArray):∀ i,(prsT W i).length <= i * W.length
 | 0=>by simp [prsT]
 | i+1=>by
  have:=prsT_len W i
  rw [prsT,List.length_append,Nat.add_mul,Nat.one_mul]
  cases hw:W[i]? with
  | none=>simp only [List.length_nil]; omega
  | some a=>simp only [List.length_map,List.length_drop]; omega
theorem purL_prs (l:List Pr):purL (l.map encP)=true:=purL_map pur_encP l
structure PS where
 i:Nat
 T:Nat
 H:AHeap
set_option maxHeartbeats 8000000 in
theorem pairs_c (l:List ByteArray) (j:Nat) (c:Cap) (hj:j=1 \/ l=[]) (hc:c=.nil -> l=[]) (hl:l.length <= 2 ^ 15) {h:AHeap}:AEx PP Gl 26 [.sl j (l.map sv) c] h (.ret (grown 2 ((prsF (wdsF l)).map encP))) h:=by
 refine enter_26 (by simp) ?_
 simp -implicitDefEqProofs [code_26,res_26,ann_26]
 have hWl:=wdsF_len l
 by_cases hl0:l=[]
 .subst hl0
  have hW:prsF (wdsF [])=[]:=by
   have:wdsF ([]:List ByteArray)=[]:=List.eq_nil_of_length_eq_zero (by simpa using hWl)
   rw [this]; rfl
  rw [hW]
  have hcl:∃ k c',AEx PP Gl 30 [.sl j (([]:List ByteArray).map sv) c] h (.ret (.sl k [] c')) h:=by
   by_cases hcn:c=.nil
   .subst hcn; exact ⟨0,.nil,cloneS_nil j _⟩
   .have:=cloneS_c [] (.sl j [] c) (h:=h) (by simpa [isNilK] using hcn) (by simp [elems]) (by simp)
    exact ⟨1,.full,by simpa [cpV,cpH] using this⟩
  obtain ⟨k,c',hcl⟩:=hcl
  refine callk hcl rfl rfl ?_
  simp -implicitDefEqProofs
  refine callk (sortS_sl k c') rfl rfl ?_
  simp -implicitDefEqProofs
  refine callk (compactS_sl k c') rfl rfl ?_
  simp -implicitDefEqProofs
  refine AWp.cnt 0 [0,3,14,15] (fun i=>[(16,i64 (i:Int))]) (fun _=>h) (fun _=>True) mixed trivial (le_of (by simp [dslot])) rfl (fun i hi=>by omega) fun _=>?_
  simp -implicitDefEqProofs [lp0_26]
  exact retE (v:=.sl 0 [] .nil) (by simp [deferred,dslot]) rfl rfl rfl
 obtain rfl:=hj.resolve_right hl0
 have hcn:¬ c=.nil:=fun e=>hl0 (hc e)
 have hml:¬ (l.map sv=[]):=by simpa using hl0
 have h1:=cloneS_c l (.sl 1 (l.map sv) c) (h:=h) (by simpa [isNilK] using hcn) (by simp [elems]) (by omega)
 simp only [cpV,cpH,if_neg hml,List.length_map] at h1
 have hfl:(l.map sv).flatMap AV.cells=cellsS l []:=by simp [cellsS,List.flatMap_map]
 rw [hfl] at h1
 refine callk h1 rfl rfl ?_
 simp -implicitDefEqProofs
 have h2:=sortS_c l h.length 0 (.own 1) [] (h:=h++[.cells 0 (cellsS l [])]) (by simp) hl0 (by omega)
 rw [set_end] at h2
 refine callk h2 rfl rfl ?_
 simp -implicitDefEqProofs
 obtain ⟨z,h3⟩:=compactS_c (srtS l) h.length 0 [] (h:=h++[.cells 0 (cellsS (srtS l) [])]) (by simp) (by rw [srtS_length]; omega)
 rw [srtS_length,set_end] at h3
 refine callk h3 rfl rfl ?_
 obtain ⟨W,hW⟩:∃ W,W=wdsF l:=⟨_,rfl⟩
 rw [<- hW] at hWl ⊢
 rw [show cpF (srtS l)=W by rw [hW]; rfl]
 have hWne:W ≠ []:=by
  intro e
  cases l with
  | nil=>exact hl0 rfl
  | cons a l =>
         have:a ∈ W:=by rw [hW]; exact wdsF_mem.2 (by simp)
         rw [e] at this; cases this
 have hWp:0 < W.length:=List.length_pos_iff.2 hWne
 obtain ⟨H0,hH0⟩:∃ H0,H0=h++[AObj.cells 0 (cellsS W z)]:=⟨_,rfl⟩
 have hlow0:Low h.length h H0:=by rw [hH0]; exact Low.app _ _ _
 have hlen0:h.length < H0.length:=by rw [hH0]; simp
 have ho0:H0[h.length]?=some (.cells 0 (cellsS W z)):=by rw [hH0]; simp
 rw [<- hH0]
 obtain ⟨o,ho⟩:∃ o,o=h.length:=⟨_,rfl⟩
 rw [<- ho] at ho0 hlen0 ⊢
 simp -implicitDefEqProofs
 have hsq:W.length * W.length <= 2 ^ 30:=by
  have h4:W.length <= 2 ^ 15:=by omega
  exact Nat.le_trans (Nat.mul_le_mul h4 h4) (by decide)
 have hwd:∀ (H:AHeap) (i:Nat) (x:ByteArray),Low H0.length H0 H -> W[i]?=some x -> H[o]?=some (.cells 0 (cellsS W z)) /\ (cellsS W z)[i]?=some (sv x):=fun H i x hlo hx=>by
  refine ⟨hlo _ _ hlen0 ho0,?_⟩
  rw [cellsS_map,List.getElem?_append_left (by simpa using lt_of hx),List.getElem?_map,hx]; rfl
 refine AWp.till (S:=PS) ⟨0,0,H0⟩ (fun s=>W.length - s.i) [0,14,15] (fun s=>[(3,apd 2 ((prsT W s.i).map encP) s.T),(16,i64 (s.i:Int))]) (fun s=>s.H)
  (fun s=>s.i <= W.length /\ Grow H0.length s.H (prsT W s.i).length s.T /\ Low H0.length H0 s.H) mixed ⟨by simp,.nil _ _ _ (Nat.le_refl _),.refl _ _⟩ (le_of (by simp [dslot,prsT])) rfl ?_
 rintro ⟨i,T,H⟩ ⟨z1,z2,z3⟩
 simp only at z1 z2 z3
 by_cases hi:i < W.length
 case neg =>
  have hno:¬ (i:Int) < W.length:=by omega
  have hno':(W.length:Int) <= i:=by omega
  obtain rfl:i=W.length:=by omega
  simp -implicitDefEqProofs [lp0_26,hno,hno']
  rw [prsT_all]
  exact retP (v':=grown 2 ((prsF W).map encP)) (by simp [deferred,dslot]) (by simp [evalRes,evalRes1]) (strip_apd _ _ _ T (purL_strip (purL_prs _))) (pur_grown _ (purL_prs _)) (hlow0.trans (z3.mono (by omega))) rfl rfl
 obtain ⟨a,ha⟩:∃ a,W[i]?=some a:=⟨W[i],by simp [hi]⟩
 obtain ⟨g1,g2⟩:=hwd H i a z3 ha
 have hlt:(i:Int) < W.length:=by omega
 have wi:IntKind.i64.wrap ((i:Int)+1)=(i:Int)+1:=IntWalk.i64_in _ (by omega)
 have hin:(0:Int) <= (i:Int)+1:=by omega
 have hit:((i:Int)+1).toNat=i+1:=by omega
 have hi1:i+1 <= W.length:=hi
 have hstep:prsT W (i+1)=prsT W i++(W.drop (i+1)).map (fun b=>(a,b)):=by rw [prsT,ha]
 have hpl:=prsT_len W i
 have hpl2:i * W.length+W.length <= W.length * W.length:=by
  have:=Nat.mul_le_mul_right W.length hi1
  rwa [Nat.add_mul,Nat.one_mul] at this
 simp -implicitDefEqProofs [lp0_26,hlt,hi,g1,g2,wi,hin,hit,hi1]
 obtain ⟨PF,hPF⟩:∃ PF:Nat -> List Pr,PF=fun q=>prsT W i++((W.drop (i+1)).take q).map (fun b=>(a,b)):=⟨_,rfl⟩
 have p0:PF 0=prsT W i:=by rw [hPF]; simp
 have pn:PF (W.length - (i+1))=prsT W (i+1):=by rw [hPF,hstep]; simp only; rw [List.take_of_length_le (by simp)]
 have ps:∀ (q:Nat) (b:ByteArray),W[i+1+q]?=some b -> PF (q+1)=PF q++[(a,b)]:=fun q b hb=>by
  rw [hPF]
  simp only
  rw [List.take_add_one,List.getElem?_drop,hb]
  simp
 have pl:∀ q,(PF q).length <= 2 ^ 30:=fun q=>by
  rw [hPF]
  simp only [List.length_append,List.length_map,List.length_take,List.length_drop]
  omega
 clear hPF
 have z2':Grow H0.length H (PF 0).length T:=by rw [p0]; exact z2
 refine AWp.till (S:=PS) ⟨0,T,H⟩ (fun s=>(W.length - (i+1)) - s.i) [0,5,14,15,16,24,25] (fun s=>[(3,apd 2 ((PF s.i).map encP) s.T),(26,i64 (s.i:Int))]) (fun s=>s.H)
  (fun s=>s.i <= W.length - (i+1) /\ Grow H0.length s.H (PF s.i).length s.T /\ Low H0.length H0 s.H) mixed ⟨by simp,z2',z3⟩ (le_of (by simp [dslot,p0])) rfl ?_
 rintro ⟨q,T2,H2⟩ ⟨y1,y2,y3⟩
 simp only at y1 y2 y3
 by_cases hq:q < W.length - (i+1)
 case neg =>
  have hqn:¬ (q:Int) < ((W.length - (i+1):Nat):Int):=by omega
  have hqn':((W.length - (i+1):Nat):Int) <= q:=by omega
  obtain rfl:q=W.length - (i+1):=by omega
  rw [pn] at y2
  simp -implicitDefEqProofs [lp1_26,hqn,hqn',pn,wi]
  exact ⟨⟨i+1,T2,H2⟩,by simp; omega,⟨by simp; omega,y2,y3⟩,le_of (by simp [dslot]),rfl⟩
 obtain ⟨b,hb⟩:∃ b,W[i+1+q]?=some b:=⟨W[i+1+q]'(by omega),by simp⟩
 obtain ⟨f1,f2⟩:=hwd H2 (i+1+q) b y3 hb
 have hqI:(q:Int) < ((W.length - (i+1):Nat):Int):=by omega
 have wq:IntKind.i64.wrap ((q:Int)+1)=(q:Int)+1:=IntWalk.i64_in _ (by omega)
 have hnext:=ps q b hb
 have hpq:=pl q
 simp -implicitDefEqProofs [lp1_26,hqI,hq,f1,f2]
 refine appG ((PF q).map encP) [encP (a,b)] T2 (by simp) (by simp [encP,sv]) (fun hne=>by simpa using y2.tok (by simpa using hne)) (by simp; unfold maxLenA; omega) ?_
 simp -implicitDefEqProofs [wq]
 refine ⟨⟨q+1,apT H2 (PF q).length 1 T2,apG H2 (PF q).length 1 T2⟩,by simp; omega,⟨by simp; omega,?_,y3.trans (y2.lowG 1)⟩,le_of ?_,rfl⟩
 .simp only
  rw [hnext,List.length_append]
  exact y2.app 1
 .simp [dslot,hnext]
end Go.Apx
end
section
namespace Go.Apx
open Go.Proofs Go.Shelf
set_option maxRecDepth 4000
set_option maxHeartbeats 4000000 in
theorem sorted_c (l:List Pr) (u:AV) {h:AHeap} (hn:isNilK .sl u=some false) (hpe:u.isPend=false) (he:elems h 2 u=some (l.map encP)) (hne:l ≠ []) (hl:l.length <= 2 ^ 31) :
  ∃ z,AEx PP Gl 33 [u] h (.ret (.rf h.length 0 0 (srtP l).length (.own 2))) (h++[.cells 0 (cellsP (srtP l) z)]):=by
 have hml:¬ (l.map encP=[]):=by simpa using hne
 have h1:=cloneP_c l u (h:=h) hn he hl
 simp only [cpV,cpH,if_neg hml,List.length_map] at h1
 have hfl:(l.map encP).flatMap AV.cells=cellsP l []:=by simp [cellsP,List.flatMap_map]
 rw [hfl] at h1
 have h2:=sortP_c l h.length 0 (.own 2) [] (h:=h++[.cells 0 (cellsP l [])]) (by simp) hne (by omega)
 rw [set_end] at h2
 obtain ⟨S,hS⟩:∃ S,S=l.mergeSort fun x y=>!ltP y x:=⟨_,rfl⟩
 have hSl:S.length=l.length:=by rw [hS,List.length_mergeSort]
 obtain ⟨z,h3⟩:=compactP_c S h.length 0 [] (h:=h++[.cells 0 (cellsP S [])]) (by simp) (by omega)
 rw [<- hS] at h2
 rw [hSl,set_end] at h3
 rw [show cpF S=srtP l by rw [hS]; rfl] at h3
 refine ⟨z,?_⟩
 refine enter_33 (by simp) ?_
 simp -implicitDefEqProofs [code_33,res_33,ann_33,hpe]
 refine callk h1 rfl rfl ?_
 simp -implicitDefEqProofs
 refine callk h2 rfl rfl ?_
 simp -implicitDefEqProofs
 refine callk h3 rfl rfl ?_
 simp -implicitDefEqProofs
 exact retE (v:=.rf h.length 0 0 (srtP l).length (.own 2)) (by simp [deferred,dslot]) rfl rfl rfl
theorem rows_P (L:List Pr) (z:List AV):rows 2 L.length (cellsP L z)=L.map encP:=by
 induction L with
 | nil=>rfl
 | cons p L ih =>
  have:cellsP (p :: L) z=(encP p).cells++cellsP L z:=by simp [cellsP]
  rw [this,List.length_cons,List.map_cons,<- ih]
  rfl
end Go.Apx
end
