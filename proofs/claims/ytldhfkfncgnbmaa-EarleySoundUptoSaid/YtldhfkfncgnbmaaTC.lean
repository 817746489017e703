/- Walks: Trees, by the program: one tree more. -/
import Derived.Test.YtldhfkfncgnbmaaTB
import Derived.Test.YtldhfkfncgnbmaaAmG
import Derived.Test.YtldhfkfncgnbmaaPE
set_option linter.unusedVariables false
set_option linter.unusedSimpArgs false
set_option linter.unnecessarySimpa false
section
namespace Go.Apx
open Go.Proofs
set_option maxRecDepth 4000
def resV (n o:Nat):AV:=match n with | 0=>.sl 0 [] .nil | n+1=>.rf o n 0 (n+1) (.own 2)
@[simp] theorem isPend_resV (n o:Nat):(resV n o).isPend=false:=by cases n <;> rfl
@[simp] theorem one_resV (n o:Nat):(resV n o).one=true:=by cases n <;> rfl
theorem getP {env:Env} {d:Nat} {v:AV} {t:Nat}:(putD env (some d) v).get t=if d=t then some v else env.get t:=by
 rw [putD_get]; simp
set_option maxHeartbeats 2000000 in
theorem tail_c {N k:Nat} {ro:Option Nat} {Q:APost} {env:Env} {Z:AHeap} {n oo T:Nat} {cs:List AV} {lt:ByteArray} {kt v0:AV} (hk1:kt.isPend=false) (hk2:kt.one=true) (hk3:kt.cells=[kt])
  (e17:env.get 17=some (.ptr oo 0 0)) (e87:env.get 87=some (.agg [.sc (.string lt),kt])) (e88:env.get 88=some (i64 (n:Int))) (e90:env.get 90=some (.rf T n 0 (n+1) (.own 2)))
  (hT:Z[T]?=some (.cells n (cs++[.sc (.string ⟨#[]⟩),.sl 0 [] .nil]))) (hcl:cs.length=n * 2) (hne:T ≠ oo) (ho:Z[oo]?=some (.cells 0 [v0]))
  (hQ:Q .normal (putD env (some 91) (.ptr T n (n * 2))) ((Z.set T (.cells n (cs++[.sc (.string lt),kt]))).set oo (.cells 0 [.rf T n 0 (n+1) (.own 2)]))) :
  DA ⟨PP,Gl,N,ann_earley_Trees,k,ro⟩ Q 3 [(true,⟨(some 91),.iaddr 2 (.t 90) (.t 88),none,[5,3,0,1,2,3,4,5]⟩),
     (true,⟨none,.store 2 (.t 91) (.t 87),none,[6,2,5,0,1,2,3,4,5]⟩),
     (false,⟨none,.store 1 (.t 17) (.t 90),none,[5,5,0,1,2,3,4,5]⟩)] env Z:=by
 have hnn:(0:Int) <= (n:Int):=by omega
 refine DA.quiet (d:=some 91) (v:=.ptr T n (n * 2)) rfl (by simp [e90,e88]) ?_
 obtain ⟨E,hE⟩:∃ E,E=putD env (some 91) (.ptr T n (n * 2)):=⟨_,rfl⟩
 rw [<- hE] at hQ ⊢
 have g17:E.get 17=some (.ptr oo 0 0):=by rw [hE,getP]; simpa using e17
 have g87:E.get 87=some (.agg [.sc (.string lt),kt]):=by rw [hE,getP]; simpa using e87
 have g90:E.get 90=some (.rf T n 0 (n+1) (.own 2)):=by rw [hE,getP]; simpa using e90
 have g91:E.get 91=some (.ptr T n (n * 2)):=by rw [hE,getP]; simp
 have hf1:(cs++[AV.sc (.string ⟨#[]⟩),.sl 0 [] .nil]).take (n * 2)=cs:=by rw [<- hcl,List.take_left]
 have hf2:(cs++[AV.sc (.string ⟨#[]⟩),.sl 0 [] .nil]).drop (n * 2+2)=[]:=List.drop_of_length_le (by simp; omega)
 have hf3:n * 2+2 <= (cs++[AV.sc (.string ⟨#[]⟩),.sl 0 [] .nil]).length:=by simp; omega
 have hTl:=lt_of hT
 have hol:=lt_of ho
 obtain ⟨c1,hc1⟩:∃ c1,c1=cs++[AV.sc (.string ⟨#[]⟩),.sl 0 [] .nil]:=⟨_,rfl⟩
 rw [<- hc1] at hf1 hf2 hf3 hT
 have hs1:∀ Y,(Z.set T Y)[oo]?=some (.cells 0 [v0]):=fun Y=>by rw [List.getElem?_set_ne hne]; exact ho
 have hs2:∀ Y,(Z.set oo Y)[T]?=some (.cells n c1):=fun Y=>by rw [List.getElem?_set_ne (Ne.symm hne)]; exact hT
 refine DA.two ?_ ?_
 .simp -implicitDefEqProofs [g17,g87,g90,g91,hT,hf1,hf2,hf3,hk1,hk2,hk3]
  refine DA.one ?_
  simp -implicitDefEqProofs [g17,g87,g90,g91,hs1]
  exact hQ
 .simp -implicitDefEqProofs [g17,g87,g90,g91,ho]
  refine DA.one ?_
  simp -implicitDefEqProofs [g17,g87,g90,g91,hs2,hf1,hf2,hf3,hk1,hk2,hk3]
  rw [List.set_comm _ _ (Ne.symm hne)]
  exact hQ
set_option maxHeartbeats 4000000 in
theorem dreg_c {g:Gr} {t:RT} {x:Tr} {N k:Nat} {ro:Option Nat} {Q:APost} {env:Env} {H:AHeap} {n oo T:Nat} {cs:List AV} (hut:U g t x) (hsz:sizeR t <= 1000000)
  (e17:env.get 17=some (.ptr oo 0 0)) (e18:env.get 18=some (.ip (encU x))) (ho:H[oo]?=some (.cells 0 [resV n T])) (hT:n ≠ 0 -> T ≠ oo /\ H[T]?=some (.cells (n - 1) cs)) (hcl:cs.length=n * 2) (hn:n <= 100000)
  (hQ:∀ (E':Env) (Z:AHeap) (T':Nat),(n ≠ 0 -> T'=T /\ Z=H.set T (.cells n (cs++[.sc (.string ⟨#[]⟩),.sl 0 [] .nil]))) -> (n=0 -> T'=H.length /\ Z=H++[.cells n (cs++[.sc (.string ⟨#[]⟩),.sl 0 [] .nil])]) ->
   (∀ s:Nat,s < 85 \/ 91 < s -> E'.get s=env.get s) -> Q .normal E' ((Z.set T' (.cells n (cs++(encU (canR g t)).cells))).set oo (.cells 0 [resV (n+1) T']))) :
  DA ⟨PP,Gl,N,ann_earley_Trees,k,ro⟩ Q 9 [(true,⟨(some 85),.load .one (.t 17),none,[]⟩),
     (true,⟨(some 86),.load (.agg 2) (.t 18),none,[]⟩),
     (true,⟨(some 88),.len .sl (.t 85),none,[0]⟩),
     (true,⟨(some 89),.bslice 2 1 (.agg [(.sc (.string ⟨#[]⟩)),(.sl 0 [] .nil)]) [(0,(.c (.agg [(.sc (.string ⟨#[]⟩)),(.sl 0 [] .nil)])))],none,[]⟩),
     (false,⟨(some 87),.call (.c (.fn (.func 55) [] [])) [(.t 86)],none,[1]⟩),
     (false,⟨(some 90),.mappend 2 40 (.t 85) (.t 89),none,[0,4,2,0,1,2,3,4]⟩),
     (true,⟨(some 91),.iaddr 2 (.t 90) (.t 88),none,[5,3,0,1,2,3,4,5]⟩),
     (true,⟨none,.store 2 (.t 91) (.t 87),none,[6,2,5,0,1,2,3,4,5]⟩),
     (false,⟨none,.store 1 (.t 17) (.t 90),none,[5,5,0,1,2,3,4,5]⟩)] env H:=by
 have hx2:∃ lb xk xc,encU x=.agg [.sc (.string lb),sliceU xk xc]:=by cases x with | node lb xk xc=>exact ⟨lb,xk,xc,encU_eq _ _ _⟩
 obtain ⟨lb,xk,xc,hx2⟩:=hx2
 have hcan:∃ lt kt,encU (canR g t)=.agg [.sc (.string lt),kt] /\ kt.isPend=false /\ kt.one=true /\ kt.cells=[kt]:=by
  cases t with
  | node r' ts'=>exact ⟨_,_,encU_can g r' ts',by simp [grown],by simp [grown],by simp⟩
 obtain ⟨lt,kt,hcan,hk1,hk2,hk3⟩:=hcan
 have hcc:(encU (canR g t)).cells=[.sc (.string lt),kt]:=by rw [hcan]; rfl
 rw [hcc] at hQ
 have hJ:evalOp Gl env H (.load .one (.t 17))=some (resV n T,H):=by simp [evalOp,e17,ho]
 refine DA.still (env0:=env) (v:=resV n T) rfl rfl rfl (fun _ _=>rfl) hJ ?_
 refine DAI.quiet (d:=some 86) (v:=encU x) rfl (by simp [getP,e18,hx2]) hJ ?_
 refine DAI.quiet (d:=some 88) (v:=i64 (n:Int)) rfl (by cases n <;> simp [getP,resV]) hJ ?_
 refine DAI.quiet (d:=some 89) (v:=.sl 2 [.agg [(.sc (.string ⟨#[]⟩)),(.sl 0 [] .nil)]] .full) rfl (by simp) hJ ?_
 obtain ⟨E,hE⟩:∃ E,E=putD (putD (putD (putD env (some 85) (resV n T)) (some 86) (encU x)) (some 88) (i64 (n:Int))) (some 89) (.sl 2 [.agg [(.sc (.string ⟨#[]⟩)),(.sl 0 [] .nil)]] .full):=⟨_,rfl⟩
 have g85:E.get 85=some (resV n T):=by rw [hE]; simp [getP]
 have g86:E.get 86=some (encU x):=by rw [hE]; simp [getP]
 have g88:E.get 88=some (i64 (n:Int)):=by rw [hE]; simp [getP]
 have g89:E.get 89=some (.sl 2 [.agg [(.sc (.string ⟨#[]⟩)),(.sl 0 [] .nil)]] .full):=by rw [hE]; simp [getP]
 have g17:E.get 17=some (.ptr oo 0 0):=by rw [hE]; simp [getP,e17]
 have gs:∀ s:Nat,s < 85 \/ 91 < s -> E.get s=env.get s:=fun s hs=>by
  rw [hE]; simp only [getP]
  rw [if_neg (by omega),if_neg (by omega),if_neg (by omega),if_neg (by omega)]
 dsimp only
 rw [<- hE]
 refine DAI.loudA rfl ?_
 simp -implicitDefEqProofs [g86]
 refine callk (copied_c g hut hsz) (by simp) rfl ?_
 simp -implicitDefEqProofs [hcan,hk1,hk2,e17,ho]
 obtain ⟨E2,hE2⟩:∃ E2,E2=E.put 87 (.agg [.sc (.string lt),kt]):=⟨_,rfl⟩
 rw [<- hE2]
 have f:∀ s:Nat,E2.get s=if s=87 then some (.agg [.sc (.string lt),kt]) else E.get s:=fun s=>by
  rw [hE2,Env.get_put]
 have f17:E2.get 17=some (.ptr oo 0 0):=by rw [f]; simpa using g17
 have f85:E2.get 85=some (resV n T):=by rw [f]; simpa using g85
 have f87:E2.get 87=some (.agg [.sc (.string lt),kt]):=by rw [f]; simp
 have f88:E2.get 88=some (i64 (n:Int)):=by rw [f]; simpa using g88
 have f89:E2.get 89=some (.sl 2 [.agg [(.sc (.string ⟨#[]⟩)),(.sl 0 [] .nil)]] .full):=by rw [f]; simpa using g89
 have fs:∀ s:Nat,s < 85 \/ 91 < s -> E2.get s=env.get s:=fun s hs=>by rw [f,if_neg (by omega)]; exact gs s hs
 have hfin:∀ (V:AV) (P:AV),∀ s:Nat,s < 85 \/ 91 < s -> (putD (E2.put 90 V) (some 91) P).get s=env.get s:=fun V P s hs=>by
  rw [getP,if_neg (by omega),Env.get_put,<- fs s hs]
  have h1:s ≠ 90:=by omega
  simp [h1,Ne.symm h1]
 have p:∀ (V:AV) (s:Nat),s ≠ 90 -> (E2.put 90 V).get s=E2.get s:=fun V s hs=>by
  rw [Env.get_put]; simp [hs,Ne.symm hs]
 have p90:∀ (V:AV),(E2.put 90 V).get 90=some V:=fun V=>by rw [Env.get_put]; simp
 refine DAI.loudN rfl ?_
 cases n with
 | zero =>
  have hcs:cs=[]:=List.eq_nil_of_length_eq_zero (by omega)
  subst hcs
  have hmx:1 <= maxLenA:=by unfold maxLenA; omega
  simp only [resV] at f85
  simp -implicitDefEqProofs [f85,f89,hmx]
  have hol:=lt_of ho
  refine tail_c (n:=0) (oo:=oo) (T:=H.length) (cs:=[]) (lt:=lt) (kt:=kt) (v0:=resV 0 T) hk1 hk2 hk3 (by rw [p _ _ (by decide)]; exact f17) (by rw [p _ _ (by decide)]; exact f87) (by rw [p _ _ (by decide)]; exact f88) (p90 _) (by simp) rfl (by omega) (by rw [List.getElem?_append_left hol]; exact ho) ?_
  exact hQ _ _ H.length (fun h0=>(h0 rfl).elim) (fun _=>⟨rfl,rfl⟩) (hfin _ _)
 | succ n =>
  have hmx:n+1+1 <= maxLenA:=by unfold maxLenA; omega
  obtain ⟨hne,hTc⟩:=hT (by omega)
  simp only [Nat.add_sub_cancel] at hTc
  simp only [resV] at f85
  simp -implicitDefEqProofs [f85,f89,hmx,hTc,hcl]
  have hTl:=lt_of hTc
  refine tail_c (n:=n+1) (oo:=oo) (T:=T) (cs:=cs) (lt:=lt) (kt:=kt) (v0:=resV (n+1) T) hk1 hk2 hk3 (by rw [p _ _ (by decide)]; exact f17) (by rw [p _ _ (by decide)]; exact f87) (by rw [p _ _ (by decide)]; exact f88) (p90 _) (by rw [List.getElem?_set_self hTl]) hcl hne (by rw [List.getElem?_set_ne hne]; exact ho) ?_
  exact hQ _ _ T (fun _=>⟨rfl,rfl⟩) (fun h0=>absurd h0 (by omega)) (hfin _ _)
end Go.Apx
end
section
namespace Go.Apx
open Go.Proofs
set_option maxRecDepth 4000
def canV (g:Gr) (ts:List RT):List AV:=ts.map fun t=>encU (canR g t)
theorem canV_len (g:Gr) (us:List RT):((canV g us).flatMap AV.cells).length=us.length * 2:=by
 induction us with
 | nil=>rfl
 | cons t us ih =>
  simp only [canV,List.map_cons,List.flatMap_cons,List.length_append,cells_encU] at ih ⊢
  rw [ih,List.length_cons]; omega
def ETreesR (g:Gr) (f:FO) (L:Nat -> List RT) (most:Int) (h:AHeap) (r:AEnd) (h':AHeap):Prop :=
 Kp h h' /\ ∃ e v,r=.ret (.tup [v,i64 e]) /\ v.isPend=false /\ v.one=true /\ TrE g f L most e /\ (e ≠ 0 -> v=.sl 0 [] .nil) /\ (e=0 -> ∃ o,v=resV ((L 0).take most.toNat).length o /\ ((L 0).take most.toNat ≠ [] -> h'[o]?=some (.cells (((L 0).take most.toNat).length - 1) ((canV g ((L 0).take most.toNat)).flatMap AV.cells))))
structure JT (g:Gr) (mN:Nat) (Hs:AHeap) (E:Env) (X:LoopX) (us:List RT) (H:AHeap):Prop where
 n:us.length < mN
 out:∃ o,H[Hs.length]?=some (.cells 0 [resV us.length o]) /\ (us ≠ [] -> Hs.length+3 <= o /\ H[o]?=some (.cells (us.length - 1) ((canV g us).flatMap AV.cells)))
 q:H[Hs.length+1]?=some .queue
 lp:H[Hs.length+2]?=some (.loop E X .ready none)
 kp:Kp Hs H
 len:Hs.length+3 <= H.length
structure DT (g:Gr) (ts:List RT) (Hs:AHeap) (E:Env) (X:LoopX) (H:AHeap):Prop where
 out:∃ o,H[Hs.length]?=some (.cells 0 [resV ts.length o]) /\ (ts ≠ [] -> Hs.length+3 <= o /\ H[o]?=some (.cells (ts.length - 1) ((canV g ts).flatMap AV.cells)))
 q:H[Hs.length+1]?=some .queue
 lp:H[Hs.length+2]?=some (.loop E X .done (some (.exit 4)))
 kp:Kp Hs H
 len:Hs.length+3 <= H.length
structure ZS where
 i:Nat
 Mk:List (K2 × Ms)
 H:AHeap
set_option maxRecDepth 200000 in
set_option maxHeartbeats 8000000 in
theorem eTrees_c (g:Gr) (f:FO) (hf:FoOk f) (L:Nat -> List RT) (hL:∀ i,Wl (wsF f) i -> L i=stepL L (wsF f i)) (most:Int) (hc:∀ h:AHeap,AEx PP Gl 47 [encG g] h (.ret (i64 (checkF g))) h) (hr:g.rules.length <= 2 ^ 31) {h:AHeap} :
  ACalls PP Gl 20 [encG g,encFO f,i64 most] h (ETreesR g f L most h):=by
 have hkr:Kp h h:=fun _ _ hz=>hz
 have hfn:=hf.n
 have hno:∀ (H:AHeap) (e:Int),Kp h H -> TrE g f L most e -> e ≠ 0 -> ETreesR g f L most h (.ret (.tup [.sl 0 [] .nil,i64 e])) H:=fun H e hk ht he=>⟨hk,e,_,rfl,rfl,rfl,ht,fun _=>rfl,fun h0=>(he h0).elim⟩
 refine enter_earley_Trees (by simp) ?_
 simp -implicitDefEqProofs [code_earley_Trees,res_earley_Trees,ann_earley_Trees,encG,encFO]
 refine callk (hc _) (by simp [encG]) rfl ?_
 by_cases hck:checkF g=0
 case neg =>
  simp -implicitDefEqProofs [hck]
  exact ret1 (v:=.tup [.sl 0 [] .nil,i64 (checkF g)]) (by simp [deferred,dslot]) (by simp [evalRes,evalRes1]) (hno h _ hkr (.inl ⟨hck,rfl⟩) hck)
 simp -implicitDefEqProofs [hck]
 refine callr (counted_c f hf L hL) (by simp [encFO]) rfl ?_
 rintro r1 H1 ⟨kp1,⟨h1,rfl⟩ | ⟨hF,hN,h1,rfl⟩ | ⟨hF,hN,hwl,oc,hoc,hcx,rfl⟩⟩
 .simp -implicitDefEqProofs
  exact ret1 (v:=.tup [.sl 0 [] .nil,i64 2]) (by simp [deferred,dslot]) (by simp [evalRes,evalRes1]) (hno H1 2 kp1 (.inr ⟨hck,.inl ⟨h1,rfl⟩⟩) (by decide))
 .simp -implicitDefEqProofs
  exact ret1 (v:=.tup [.sl 0 [] .nil,i64 161]) (by simp [deferred,dslot]) (by simp [evalRes,evalRes1]) (hno H1 161 kp1 (.inr ⟨hck,.inr ⟨hF,hN,.inl ⟨h1,rfl⟩⟩⟩) (by decide))
 by_cases hr1:most < 0
 .simp -implicitDefEqProofs [hr1]
  exact ret1 (v:=.tup [.sl 0 [] .nil,i64 3]) (by simp [deferred,dslot]) (by simp [evalRes,evalRes1]) (hno H1 3 kp1 (.inr ⟨hck,.inr ⟨hF,hN,.inr ⟨hwl,.inl ⟨.inl hr1,rfl⟩⟩⟩⟩) (by decide))
 by_cases hr2:200 < most
 .simp -implicitDefEqProofs [hr1,hr2]
  exact ret1 (v:=.tup [.sl 0 [] .nil,i64 3]) (by simp [deferred,dslot]) (by simp [evalRes,evalRes1]) (hno H1 3 kp1 (.inr ⟨hck,.inr ⟨hF,hN,.inr ⟨hwl,.inl ⟨.inr hr2,rfl⟩⟩⟩⟩) (by decide))
 obtain ⟨mN,rfl⟩:∃ mN:Nat,most=(mN:Int):=⟨most.toNat,by omega⟩
 obtain ⟨ts,hts⟩:∃ ts,ts=(L 0).take mN:=⟨_,rfl⟩
 have hcl:=cnt_le L 0
 have htl:ts.length=min mN (cnt L 0):=by rw [hts]; unfold cnt many; simp; omega
 have hE:∀ e,e=treesE g.rules.length ts -> TrE g f L (mN:Int) e:=fun e he=>.inr ⟨hck,.inr ⟨hF,hN,.inr ⟨hwl,.inr ⟨by omega,by omega,by simp [he,hts]⟩⟩⟩⟩
 obtain ⟨oS,oT,gS,gT,rS,rT,tr,c1,c2,c3,c4⟩:=hcx.ex
 have h0a:=i64s_at (c4 0 (.inl rfl))
 have h0h:(i64s tr).head?=some (i64 (cnt L 0:Int)):=by rw [List.head?_eq_getElem?]; exact h0a
 obtain ⟨H2,hH2⟩:∃ H2,H2=H1++[AObj.cells 0 [.ptr oc 0 0,.sl 1 (g.sorts.map sv) g.sc,.sl 4 (g.rules.map encR) g.rc]]:=⟨_,rfl⟩
 have kp2:Kp H1 H2:=by rw [hH2]; exact Kp.app _ _
 have hl2:H2.length=H1.length+1:=by rw [hH2]; simp
 have hol:H2[H1.length]?=some (.cells 0 [.ptr oc 0 0,.sl 1 (g.sorts.map sv) g.sc,.sl 4 (g.rules.map encR) g.rc]):=by rw [hH2]; simp
 obtain ⟨H3,hH3⟩:∃ H3,H3=H2++[AObj.amap []]:=⟨_,rfl⟩
 have kp3:Kp H2 H3:=by rw [hH3]; exact Kp.app _ _
 have hl3:H3.length=H1.length+2:=by rw [hH3]; simp [hl2]
 have hlm3:LM f L g oc H1.length H3:=⟨kp3 _ _ hol,hcx.keep (kp2.trans kp3)⟩
 have hom3:H3[H1.length+1]?=some (.amap (amapOf encK2 encMs [])):=by rw [hH3,<- hl2]; simp [amapOf]
 have d1:=(kp2.trans kp3) _ _ c1
 have d2:=(kp2.trans kp3) _ _ c2
 have hminI:(if cnt L 0 < mN then (cnt L 0:Int) else (mN:Int))=(ts.length:Int):=by rw [htl]; split <;> omega
 simp -implicitDefEqProofs [hr1,hr2,<- hH2,<- hH3,hl2,d1,d2,h0a,h0h,hN,hminI]
 have hmm0:MemoM g.rules.length L []:=fun x v h0=>by cases h0
 have hkpx:∀ H,Kx (H1.length+1) H3 H -> Kp h H:=fun H hk z x hz=>by
  have h1:=kp1 _ _ hz
  exact hk z x (by have:=lt_of h1; omega) ((kp2.trans kp3) _ _ h1)
 refine AWp.till (S:=ZS) ⟨0,[],H3⟩ (fun s=>ts.length - s.i) [5,11,14,52] (fun s=>[(12,bl ((ts.take s.i).any bigR)),(13,bl ((ts.take s.i).any dpR)),(53,i64 (s.i:Int))]) (fun s=>s.H)
  (fun s=>s.i <= ts.length /\ MemoM g.rules.length L s.Mk /\ s.H[H1.length+1]?=some (.amap (amapOf encK2 encMs s.Mk)) /\ Kx (H1.length+1) H3 s.H /\ H3.length <= s.H.length /\ ∀ t ∈ ts.take s.i,okR g.rules.length t=true) mixed ⟨by simp,hmm0,hom3,Kx.refl _ _,Nat.le_refl _,by simp⟩ (le_of (by simp [dslot])) rfl ?_
 rintro ⟨i,Mk,H⟩ hinv
 have z1:i <= ts.length:=hinv.1
 have z2:MemoM g.rules.length L Mk:=hinv.2.1
 have z3:H[H1.length+1]?=some (.amap (amapOf encK2 encMs Mk)):=hinv.2.2.1
 have z4:Kx (H1.length+1) H3 H:=hinv.2.2.2.1
 have z6:H3.length <= H.length:=hinv.2.2.2.2.1
 have z5:∀ t ∈ ts.take i,okR g.rules.length t=true:=hinv.2.2.2.2.2
 clear hinv
 have wi:=wrap1 (n:=i) (by omega)
 have hlmH:LM f L g oc H1.length H:=hlm3.keepx z4 ⟨_,hom3⟩
 by_cases hi:i < ts.length
 .have hi1:(i:Int) < ts.length:=by omega
  obtain ⟨t,ht⟩:∃ t,ts[i]?=some t:=⟨ts[i],by simp [hi]⟩
  have hLt:(L 0)[i]?=some t:=by rw [hts,List.getElem?_take] at ht; split at ht; exact ht; cases ht
  have hnx:=any_take (p:=bigR) ht
  have hdx:=any_take (p:=dpR) ht
  obtain ⟨b13,hb13⟩:∃ b,(ts.take i).any bigR=b:=⟨_,rfl⟩
  obtain ⟨b14,hb14⟩:∃ b,(ts.take i).any dpR=b:=⟨_,rfl⟩
  rw [hb13] at hnx
  rw [hb14] at hdx
  rw [hb13,hb14]
  simp -implicitDefEqProofs [lp0_earley_Trees,hi1]
  refine callr (measure_c f hf hF L hL g hr oc H1.length (H1.length+1) 0 hwl i t Mk hN (.inl rfl) (by unfold many; omega) hLt hlmH z2 z3) (by simp) rfl ?_
  rintro r3 H4 ⟨⟨vn,vd,vo⟩,Mk3,rfl,hmo,hm3,ho3,hx3,hl3'⟩
  have hm1:=hmo.ok
  have hm2:=hmo.eq
  simp only at hm1 hm2
  have hK3:=z4.trans hx3
  cases vo with
  | false =>
   simp -implicitDefEqProofs [encMs]
   refine ret1 (v:=.tup [.sl 0 [] .nil,i64 2]) (by simp [deferred,dslot]) (by simp [evalRes,evalRes1]) (hno H4 2 (hkpx _ hK3) (hE 2 ?_) (by decide))
   unfold treesE
   rw [if_neg (by rw [all_bad ht hm1.symm]; simp)]
  | true =>
   obtain ⟨hm5,hm4⟩:=hm2 rfl
   have hst:i+1 <= ts.length /\ MemoM g.rules.length L Mk3 /\ H4[H1.length+1]?=some (.amap (amapOf encK2 encMs Mk3)) /\ Kx (H1.length+1) H3 H4 /\ H3.length <= H4.length /\ ∀ t ∈ ts.take (i+1),okR g.rules.length t=true :=
    ⟨hi,hm3,ho3,hK3,by omega,take_ext ht (q:=fun t=>okR g.rules.length t=true) z5 hm1.symm⟩
   by_cases hbg:4000 < sizeR t <;> by_cases hdg:100 < deepR t
   all_goals
    first
     | (have hn1:(4000:Int) < vn:=by omega)
     | (have hn1:¬ (4000:Int) < vn:=by omega)
    first
     | (have hd1:(100:Int) < vd:=by omega)
     | (have hd1:¬ (100:Int) < vd:=by omega)
    cases b13 <;> cases b14
    all_goals
     simp -implicitDefEqProofs [encMs,hn1,hd1,wi]
     exact ⟨⟨i+1,Mk3,H4⟩,by simp; omega,hst,le_of (by simp [dslot,hnx,hdx,bigR,dpR,hbg,hdg]),rfl⟩
 have hii:ts.take i=ts:=List.take_of_length_le (by omega)
 rw [hii] at z5 ⊢
 have hall:ts.all (okR g.rules.length)=true:=List.all_eq_true.2 z5
 have hi1:¬ (i:Int) < ts.length:=by omega
 obtain ⟨b13,hb13⟩:∃ b,ts.any bigR=b:=⟨_,rfl⟩
 obtain ⟨b14,hb14⟩:∃ b,ts.any dpR=b:=⟨_,rfl⟩
 rw [hb13,hb14]
 have hE2:treesE g.rules.length ts=if b13=true then 4 else if b14=true then 9 else 0:=by unfold treesE; rw [if_pos hall,hb13,hb14]
 cases b13 with
 | true =>
  simp -implicitDefEqProofs [lp0_earley_Trees,hi1]
  exact ret1 (v:=.tup [.sl 0 [] .nil,i64 4]) (by simp [deferred,dslot]) (by simp [evalRes,evalRes1]) (hno H 4 (hkpx _ z4) (hE 4 (by rw [hE2]; rfl)) (by decide))
 | false =>
 cases b14 with
 | true =>
  simp -implicitDefEqProofs [lp0_earley_Trees,hi1]
  exact ret1 (v:=.tup [.sl 0 [] .nil,i64 9]) (by simp [deferred,dslot]) (by simp [evalRes,evalRes1]) (hno H 9 (hkpx _ z4) (hE 9 (by rw [hE2]; rfl)) (by decide))
 | false =>
 obtain ⟨H5,hH5⟩:∃ H5,H5=H++[AObj.cells 0 [AV.sl 0 [] Cap.nil]]:=⟨_,rfl⟩
 have kp5:Kp H H5:=by rw [hH5]; exact Kp.app _ _
 have hl5:H5.length=H.length+1:=by rw [hH5]; simp
 have ho5:H5[H.length]?=some (.cells 0 [.sl 0 [] .nil]):=by rw [hH5]; simp
 by_cases hm0:0 < mN
 case neg =>
  have hte:ts=[]:=List.eq_nil_of_length_eq_zero (by omega)
  obtain rfl:mN=0:=by omega
  simp -implicitDefEqProofs [lp0_earley_Trees,hi1,<- hH5,hm0,ho5]
  refine ret1 (v:=.tup [.sl 0 [] .nil,i64 0]) (by simp [deferred,dslot]) (by simp [evalRes,evalRes1]) ⟨fun z x hz=>kp5 _ _ (hkpx _ z4 _ _ hz),0,_,rfl,rfl,rfl,hE 0 (by rw [hE2]; rfl),fun h0=>absurd rfl h0,fun _=>⟨0,?_,?_⟩⟩ <;> simp [resV]
 simp -implicitDefEqProofs [lp0_earley_Trees,hi1,<- hH5,hm0]
 refine callk (each0_c H1.length 0) rfl rfl ?_
 simp -implicitDefEqProofs
 refine AWp.rangeF (gf:=85) (fa:=[]) (fb:=[.ip (.ptr H1.length 0 0),.ip (i64 ((0:Nat):Int))]) (dl:=[]) rfl (by simp) (by simp [noPend]) (by simp [deferred,dslot]) ?_
 intro X hX
 generalize hEv:Env.del _ dslot=E
 have e5:E.get 5=some (.ip (i64 (mN:Int))):=by rw [<- hEv,Env.get_del]; simp [dslot]
 have e17:E.get 17=some (.ptr H.length 0 0):=by rw [<- hEv,Env.get_del]; simp [dslot]
 have ed:E.get dslot=none:=by rw [<- hEv,Env.get_del]; simp
 rw [hl5]
 obtain ⟨H6,hH6⟩:∃ H6,H6=H5++[.queue]++[.loop E X .ready none]:=⟨_,rfl⟩
 have kp6:Kp H5 H6:=by rw [hH6,List.append_assoc]; exact Kp.app _ _
 have hl6:H6.length=H.length+3:=by rw [hH6]; simp; omega
 have hq6:H6[H.length+1]?=some .queue:=by rw [hH6,List.append_assoc,<- hl5]; simp
 have hlp6:H6[H.length+2]?=some (.loop E X .ready none):=by rw [hH6,List.append_assoc,show H.length+2=H5.length+1 by omega]; simp
 rw [<- hH6]
 have hlm0:LM f L g oc H1.length H:=hlmH
 have hstk:∀ (us:List RT) (t:RT),us.length < mN -> us++[t] <+: L 0 -> t ∈ ts:=fun us t hlt ⟨post,he⟩=>by
  have h1:(L 0)[us.length]?=some t:=by rw [<- he]; simp
  have h2:ts[us.length]?=some t:=by rw [hts,List.getElem?_take,if_pos hlt]; exact h1
  exact List.mem_of_getElem? h2
 have htk:∀ (us:List RT) (gg:Nat),us ≠ [] -> isTok (.cells gg ((canV g us).flatMap AV.cells))=true:=fun us gg hne=>by
  have:=List.length_pos_iff.2 hne
  simp only [isTok,canV_len,decide_eq_true_eq]; omega
 have hC:Con f L g oc H1.length (H.length+2) (H.length+3) (JT g mN H E X) (DT g ts H E X) (· <+: L 0):=by
  refine ⟨fun us H' hj=>hlm0.keep hj.kp,fun us H' hj=>by simp [isLoop,hj.lp],fun us H' hj=>hj.len,fun H' hj=>hj.len,fun us H' H'' hj hka hlen=>?_,fun H' H'' hj hka hlen=>?_,?_⟩
  .obtain ⟨T,o1,o2⟩:=hj.out
   exact ⟨hj.n,⟨T,hka _ _ (.inl (by omega)) o1,fun hne=>⟨(o2 hne).1,hka _ _ (.inr (htk _ _ hne)) (o2 hne).2⟩⟩,hka _ _ (.inl (by omega)) hj.q,hka _ _ (.inl (by omega)) hj.lp,fun z x hx=>hka _ _ (.inl (by have:=lt_of hx; omega)) (hj.kp z x hx),hlen⟩
  .obtain ⟨T,o1,o2⟩:=hj.out
   exact ⟨⟨T,hka _ _ (.inl (by omega)) o1,fun hne=>⟨(o2 hne).1,hka _ _ (.inr (htk _ _ hne)) (o2 hne).2⟩⟩,hka _ _ (.inl (by omega)) hj.q,hka _ _ (.inl (by omega)) hj.lp,fun z x hx=>hka _ _ (.inl (by have:=lt_of hx; omega)) (hj.kp z x hx),hlen⟩
  intro us t x H' hj hut hpre
  have htm:=hstk us t hj.n hpre
  have hbt:bigR t=false:=by
   cases hb:bigR t with
   | false=>rfl
   | true=>have:=List.any_eq_true.2 ⟨t,htm,hb⟩; rw [hb13] at this; cases this
  have hsz:sizeR t <= 4000:=by
   unfold bigR at hbt; simpa using hbt
  have hn:=hj.n
  have hlenH:=hj.len
  obtain ⟨T,o1,o2⟩:=hj.out
  refine ayields_of_code (C:=⟨PP,Gl,97,ann_earley_Trees,H'.length,some (H.length+2)⟩) (env:=E) (X:=X) (st:=.ready) (pd:=none) (ps:=[84]) hj.lp hX rfl ed rfl rfl (codeWp_sound mixed ?_)
  have hones:(∀ y:AV,y ∈ (encU x).cells -> y.one=true)=True:=eq_true (ones_encU x)
  simp -implicitDefEqProofs [ra0_earley_Trees,beginP,hj.lp,hones,cells_encU x]
  obtain ⟨HB,hHB⟩:∃ HB,HB=H'.set (H.length+2) (.loop E X .busy none):=⟨_,rfl⟩
  have hBl:HB.length=H'.length:=by rw [hHB]; simp
  rw [<- hHB]
  have hx2:∃ lb xk xc,encU x=.agg [.sc (.string lb),sliceU xk xc]:=by cases x with | node lb xk xc=>exact ⟨lb,xk,xc,encU_eq _ _ _⟩
  obtain ⟨lb,xk,xc,hx2⟩:=hx2
  have hB1:HB[H.length]?=some (.cells 0 [resV us.length T]):=by rw [hHB,List.getElem?_set_ne (by omega)]; exact o1
  have hB2:HB[H.length+1]?=some .queue:=by rw [hHB,List.getElem?_set_ne (by omega)]; exact hj.q
  have hB3:HB[H.length+2]?=some (.loop E X .busy none):=by rw [hHB,List.getElem?_set_self (by omega)]
  have hBT:us ≠ [] -> HB[T]?=some (.cells (us.length - 1) ((canV g us).flatMap AV.cells)):=fun hne=>by
   rw [hHB,List.getElem?_set_ne (by have:=(o2 hne).1; omega)]
   exact (o2 hne).2
  have hBk:Kp H HB:=fun z y hy=>by
   have:=lt_of hy
   rw [hHB,List.getElem?_set_ne (by omega)]; exact hj.kp z y hy
  have hBq:Kq (H.length+3) H' HB:=fun z y hz hn hy=>by rw [hHB,List.getElem?_set_ne (by omega)]; exact hy
  have hlt5:H.length+3 <= HB.length:=by omega
  obtain ⟨n,hn0⟩:∃ n,n=us.length:=⟨_,rfl⟩
  have hBT2:us.length ≠ 0 -> T ≠ H.length /\ HB[T]?=some (.cells (us.length - 1) ((canV g us).flatMap AV.cells)):=fun h0=>by
   have hne:us ≠ []:=fun e=>h0 (by rw [e]; rfl)
   exact ⟨by have:=(o2 hne).1; omega,hBT hne⟩
  unfold rb0_earley_Trees
  refine AWp.block (AWp.seq (AWp.dregA mixed ?_))
  refine dreg_c (n:=us.length) (oo:=H.length) (T:=T) (cs:=(canV g us).flatMap AV.cells) hut (by omega) (by simp [e17]) (by simp [hx2]) hB1 hBT2 (canV_len g us) (by omega) ?_
  intro E' Z T' hz1 hz0 hE'
  have g17:E'.get 17=some (.ptr H.length 0 0):=by rw [hE' _ (by omega)]; simp [e17]
  have g5:E'.get 5=some (.ip (i64 (mN:Int))):=by rw [hE' _ (by omega)]; simp [e5]
  rw [<- hn0] at hz1 hz0 hn hB1 ⊢
  have hcell:(canV g us).flatMap AV.cells++(encU (canR g t)).cells=(canV g (us++[t])).flatMap AV.cells:=by simp [canV]
  have hT'3:H.length+3 <= T':=by
   by_cases h0:n=0
   .rw [(hz0 h0).1]; exact hlt5
   .rw [(hz1 h0).1]; exact (o2 (fun e=>h0 (by rw [hn0,e]; rfl))).1
  have hZT:T' < Z.length:=by
   by_cases h0:n=0
   .rw [(hz0 h0).1,(hz0 h0).2]; simp
   .rw [(hz1 h0).1,(hz1 h0).2]; simp; exact lt_of (hBT (fun e=>h0 (by rw [hn0,e]; rfl)))
  have hZl:HB.length <= Z.length:=by
   by_cases h0:n=0
   .rw [(hz0 h0).2]; simp
   .rw [(hz1 h0).2]; simp
  have hZk:∀ (z:Nat) (y:AObj),(z < H.length+3 \/ isTok y=false) -> HB[z]?=some y -> Z[z]?=some y:=fun z y hz hy=>by
   by_cases h0:n=0
   .rw [(hz0 h0).2,List.getElem?_append_left (lt_of hy)]; exact hy
   .have hne:us ≠ []:=fun e=>h0 (by rw [hn0,e]; rfl)
    rw [(hz1 h0).2,List.getElem?_set_ne]
    .exact hy
    .rintro rfl
     rcases hz with hz | hz
     .have:=(o2 hne).1; omega
     .rw [hBT hne] at hy; cases hy
      rw [htk us _ hne] at hz; cases hz
  obtain ⟨Hf,hHf⟩:∃ Hf,Hf=(Z.set T' (.cells n ((canV g us).flatMap AV.cells++(encU (canR g t)).cells))).set H.length (.cells 0 [resV (n+1) T']):=⟨_,rfl⟩
  rw [<- hHf]
  have hfl:Hf.length=Z.length:=by rw [hHf]; simp
  have hf1:Hf[H.length]?=some (.cells 0 [resV (n+1) T']):=by rw [hHf,List.getElem?_set_self (by simp; omega)]
  have hf2:Hf[T']?=some (.cells n ((canV g (us++[t])).flatMap AV.cells)):=by rw [hHf,List.getElem?_set_ne (by omega),List.getElem?_set_self hZT,hcell]
  have hfk:∀ (z:Nat) (y:AObj),z ≠ H.length -> (z < H.length+3 \/ isTok y=false) -> HB[z]?=some y -> Hf[z]?=some y:=fun z y hz hy hx=>by
   have h1:=hZk z y hy hx
   rw [hHf,List.getElem?_set_ne (Ne.symm hz),List.getElem?_set_ne]
   .exact h1
   .rintro rfl
    rcases hy with hy | hy
    .omega
    .by_cases h0:n=0
     .have:=lt_of hx; rw [(hz0 h0).1] at this; omega
     .have hne:us ≠ []:=fun e=>h0 (by rw [hn0,e]; rfl)
      rw [(hz1 h0).1,hBT hne] at hx; cases hx
      rw [htk us _ hne] at hy; cases hy
  have hf3:=hfk _ _ (by omega) (.inl (by omega)) hB3
  have hf4:=hfk _ _ (by omega) (.inl (by omega)) hB2
  have hres:∀ y,Kq (H.length+3) H' (Hf.set (H.length+2) y) /\ H'.length <= (Hf.set (H.length+2) y).length /\ (Hf.set (H.length+2) y)[H.length]?=some (.cells 0 [resV (n+1) T']) /\ (Hf.set (H.length+2) y)[T']?=some (.cells n ((canV g (us++[t])).flatMap AV.cells)) /\
    (Hf.set (H.length+2) y)[H.length+1]?=some .queue /\ (Hf.set (H.length+2) y)[H.length+2]?=some y /\ Kp H (Hf.set (H.length+2) y) /\ H.length+3 <= (Hf.set (H.length+2) y).length:=fun y=>by
   refine ⟨fun z u hz hn hu=>?_,by simp; omega,by rw [List.getElem?_set_ne (by omega)]; exact hf1,by rw [List.getElem?_set_ne (by omega)]; exact hf2,by rw [List.getElem?_set_ne (by omega)]; exact hf4,List.getElem?_set_self (lt_of hf3),fun z u hu=>?_,by simp; omega⟩
   .rw [List.getElem?_set_ne (by omega)]
    exact hfk z u (by omega) (.inr hn) (hBq z u hz hn hu)
   .have:=lt_of hu
    rw [List.getElem?_set_ne (by omega)]
    exact hfk z u (by omega) (.inl (by omega)) (hBk z u hu)
  simp -implicitDefEqProofs
  refine codeWp_sound mixed ?_
  have hnn:IntKind.i64.wrap ((n:Int)+1)=(n:Int)+1:=wrap1 (by omega)
  rcases Nat.decEq mN (n+1) with hmN | hmN
  .have hmN2:¬ n+1=mN:=fun e=>hmN e.symm
   have hmN3:¬ (n:Int)+1=mN:=by omega
   simp -implicitDefEqProofs [g17,g5,hf1,resV,hmN2,hmN3,roundP,hf3]
   obtain ⟨r1,r2,r3,r4,r5,r6,r7,r8⟩:=hres (.loop E X .ready none)
   exact ⟨r1,by simpa using r2,⟨by simp; omega,⟨T',by simpa [<- hn0] using r3,fun _=>⟨hT'3,by simpa [<- hn0] using r4⟩⟩,r5,r6,r7,r8⟩⟩
  .have hmN2:(n+1=mN)=True:=eq_true hmN.symm
   have hmN3:((n:Int)+1=mN)=True:=eq_true (by omega)
   simp -implicitDefEqProofs [g17,g5,hf1,resV,hmN2,hmN3,roundP,hf3]
   obtain ⟨r1,r2,r3,r4,r5,r6,r7,r8⟩:=hres (.loop E X .done (some (.exit 4)))
   have hte:ts=us++[t]:=by
    have:=List.prefix_iff_eq_take.1 hpre
    rw [hts,this]; simp [<- hn0,hmN]
   exact ⟨r1,by simpa using r2,⟨⟨T',by rw [hte]; simpa [<- hn0] using r3,fun _=>⟨hT'3,by rw [hte]; simpa [<- hn0] using r4⟩⟩,r5,r6,r7,r8⟩⟩
 have hokin:Okd g.rules.length (JT g mN H E X) [] (L 0):=fun pre t post he ⟨H',hj⟩=>z5 t (hstk pre t hj.n ⟨post,by rw [he]; simp⟩)
 have hj0:JT g mN H E X [] H6:=⟨by simpa using hm0,⟨0,kp6 _ _ ho5,fun h0=>(h0 rfl).elim⟩,hq6,hlp6,kp5.trans kp6,by omega⟩
 have hec:=each_c f hf hF L hL g hr oc H1.length 0 hwl hN (.inl rfl) (H.length+2) (H.length+3) _ _ _ hC [] (h:=H6) hj0 hokin (fun q hq=>by simpa using hq)
 refine iterk ⟨_,hec,fun _ _ h=>h⟩ rfl rfl ?_
 rintro r2 H7 ⟨rfl,k1,k2,hres⟩
 have hend:∀ (H7:AHeap) (T:Nat),H7[H.length]?=some (.cells 0 [resV ts.length T]) -> (ts ≠ [] -> H.length+3 <= T /\ H7[T]?=some (.cells (ts.length - 1) ((canV g ts).flatMap AV.cells))) -> H7[H.length+1]?=some .queue -> Kp H H7 ->
   ((H7.set (H.length+2) .dead)[H.length]?=some (.cells 0 [resV ts.length T])) /\ ((H7.set (H.length+2) .dead)[H.length+1]?=some .queue) /\
   ETreesR g f L (mN:Int) h (.ret (.tup [resV ts.length T,i64 0])) ((H7.set (H.length+2) .dead).set (H.length+1) .dead):=fun H7 T q1 q2 q3 q4=>by
  refine ⟨by rw [List.getElem?_set_ne (by omega)]; exact q1,by rw [List.getElem?_set_ne (by omega)]; exact q3,fun z x hx=>?_,0,_,rfl,isPend_resV _ _,one_resV _ _,hE 0 (by rw [hE2]; rfl),fun h0=>absurd rfl h0,fun _=>⟨T,by simp [<- hts],fun hne=>?_⟩⟩
  .have h1:=hkpx _ z4 _ _ hx
   have:=lt_of h1
   rw [List.getElem?_set_ne (by omega),List.getElem?_set_ne (by omega)]
   exact q4 _ _ h1
  .simp only [Int.toNat_natCast,<- hts] at hne ⊢
   have:=q2 hne
   rw [List.getElem?_set_ne (by omega),List.getElem?_set_ne (by omega)]
   exact this.2
 have hcom:∃ st pd T,H7[H.length+2]?=some (.loop E X st pd) /\ ((st=.ready /\ pd=none) \/ (st=.done /\ pd=some (.exit 4))) /\ H7[H.length]?=some (.cells 0 [resV ts.length T]) /\ (ts ≠ [] -> H.length+3 <= T /\ H7[T]?=some (.cells (ts.length - 1) ((canV g ts).flatMap AV.cells))) /\ H7[H.length+1]?=some .queue /\ Kp H H7:=by
  rcases hres with hj | hj
  .obtain ⟨T,o1,o2⟩:=hj.out
   have hn:=hj.n
   simp only [List.nil_append] at o1 o2 hn
   have hte:ts=L 0:=by rw [hts]; exact List.take_of_length_le (by omega)
   rw [<- hte] at o1 o2
   exact ⟨_,_,T,hj.lp,.inl ⟨rfl,rfl⟩,o1,o2,hj.q,hj.kp⟩
  .obtain ⟨T,o1,o2⟩:=hj.out
   exact ⟨_,_,T,hj.lp,.inr ⟨rfl,rfl⟩,o1,o2,hj.q,hj.kp⟩
 obtain ⟨st,pd,T,q0,hst,q1,q2,q3,q4⟩:=hcom
 obtain ⟨u1,u2,hR⟩:=hend H7 T q1 q2 q3 q4
 have u3:isQueue (H7.set (H.length+2) .dead) (H.length+1)=true:=by simp [isQueue,u2]
 rcases hst with ⟨rfl,rfl⟩ | ⟨rfl,rfl⟩
 all_goals
  simp -implicitDefEqProofs [rangeEnd,q0,dslot,u1]
  exact retDefer [.it (H.length+1)] (by simp [deferred,dslot]) (leaveIt u3 ⟨.tup [resV ts.length T,i64 0],by simp [evalRes,evalRes1],.inl hR⟩)
end Go.Apx
end
section
namespace Go.Apx
open Go.Proofs
set_option maxRecDepth 4000
theorem capP_ok (p:Prop) [Decidable p]:CapOk (if p then .nil else .any):=by
 by_cases h:p
 .rw [if_pos h]; exact ⟨rfl,fun _=>rfl⟩
 .rw [if_neg h]; exact ⟨rfl,fun _=>rfl⟩
end Go.Apx
end
section
namespace Go.Apx
open Go.Proofs
set_option maxRecDepth 4000
theorem canV_row (g:Gr):∀ (us:List RT) (i:Nat) (t:RT),us[i]?=some t -> (((canV g us).flatMap AV.cells).drop (i * 2)).take 2=(encU (canR g t)).cells
 | [],i,t,h=>by simp at h
 | u :: us,0,t,h=>by
  simp at h; subst h
  simp only [canV,List.map_cons,List.flatMap_cons,Nat.zero_mul,List.drop_zero]
  exact List.take_left' (cells_encU _)
 | u :: us,i+1,t,h=>by
  have ih:=canV_row g us i t (by simpa using h)
  simp only [canV,List.map_cons,List.flatMap_cons] at ih ⊢
  have e1:(i+1) * 2=(encU (canR g u)).cells.length+i * 2:=by rw [cells_encU]; omega
  rw [e1,List.drop_length_add_append]
  exact ih
end Go.Apx
end
