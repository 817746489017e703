/- Walks: the reference's joined. -/
import Derived.Test.YtdiemjjfkoccfaaGreatDoorZB
set_option linter.unusedVariables false
set_option linter.unusedSimpArgs false
set_option linter.unnecessarySimpa false
section
namespace Go.Apx
open Go.Proofs
set_option maxRecDepth 4000
def LVal (v:AV) (l:List W):Prop:=∃ k c cc,v=.sl k (l.map (encVc cc)) c /\ (l ≠ [] -> k=1) /\ cc ≠ .nil
theorem lval_encL (l:List W):LVal (encL l) l:=by
 obtain ⟨k,c,e,h⟩:=encL_sl l
 exact ⟨k,c,.any,e,h,by simp⟩
def OkW (g:Gr) (most:Int) (w:W):Prop:=(∀ x ∈ w,x ∈ symsG g) /\ (w.length:Int) <= most
theorem joinL_len {g:Gr} {most:Int} {N:List W} (hmo:0 <= most) (hsz:((symsG g).length+1) ^ most.toNat <= 100000000) (h1:StrictW N) (h2:∀ w ∈ N,OkW g most w):N.length <= 100000000 :=
 Nat.le_trans (few_words h1.nodup fun w hw=>⟨(h2 w hw).1,by have:=(h2 w hw).2; omega⟩) hsz
structure J0 where
 k:Nat
 out:List W
 v:AV
 H:AHeap
structure J1 where
 i:Nat
 H:AHeap
theorem low_get {h H:AHeap} {o:Nat} {x:AObj} (hl:Low h.length h H) (ho:h[o]?=some x):H[o]?=some x:=hl o x (List.getElem?_eq_some_iff.1 ho).1 ho
theorem inJ_stop {last:Bool} {most:Int} {u:W} {N:List W} (h:last=true /\ 2000 < N.length):∀ ts:List W,ts.foldl (inJ last most u) N=N
 | []=>rfl
 | t :: ts=>by
  have e:inJ last most u N t=N:=by unfold inJ; rw [if_pos h]
  rw [List.foldl_cons,e,inJ_stop h ts]
def JoinQ (g:Gr) (A:List (List W)) (most:Int) (R:Rl) (h:AHeap) (r:AEnd) (h':AHeap):Prop:=h'=h /\ ∃ v,LVal v (joinR g most A R) /\ r=.ret v
theorem low_two {h H:AHeap} (hl:Low h.length h H) (n m:Nat):Low h.length h (apG (apG H 0 n 0) n m (apT H 0 n 0)):=by
 have h1:=hl.trans (Low.apG (n:=0) (m:=n) (T:=0) (fun e=>(e rfl).elim) hl.len)
 refine h1.trans (Low.apG (fun hn=>?_) h1.len)
 unfold apT
 rw [if_neg hn,if_pos rfl]
 exact hl.len
set_option maxHeartbeats 8000000 in
theorem join_loop (g:Gr) (most:Int) (k:Nat) (last:Bool) (out ts:List W) (q qt:Nat) (cp cc cpt ct:Cap) (x1 x2 x4:AV) {Q:APost} {h H0:AHeap} (hmo:0 <= most /\ most <= 12) (hsz:((symsG g).length+1) ^ most.toNat <= 100000000) (hb:Low h.length h H0)
  (hol:out.length <= 100000000) (htl:ts.length <= 100000000) (ho:∀ u ∈ out,OkW g most u) (ht:∀ v ∈ ts,(∀ x ∈ v,x ∈ symsG g) /\ v.length <= 12) (hq:out ≠ [] -> q=1) (hqt:ts ≠ [] -> qt=1) (hcc:cc ≠ .nil) (hct:ct ≠ .nil)
  (hQ:∀ H',Low h.length h H' -> Q (.exit 2) [(12,encL (out.foldl (outJ last most ts) [])),(14,i64 (out.length:Int)),(1,x1),(2,x2),(3,i64 most),(4,x4),(9,.sl q (out.map (encVc cc)) cp),(10,i64 (k:Int)),(11,.sl qt (ts.map (encVc ct)) cpt),(13,bl last),(53,i64 (out.length:Int)),(54,.sl q (out.map (encVc cc)) cp),(55,i64 (out.length:Int)),(56,bl false)] H') :
  AWp ⟨PP,Gl,105,[4],h.length,none⟩ (.loop lp1_56) Q [(12,.sl 0 [] .nil),(14,i64 0),(1,x1),(2,x2),(3,i64 most),(4,x4),(9,.sl q (out.map (encVc cc)) cp),(10,i64 (k:Int)),(11,.sl qt (ts.map (encVc ct)) cpt),(13,bl last)] H0:=by
 obtain ⟨N,hN⟩:∃ N:Nat -> List W,∀ i,N i=(out.take i).foldl (outJ last most ts) []:=⟨_,fun _=>rfl⟩
 have hN0:N 0=[]:=by rw [hN]; rfl
 have hNok:∀ i,StrictW (N i) /\ ∀ w ∈ N i,OkW g most w:=fun i=>by
  obtain ⟨a1,a2,_⟩:=outsJ_ok (last:=last) (most:=most) ts (out.take i) []
  rw [hN]
  refine ⟨a1.str (by simp [StrictW]),fun w hw=>?_⟩
  rcases a2 w hw with h | ⟨u,hu,v,hv,rfl,hl⟩
  .simp at h
  .exact ⟨fun x hx=>by
    rcases List.mem_append.1 hx with hx | hx
    .exact (ho u (List.mem_of_mem_take hu)).1 x hx
    .exact (ht v hv).1 x hx,hl⟩
 refine AWp.till (S:=J1) ⟨0,H0⟩ (fun s=>out.length - s.i) [1,2,3,4,9,10,11,13] (fun s=>[(12,encL (N s.i)),(14,i64 (s.i:Int))]) (fun s=>s.H) (fun s=>s.i <= out.length /\ Low h.length h s.H) mixed ⟨by simp,hb⟩ (by rw [hN0]; exact le_of (by simp [dslot,encL,grown])) rfl ?_
 rintro ⟨i,H⟩ ⟨z1,z2⟩
 simp only at z1 z2
 by_cases hi:i < out.length
 case neg =>
  have hie:i=out.length:=by omega
  subst hie
  simp -implicitDefEqProofs [lp1_56]
  rw [hN,List.take_length]
  exact hQ H z2
 obtain ⟨u,hu⟩:∃ u,out[i]?=some u:=⟨out[i],by simp [hi]⟩
 have hlt:(i:Int) < out.length:=by omega
 have hne:out ≠ []:=by intro e; rw [e] at hi; simp at hi
 have q1:=hq hne
 subst q1
 have wi:IntKind.i64.wrap ((i:Int)+1)=(i:Int)+1:=IntWalk.i64_in _ (by omega)
 have hNs:N (i+1)=outJ last most ts (N i) u:=by rw [hN,hN,fold_take _ _ hu]
 obtain ⟨hul1,hul2⟩:=ho u (List.mem_of_getElem? hu)
 obtain ⟨s1,s2⟩:=hNok i
 simp -implicitDefEqProofs [lp1_56,hlt,hne,hu,wi]
 obtain ⟨M,hM⟩:∃ M:Nat -> List W,∀ j,M j=(ts.take j).foldl (inJ last most u) (N i):=⟨_,fun _=>rfl⟩
 have hM0:M 0=N i:=by rw [hM]; rfl
 have hMok:∀ j,StrictW (M j) /\ ∀ w ∈ M j,OkW g most w:=fun j=>by
  obtain ⟨a1,a2,_⟩:=outJ_ok (last:=last) (most:=most) u (ts.take j) (N i)
  rw [hM]
  refine ⟨a1.str s1,fun w hw=>?_⟩
  rcases a2 w hw with h | ⟨v,hv,rfl,hl⟩
  .exact s2 w h
  .exact ⟨fun x hx=>by
    rcases List.mem_append.1 hx with hx | hx
    .exact hul1 x hx
    .exact (ht v (List.mem_of_mem_take hv)).1 x hx,hl⟩
 refine AWp.till (S:=J1) ⟨0,H⟩ (fun s=>ts.length - s.i) [1,2,3,4,9,10,11,13,14] (fun s=>[(12,encL (M s.i)),(15,i64 (s.i:Int))]) (fun s=>s.H) (fun s=>s.i <= ts.length /\ Low h.length h s.H) mixed ⟨by simp,z2⟩ (by rw [hM0]; exact le_of (by simp [dslot])) rfl ?_
 rintro ⟨j,H1⟩ ⟨y1,y2⟩
 simp only at y1 y2
 obtain ⟨t1,t2⟩:=hMok j
 obtain ⟨kM,cM,eM,hkM⟩:=encL_sl (M j)
 by_cases hj:j < ts.length
 case neg =>
  have hje:j=ts.length:=by omega
  subst hje
  simp -implicitDefEqProofs [lp2_56,wi]
  refine ⟨⟨i+1,H1⟩,by simp only; omega,⟨by simp only; omega,y2⟩,le_of ?_,rfl⟩
  rw [hNs,hM,List.take_length]
  simp [dslot,outJ]
 obtain ⟨v,hv⟩:∃ v,ts[j]?=some v:=⟨ts[j],by simp [hj]⟩
 have hltj:(j:Int) < ts.length:=by omega
 have hnej:ts ≠ []:=by intro e; rw [e] at hj; simp at hj
 have q2:=hqt hnej
 subst q2
 have wj:IntKind.i64.wrap ((j:Int)+1)=(j:Int)+1:=IntWalk.i64_in _ (by omega)
 have hMs:M (j+1)=inJ last most u (M j) v:=by rw [hM,hM,fold_take _ _ hv]
 by_cases hst:last=true /\ 2000 < (M j).length
 .obtain ⟨hl1,hl2⟩:=hst
  have hl3:(2000:Int) < ((M j).length:Int):=by omega
  simp -implicitDefEqProofs [lp2_56,hltj,hl1,eM,hl3,wi]
  refine ⟨⟨i+1,H1⟩,by simp only; omega,⟨by simp only; omega,y2⟩,le_of ?_,rfl⟩
  have hfin:N (i+1)=M j:=by
   rw [hNs]
   unfold outJ
   conv=>lhs; rw [<- List.take_append_drop j ts]
   rw [List.foldl_append,<- hM,inJ_stop ⟨hl1,hl2⟩]
  rw [hfin,eM]
  simp [dslot]
 have hsel:(last && decide ((2000:Int) < ((M j).length:Int)))=false:=by
  cases last with
  | false=>rfl
  | true=>simp at hst ⊢; omega
 have hML:=joinL_len hmo.1 hsz t1 t2
 have huv:IntKind.i64.wrap ((u.length:Int)+v.length)=(u.length:Int)+v.length:=IntWalk.i64_in _ (by have:=(ht v (List.mem_of_getElem? hv)).2; omega)
 by_cases hle:(u.length:Int)+v.length <= most
 case neg =>
  have hMe:M (j+1)=M j:=by rw [hMs]; unfold inJ; rw [if_neg hst,if_neg hle]
  cases last with
  | false =>
   simp -implicitDefEqProofs [lp2_56,hltj,wi,wj,hlt,hne,hu,hnej,hv,encVc,huv,hle]
   exact ⟨⟨j+1,H1⟩,by simp only; omega,⟨by simp only; omega,y2⟩,le_of (by simp [dslot,hMe]),rfl⟩
  | true =>
   have hl3:¬ (2000:Int) < ((M j).length:Int):=by simp at hst; omega
   simp -implicitDefEqProofs [lp2_56,hltj,wi,wj,hlt,hne,hu,hnej,hv,encVc,huv,hle,hl3,eM]
   exact ⟨⟨j+1,H1⟩,by simp only; omega,⟨by simp only; omega,y2⟩,le_of (by simp [dslot,hMe,eM]),rfl⟩
 have hMe:M (j+1)=addL (M j) (u++v):=by rw [hMs]; unfold inJ; rw [if_neg hst,if_pos hle]
 have hvl:=(ht v (List.mem_of_getElem? hv)).2
 have hadd:∀ (H:AHeap) (T:Nat),AEx PP Gl 57 [encL (M j),apf 1 (u.map sv++v.map sv) T] H (.ret (.tup [encL (addL (M j) (u++v)),bl (newL (M j) (u++v))])) H:=fun H T=>by
  refine (radd_c (M j) (u++v) hML (fun x hx=>by have:=(t2 x hx).2; omega) (by simp; omega)).args (.cons (.refl _) (.cons ?_ (.refl _)))
  unfold encV encVc apf
  rw [List.map_append]
  exact AVLe.any _ _ _ (by split <;> simp)
 have hm1:u.length <= 4294967296:=by omega
 have hm2:u.length+v.length <= 4294967296:=by omega
 have hHb:=y2.len
 cases last with
 | false =>
  simp -implicitDefEqProofs [lp2_56,hltj,wi,wj,hlt,hne,hu,hnej,hv,encVc,huv,hle]
  refine appF [] (u.map sv) 0 rfl (by simp) (fun hne=>(hne rfl).elim) (by simpa [maxLenA] using hm1) ?_
  simp -implicitDefEqProofs
  refine appF (u.map sv) (v.map sv) (apT H1 0 u.length 0) rfl (by simp) (fun hne=>by simpa using apG_tok (H:=H1) (n:=0) (m:=u.length) (T:=0) (fun h=>(h rfl).elim) (by simpa using hne)) (by simpa [maxLenA] using hm2) ?_
  simp -implicitDefEqProofs
  refine callk (hadd _ _) rfl rfl ?_
  simp -implicitDefEqProofs [wj]
  exact ⟨⟨j+1,_⟩,by simp only; omega,⟨by simp only; omega,low_two y2 u.length v.length⟩,le_of (by simp [dslot,hMe]),rfl⟩
 | true =>
  have hl3:¬ (2000:Int) < ((M j).length:Int):=by simp at hst; omega
  simp -implicitDefEqProofs [lp2_56,hltj,wi,wj,hlt,hne,hu,hnej,hv,encVc,huv,hle,hl3,eM]
  refine appF [] (u.map sv) 0 rfl (by simp) (fun hne=>(hne rfl).elim) (by simpa [maxLenA] using hm1) ?_
  simp -implicitDefEqProofs
  refine appF (u.map sv) (v.map sv) (apT H1 0 u.length 0) rfl (by simp) (fun hne=>by simpa using apG_tok (H:=H1) (n:=0) (m:=u.length) (T:=0) (fun h=>(h rfl).elim) (by simpa using hne)) (by simpa [maxLenA] using hm2) ?_
  simp -implicitDefEqProofs
  refine callk (hadd _ _) (by rw [eM]) rfl ?_
  simp -implicitDefEqProofs [wj]
  exact ⟨⟨j+1,_⟩,by simp only; omega,⟨by simp only; omega,low_two y2 u.length v.length⟩,le_of (by simp [dslot,hMe]),rfl⟩
set_option maxHeartbeats 8000000 in
theorem joined_c (g:Gr) (R:Rl) (A:List (List W)) (o:Nat) (most:Int) {h:AHeap} (hR:R ∈ g.rules) (hs:g.sorts.length <= 2 ^ 31) (hp:R.parts.length <= 2 ^ 31) (hA:A.length=g.sorts.length) (ho:h[o]?=some (.cells 0 (A.map encL)))
  (hin:∀ p ∈ R.parts,p.sort ≠ emp -> hasF g.sorts p.sort=true) (hmo:0 <= most /\ most <= 12) (hsz:((symsG g).length+1) ^ most.toNat <= 100000000) (hAw:∀ s,hasF g.sorts s=true -> ∀ w ∈ atA g A s,OkW g most w) (hAl:∀ s,hasF g.sorts s=true -> (atA g A s).length <= 100000000) :
  ACalls PP Gl 56 [encG g,.sl 3 (R.parts.map encP) R.cap,.rf o 0 0 g.sorts.length .full,i64 most] h (JoinQ g A most R h):=by
 refine enter_56 (by simp) ?_
 simp -implicitDefEqProofs [code_56,res_56,ann_56,encG]
 refine AWp.till (S:=J0) ⟨0,[[]],.sl 1 [.sl 1 [] .full] .full,h⟩ (fun s=>R.parts.length - s.k) [1,2,3,4] (fun s=>[(9,s.v),(10,i64 (s.k:Int))]) (fun s=>s.H) (fun s=>s.k <= R.parts.length /\ joinL g A most (R.parts.drop s.k) s.out=joinR g most A R /\ StrictW s.out /\ (∀ w ∈ s.out,OkW g most w) /\ LVal s.v s.out /\ Low h.length h s.H) mixed
  ⟨by simp,rfl,by simp [StrictW],fun w hw=>(by simp at hw; subst hw; exact ⟨by simp,by simp [hmo.1]⟩),⟨1,.full,.full,rfl,fun _=>rfl,by simp⟩,Low.refl _ _⟩ (le_of (by simp [dslot])) rfl ?_
 rintro ⟨k,out,vo,H⟩ ⟨z1,z2,z3,z4,z5,z7⟩
 simp only at z1 z2 z3 z4 z5 z7
 obtain ⟨q,cp,cc,rfl,z5,z6⟩:=z5
 by_cases hk:k < R.parts.length
 case neg =>
  have hke:k=R.parts.length:=by omega
  subst hke
  rw [List.drop_length] at z2
  simp -implicitDefEqProofs [lp0_56]
  have hz:(AV.sl q (out.map (encVc cc)) cp).strip=.sl q (out.map (encVc cc.strip)) cp.strip:=by
   have h1:∀ w:W,(encVc cc w).strip=encVc cc.strip w:=fun w=>by
    unfold encVc
    simp only [AV.strip,strip_sv]
   have h2:∀ l:List W,stripL (l.map (encVc cc))=l.map (encVc cc.strip):=fun l=>by
    induction l with
    | nil=>rfl
    | cons a l ih=>simp only [List.map_cons,stripL,ih,h1]
   simp only [AV.strip,h2]
  refine retCut (v:=.sl q (out.map (encVc cc)) cp) h.length (by simp [deferred,dslot]) (by simp [evalRes,evalRes1]) (Nat.le_refl _) z7.len ?_ z7.cl ?_
  .rw [hz]
   have h3:∀ (w:W),inbL h.length (w.map sv)=true:=fun w=>by
    induction w with
    | nil=>rfl
    | cons a l ih=>simp only [List.map_cons,inbL,ih]; rfl
   have h5:cc.strip.inb h.length=true:=by cases cc <;> rfl
   have h6:cp.strip.inb h.length=true:=by cases cp <;> rfl
   have h4:∀ l:List W,inbL h.length (l.map (encVc cc.strip))=true:=fun l=>by
    induction l with
    | nil=>rfl
    | cons a l ih=>simp only [List.map_cons,inbL,ih,encVc,AV.inb,h3,h5]; rfl
   simp only [AV.inb,h4,h6]; rfl
  .rw [hz,z7.take]
   exact ⟨rfl,_,⟨q,_,_,by rw [<- z2]; rfl,by rw [<- z2]; exact z5,by cases cc <;> simp_all [Cap.strip]⟩,rfl⟩
 obtain ⟨p,hpk⟩:∃ p,R.parts[k]?=some p:=⟨R.parts[k],by simp [hk]⟩
 have hltk:(k:Int) < R.parts.length:=by omega
 have hnek:R.parts ≠ []:=by intro e; rw [e] at hk; simp at hk
 have wk:IntKind.i64.wrap ((k:Int)+1)=(k:Int)+1:=IntWalk.i64_in _ (by omega)
 have wl:IntKind.i64.wrap ((R.parts.length:Int) - 1)=(R.parts.length:Int) - 1:=IntWalk.i64_in _ (by omega)
 have hdr:R.parts.drop k=p :: R.parts.drop (k+1):=by
  rw [List.drop_eq_getElem_cons hk]
  congr 1
  exact (List.getElem?_eq_some_iff.1 hpk).2
 have hpm:=List.mem_of_getElem? hpk
 obtain ⟨last,hlast⟩:∃ last,last=(R.parts.drop (k+1)).isEmpty:=⟨_,rfl⟩
 have hle:decide ((k:Int)=(R.parts.length:Int) - 1)=last:=by
  cases hc:R.parts.drop (k+1) with
  | nil =>
   have:=congrArg List.length hc
   simp at this
   rw [hlast,hc]
   simp; omega
  | cons a r =>
   have:=congrArg List.length hc
   simp at this
   rw [hlast,hc]
   simp; omega
 rw [hdr] at z2
 unfold joinL at z2
 rw [<- hlast] at z2
 obtain ⟨ts,hts⟩:∃ ts,ts=tailsF g A p:=⟨_,rfl⟩
 rw [<- hts] at z2
 have hN:=outsJ_ok (last:=last) (most:=most) ts out []
 have hend:∀ (v:AV) (H':AHeap),(∀ w ∈ ts,∀ x ∈ w,x ∈ symsG g) -> Low h.length h H' -> v=encL (out.foldl (outJ last most ts) []) ->
   (joinL g A most (R.parts.drop (k+1)) (out.foldl (outJ last most ts) [])=joinR g most A R /\ StrictW (out.foldl (outJ last most ts) []) /\ (∀ w ∈ out.foldl (outJ last most ts) [],OkW g most w) /\ LVal v (out.foldl (outJ last most ts) []) /\ Low h.length h H'):=fun v H' ht hl hv=>by
  refine ⟨z2,hN.1.str (by simp [StrictW]),fun w hw=>?_,by rw [hv]; exact lval_encL _,hl⟩
  rcases hN.2.1 w hw with h | ⟨u,hu,v,hv,rfl,hl⟩
  .simp at h
  .exact ⟨fun x hx=>by
    rcases List.mem_append.1 hx with hx | hx
    .exact (z4 u hu).1 x hx
    .exact ht v hv x hx,hl⟩
 have hol:=joinL_len hmo.1 hsz z3 z4
 by_cases e:p.sort=emp
 .have htse:ts=[[p.sym]]:=by rw [hts]; unfold tailsF; rw [if_pos e]
  have htm:∀ w ∈ ts,(∀ x ∈ w,x ∈ symsG g) /\ w.length <= 12:=fun w hw=>by
   rw [htse] at hw
   simp at hw; subst hw
   refine ⟨fun x hx=>?_,by simp⟩
   simp at hx; subst hx
   exact List.mem_flatMap.2 ⟨R,hR,List.mem_map.2 ⟨p,hpm,rfl⟩⟩
  have hev:(AV.sl 1 [AV.sl 1 [AV.sc (Value.string p.sym)] Cap.full] Cap.full)=.sl 1 (ts.map (encVc .full)) .full:=by rw [htse]; rfl
  simp -implicitDefEqProofs [lp0_56,hltk,hnek,hpk,encR,encP,e,emp,wl,hle]
  refine AWp.weaken (join_loop g most k last out ts q 1 cp cc .full .full (.sl 3 (R.parts.map encP) R.cap) (.rf o 0 0 g.sorts.length .full) (.ip (.agg [.sl 1 (g.sorts.map sv) g.sc,.sl 4 (g.rules.map encR) g.rc])) hmo hsz z7 hol (by rw [htse]; simp) z4 htm z5 (fun _=>rfl) z6 (by simp) fun H' hl=>?_) (le_of (by simp [dslot,hev]))
  simp -implicitDefEqProofs [wk]
  exact ⟨⟨k+1,out.foldl (outJ last most ts) [],encL (out.foldl (outJ last most ts) []),H'⟩,by simp only; omega,⟨by simp only; omega,hend _ H' (fun w hw=>(htm w hw).1) hl rfl⟩,le_of (by simp [dslot]),rfl⟩
 .have e':¬ p.sort=(⟨#[]⟩:ByteArray):=e
  have hps:=hin p hpm e
  obtain ⟨x,_,hx2,hxl⟩:=index_of_has hps
  have hxi:(x:Int) < g.sorts.length:=by omega
  have htse:ts=atA g A p.sort:=by rw [hts]; unfold tailsF; rw [if_neg e]
  have htm:∀ w ∈ ts,(∀ x ∈ w,x ∈ symsG g) /\ w.length <= 12:=fun w hw=>by
   rw [htse] at hw
   have:=hAw _ hps w hw
   exact ⟨this.1,by have:=this.2; omega⟩
  have hAx:A[x]?=some ts:=by rw [htse]; exact atA_get hA hx2 hxl
  have hxA:x < A.length:=by omega
  have hAxe:A[x]'hxA=ts:=(List.getElem?_eq_some_iff.1 hAx).2
  have hoH:=low_get z7 ho
  obtain ⟨kt,ct,et,hkt⟩:=encL_sl ts
  simp -implicitDefEqProofs [lp0_56,hltk,hnek,hpk,encR,encP,e',wl,hle]
  refine callk (rindex_c g.sorts g.sc p.sort hs) rfl rfl ?_
  rw [hx2]
  simp -implicitDefEqProofs [hxi,hxl,hAx,hxA,hAxe,hA,hoH,wl,hle,hltk,hnek,hpk,et]
  refine AWp.weaken (join_loop g most k last out ts q kt cp cc ct .any (.sl 3 (R.parts.map encP) R.cap) (.rf o 0 0 g.sorts.length .full) (.ip (.agg [.sl 1 (g.sorts.map sv) g.sc,.sl 4 (g.rules.map encR) g.rc])) hmo hsz z7 hol (by rw [htse]; exact hAl _ hps) z4 htm z5 hkt z6 (by simp) fun H' hl=>?_) (le_of (by simp [dslot]))
  simp -implicitDefEqProofs [wk]
  exact ⟨⟨k+1,out.foldl (outJ last most ts) [],encL (out.foldl (outJ last most ts) []),H'⟩,by simp only; omega,⟨by simp only; omega,hend _ H' (fun w hw=>(htm w hw).1) hl rfl⟩,le_of (by simp [dslot]),rfl⟩
end Go.Apx
end
section
namespace Go.Apx
open Go.Proofs
set_option maxRecDepth 4000
theorem strip_encL (l:List W):(encL l).strip=encL l:=by
 have h1:∀ w:W,(encV w).strip=encV w:=fun w=>by
  simp only [encV,encVc,AV.strip,strip_sv]; rfl
 have h2:∀ l:List W,stripL (l.map encV)=l.map encV:=fun l=>by
  induction l with
  | nil=>rfl
  | cons a l ih=>simp only [List.map_cons,stripL,ih,h1]
 unfold encL grown
 simp only [AV.strip,h2]
 split <;> rfl
abbrev sH (h:AHeap) (X:List Bool) (A:List (List W)):AHeap:=h++[.cells 0 (X.map bl),.cells 0 (A.map encL)]
def RSentR (g:Gr) (s:ByteArray) (most:Int) (h:AHeap) (r:AEnd) (h':AHeap):Prop:=h'=h /\
 ((sortedF g s ≠ 0 /\ r=.ret (.tup [.sl 0 [] .nil,i64 (sortedF g s)])) \/
 (sortedF g s=0 /\ (most < 0 \/ 12 < most) /\ r=.ret (.tup [.sl 0 [] .nil,i64 3])) \/
 (sortedF g s=0 /\ 0 <= most /\ most <= 12 /\ ∃ X,RInv g s X /\ FixR g X /\ ((Over g (marked g X) most /\ r=.ret (.tup [.sl 0 [] .nil,i64 15])) \/
  (¬ Over g (marked g X) most /\ ∃ L,StrictW L /\ (∀ w,w ∈ L ↔ Gn g s w /\ (w.length:Int) <= most) /\ r=.ret (.tup [encL L,i64 0])))))
structure AM where
 A:List (List W)
 more:Bool
def FixA (g:Gr) (X:List Bool) (most:Int) (A:List (List W)):Prop:=∀ R ∈ g.rules,mkF g X R.sort=true -> ∀ w,Cat (stA g A) R.parts w -> (w.length:Int) <= most -> w ∈ atA g A R.sort
set_option maxHeartbeats 8000000 in
theorem rSentences_c (g:Gr) (s:ByteArray) (most:Int) {h:AHeap} (hs:g.sorts.length <= 2 ^ 31) (hr:g.rules.length <= 2 ^ 31) (hsz:sortedF g s=0 -> most <= 12 -> ((symsG g).length+1) ^ most.toNat <= 100000000):ACalls PP Gl 17 [encG g,.sc (.string s),i64 most] h (RSentR g s most h):=by
 refine enter_17 (by simp) ?_
 simp -implicitDefEqProofs [code_17,res_17,ann_17,encG]
 refine callk (rsorted_c g s hs hr) (by simp [encG]) rfl ?_
 by_cases h1:sortedF g s=0
 case neg =>
  simp -implicitDefEqProofs [h1]
  exact ret1 (v:=.tup [.sl 0 [] .nil,i64 (sortedF g s)]) (by simp [deferred,dslot]) (by simp [evalRes,evalRes1]) ⟨rfl,.inl ⟨h1,rfl⟩⟩
 obtain ⟨hck,hhs⟩:=sorted_mem h1
 have G:=gok hck
 by_cases hm0:most < 0
 .simp -implicitDefEqProofs [h1,hm0]
  exact ret1 (v:=.tup [.sl 0 [] .nil,i64 3]) (by simp [deferred,dslot]) (by simp [evalRes,evalRes1]) ⟨rfl,.inr (.inl ⟨h1,.inl hm0,rfl⟩)⟩
 by_cases hm1:12 < most
 .simp -implicitDefEqProofs [h1,hm0,hm1]
  exact ret1 (v:=.tup [.sl 0 [] .nil,i64 3]) (by simp [deferred,dslot]) (by simp [evalRes,evalRes1]) ⟨rfl,.inr (.inl ⟨h1,.inr hm1,rfl⟩)⟩
 have hmo:0 <= most /\ most <= 12:=⟨by omega,by omega⟩
 have hsz:=hsz h1 hmo.2
 simp -implicitDefEqProofs [h1,hm0,hm1]
 refine callr (rreach_c g s G.inn hhs hs hr G.pl) (by simp [encG]) rfl ?_
 rintro r h' ⟨X,hXI,hXF,rfl,rfl⟩
 have hml:g.sorts.length <= maxLenA:=by unfold maxLenA; omega
 have hXl:=hXI.len
 have hB:∀ L:List W,L.Nodup -> (∀ w ∈ L,(∃ s,Gn g s w) /\ (w.length:Int) <= most) -> L.length <= 100000000:=fun L hL hw=>by
  refine Nat.le_trans (few_words (A:=symsG g) (n:=most.toNat) hL fun w hw'=>⟨?_,by have:=(hw w hw').2; omega⟩) hsz
  obtain ⟨t,ht⟩:=(hw w hw').1
  exact gn_syms ht
 have hOk:∀ A,AInv g most A -> ∀ t,hasF g.sorts t=true -> (∀ w ∈ atA g A t,OkW g most w) /\ (atA g A t).length <= 100000000:=fun A hA t ht =>
  ⟨fun w hw=>⟨gn_syms (hA.snd t ht w hw).1,(hA.snd t ht w hw).2⟩,hB _ (hA.strAt t).nodup fun w hw=>⟨⟨t,(hA.snd t ht w hw).1⟩,(hA.snd t ht w hw).2⟩⟩
 have hin:=G.inn
 simp -implicitDefEqProofs [hml,evW]
 refine AWp.till (S:=AM) ⟨List.replicate g.sorts.length [],true⟩ (fun st=>2 * offA 100000000 st.A+if st.more then 1 else 0) [1,2,3,9,10] (fun st=>[(11,bl st.more)]) (fun st=>sH h X st.A) (fun st=>JInv g most 100000000 ⟨st.A,st.more,true⟩ /\ (st.more=false -> FixA g X most st.A)) mixed ⟨?_,fun e=>by cases e⟩ (le_of (by simp [dslot])) (by simp [encL,grown]) ?_
 .have h0:∀ t,atA g (List.replicate g.sorts.length []) t=[]:=fun t=>by
   unfold atA
   rw [List.getD_eq_getElem?_getD,List.getElem?_replicate]
   split <;> rfl
  exact ⟨⟨by simp,fun l hl=>by rw [List.eq_of_mem_replicate hl]; exact List.Pairwise.nil,fun t _ w hw=>by simp only [h0] at hw; simp at hw⟩,fun _ t _=>by simp only [h0]; simp⟩
 rintro ⟨A,more⟩ ⟨hI,hfix⟩
 simp only at hI hfix
 cases more with
 | false =>
  obtain ⟨q,_,hq,hql⟩:=index_of_has hhs
  have hqi:(q:Int) < g.sorts.length:=by omega
  have hAq:=atA_get (g:=g) hI.len hq hql
  have hqA:q < A.length:=by have:=hI.len; simp only at this; omega
  have hAqe:A[q]'hqA=atA g A s:=(List.getElem?_eq_some_iff.1 hAq).2
  have hAl:=hI.len
  simp only at hAl
  obtain ⟨e1,e2⟩:=rsent_end hin hhs hXI hXF hI.toAInv (hI.cap rfl) (hfix rfl)
  simp -implicitDefEqProofs [lp0_17]
  refine callk (rindex_c g.sorts g.sc s hs) rfl rfl ?_
  rw [hq]
  simp -implicitDefEqProofs [hqi,hql,hAq,hqA,hAqe,hAl]
  refine retCut (v:=.tup [encL (atA g A s),i64 0]) h.length (by simp [deferred,dslot]) (by simp [evalRes,evalRes1]) (Nat.le_refl _) (by simp) ?_ (Cl.app h _) ?_
  .simp only [AV.strip,stripL,strip_encL,AV.inb,inbL,inb_encL]; rfl
  .simp only [AV.strip,stripL,strip_encL,List.take_left]
   exact ⟨rfl,.inr (.inr ⟨h1,hmo.1,hmo.2,X,hXI,hXF,.inr ⟨e1,_,hI.strAt s,e2,rfl⟩⟩)⟩
 | true =>
  simp -implicitDefEqProofs [lp0_17]
  obtain ⟨Y,hY⟩:∃ Y:Nat -> JSt,∀ i,Y i=(g.rules.take i).foldl (stepJ g X most) ⟨A,false,true⟩:=⟨_,fun _=>rfl⟩
  have hY0:Y 0=⟨A,false,true⟩:=by rw [hY]; rfl
  have hI0:JInv g most 100000000 ⟨A,false,true⟩:=⟨hI.toAInv,hI.cap⟩
  have hYok:∀ i,JInv g most 100000000 (Y i):=fun i=>by rw [hY]; exact (stepsJ_ok hin hmo.1 hB _ ⟨A,false,true⟩ (fun R hR=>List.mem_of_mem_take hR) hI0).1
  refine AWp.cnt g.rules.length [1,2,3,9,10] (fun i=>[(11,bl (Y i).more),(12,i64 (i:Int))]) (fun i=>sH h X (Y i).A) (fun i=>(Y i).ok=true) mixed (by rw [hY0]) (by rw [hY0]; exact le_of (by simp [dslot])) (by rw [hY0]) (fun i hi hz=>?_) fun hz=>?_
  .obtain ⟨R,hR⟩:∃ R,g.rules[i]?=some R:=⟨g.rules[i],by simp [hi]⟩
   have hlt:(i:Int) < g.rules.length:=by omega
   have hne:g.rules ≠ []:=by intro e; rw [e] at hi; simp at hi
   have wi:IntKind.i64.wrap ((i:Int)+1)=(i:Int)+1:=IntWalk.i64_in _ (by omega)
   have hRm:=List.mem_of_getElem? hR
   have hYs:Y (i+1)=stepJ g X most (Y i) R:=by rw [hY,hY,fold_take _ _ hR]
   have hok1:=hYok i
   have hok2:=hYok (i+1)
   rw [hYs] at hok2
   rw [hYs]
   generalize Y i=x at hok1 hok2 hz
   obtain ⟨Z,b,ok⟩:=x
   simp only at hz
   subst hz
   have hZl:=hok1.len
   simp only at hZl
   obtain ⟨q,_,hq,hql⟩:=index_of_has (hin R hRm).1
   have hqi:(q:Int) < g.sorts.length:=by omega
   have hXq:=mkF_get hXl hq hql
   have hqX:q < X.length:=by omega
   have hXe:X[q]'hqX=mkF g X R.sort:=(List.getElem?_eq_some_iff.1 hXq).2
   simp -implicitDefEqProofs [lp1_17,hlt,hne,hR,encR]
   refine callk (rindex_c g.sorts g.sc R.sort hs) rfl rfl ?_
   rw [hq]
   cases hm:mkF g X R.sort with
   | false =>
    have hst:stepJ g X most ⟨Z,b,true⟩ R=⟨Z,b,true⟩:=by simp [stepJ,roundJ,hm]
    rw [hst]
    simp -implicitDefEqProofs [hqi,hql,hXq,hqX,hXe,hXl,hm,wi]
    exact le_of (by simp [dslot])
   | true =>
    simp -implicitDefEqProofs [hqi,hql,hXq,hqX,hXe,hXl,hm,hlt,hne,hR,encR]
    have hjc:=joined_c g R Z (h.length+1) most (h:=sH h X Z) hRm hs (G.pl R hRm) hZl (by simp) (hin R hRm).2 hmo hsz (fun t ht=>(hOk Z hok1.toAInv t ht).1) (fun t ht=>(hOk Z hok1.toAInv t ht).2)
    refine callr hjc (by simp [encG,encR]) rfl ?_
    rintro r h' ⟨rfl,v,⟨kj,cj,cc,rfl,hkj,hcc⟩,rfl⟩
    obtain ⟨J,hJ⟩:∃ J,J=joinR g most Z R:=⟨_,rfl⟩
    rw [<- hJ] at hkj ⊢
    simp -implicitDefEqProofs
    obtain ⟨V,hV⟩:∃ V:Nat -> WB,∀ k,V k=(J.take k).foldl addB (atA g Z R.sort,b):=⟨_,fun _=>rfl⟩
    have hV0:V 0=(atA g Z R.sort,b):=by rw [hV]; rfl
    have hZq:=atA_get (g:=g) hZl hq hql
    have hqZ:q < Z.length:=by omega
    have hjo:=joinL_ok (g:=g) (A:=Z) (most:=most) hZl R.parts [[]] (hin R hRm).2 (by simp [StrictW]) (by simp [hmo.1])
    have hJs:∀ w ∈ J,Gn g R.sort w /\ (w.length:Int) <= most:=fun w hw=>by
     rw [hJ] at hw
     obtain ⟨u,hu,v,hv,rfl,hl⟩:=hjo.2.1 w hw
     simp at hu; subst hu
     exact ⟨⟨R,hRm,rfl,by simpa using cat_sound hok1.toAInv hin hv (hin R hRm).2⟩,hl⟩
    have hVok:∀ k,(∀ w ∈ (V k).1,(w.length:Int) <= most) /\ (V k).1.length <= 100000000:=fun k=>by
     obtain ⟨b1,b2,_⟩:=addB_ok (J.take k) (atA g Z R.sort,b)
     rw [<- hV] at b1 b2
     have hw:∀ w ∈ (V k).1,Gn g R.sort w /\ (w.length:Int) <= most:=fun w hw=>by
      rcases (b2 w).1 hw with h | h
      .exact hok1.snd _ (hin R hRm).1 w h
      .exact hJs w (List.mem_of_mem_take h)
     exact ⟨fun w h=>(hw w h).2,hB _ (b1 (hok1.strAt _)).nodup fun w h=>⟨⟨_,(hw w h).1⟩,(hw w h).2⟩⟩
    have hstep:stepJ g X most ⟨Z,b,true⟩ R=⟨Z.set q (V J.length).1,(V J.length).2,!(bigA g (Z.set q (V J.length).1) R.sort)⟩:=by
     have e1:roundJ g X most (Z,b) R=(Z.set q (V J.length).1,(V J.length).2):=by
      unfold roundJ
      rw [if_pos hm,hV,List.take_length,<- hJ,hq]
      rfl
     unfold stepJ
     rw [if_pos rfl,e1,hm]
     simp
    have hbig:atA g (Z.set q (V J.length).1) R.sort=(V J.length).1:=by
     have:=atA_set (g:=g) hZl (hin R hRm).1 (hin R hRm).1 (V J.length).1
     rw [hq] at this
     simpa using this
    refine AWp.cnt J.length [1,2,3,9,10,12,13,14] (fun k=>[(11,bl (V k).2),(15,i64 (k:Int))]) (fun k=>sH h X (Z.set q (V k).1)) (fun _=>True) mixed trivial (by rw [hV0]; exact le_of (by simp [dslot])) (by rw [hV0,set_same hZq]) (fun k hk _=>?_) fun _=>?_
    .obtain ⟨w,hw⟩:∃ w,J[k]?=some w:=⟨J[k],by simp [hk]⟩
     have hltk:(k:Int) < J.length:=by omega
     have hnek:J ≠ []:=by intro e; rw [e] at hk; simp at hk
     have k1:=hkj hnek
     subst k1
     have hJl:J.length <= 100000000:=by
      rw [hJ]
      exact hB _ hjo.1.nodup fun w hw=>by
       rw [<- hJ] at hw
       exact ⟨⟨_,(hJs w hw).1⟩,(hJs w hw).2⟩
     have wk:IntKind.i64.wrap ((k:Int)+1)=(k:Int)+1:=IntWalk.i64_in _ (by omega)
     have hVs:V (k+1)=addB (V k) w:=by rw [hV,hV,fold_take _ _ hw]
     obtain ⟨v1,v2⟩:=hVok k
     have hwl:=(hJs w (List.mem_of_getElem? hw)).2
     rw [hVs]
     generalize V k=y at v1 v2
     obtain ⟨L,c⟩:=y
     simp only at v1 v2
     have hadd:∀ H:AHeap,AEx PP Gl 57 [encL L,.sl 1 (w.map sv) cc] H (.ret (.tup [encL (addL L w),bl (newL L w)])) H:=fun H =>
      (radd_c L w v2 (fun x hx=>by have:=v1 x hx; omega) (by omega)).args (.cons (.refl _) (.cons (AVLe.any _ _ _ hcc) (.refl _)))
     obtain ⟨Z1,hZ1⟩:∃ Z1,Z1=Z.set q L:=⟨_,rfl⟩
     obtain ⟨Z2,hZ2⟩:∃ Z2,Z2=Z.set q (addL L w):=⟨_,rfl⟩
     have eB:addB (L,c) w=(addL L w,c || newL L w):=rfl
     rw [eB]
     simp only
     rw [<- hZ1,<- hZ2]
     have hLl:Z1.length=g.sorts.length:=by rw [hZ1]; simpa using hZl
     have hqL:q < Z1.length:=by omega
     have hLq:Z1[q]?=some L:=by rw [hZ1]; simp [hqZ]
     have hLe:Z1[q]'hqL=L:=(List.getElem?_eq_some_iff.1 hLq).2
     have hpe:List.take q (Z1.map encL)++encL (addL L w) :: List.drop (q+1) (Z1.map encL)=Z2.map encL:=by
      rw [put_eq (Z1.map encL) q _ (by simpa using hqL),<- List.map_set,hZ1,hZ2,List.set_set]
     have hq1:q+1 <= g.sorts.length:=hql
     have hew:encVc cc w=.sl 1 (w.map sv) cc:=rfl
     simp -implicitDefEqProofs [lp2_17,hltk,hnek,hw,hqi,hql,hLq,hqL,hLe,hLl,hew]
     refine callk (hadd _) rfl rfl ?_
     cases c with
     | true =>
      simp -implicitDefEqProofs [hqi,hql,hLq,hqL,hLe,hLl,hq1,wk]
      exact ⟨le_of (by simp [dslot]),by simpa using hpe⟩
     | false =>
      simp -implicitDefEqProofs [hqi,hql,hLq,hqL,hLe,hLl,hq1,wk]
      exact ⟨le_of (by simp [dslot]),by simpa using hpe⟩
    .rw [hstep] at hok2 ⊢
     obtain ⟨v1,v2⟩:=hVok J.length
     generalize V J.length=y at hok2 hbig v1 v2
     obtain ⟨L,c⟩:=y
     simp only at hok2 hbig v1 v2 ⊢
     have hsnd:=hok2.snd _ (hin R hRm).1
     have hstr:=hok2.strAt R.sort
     simp only at hsnd hstr
     have hbA:bigA g (Z.set q L) R.sort=decide (2000 < L.length):=by unfold bigA; rw [hbig]
     rw [hbig] at hsnd hstr
     rw [hbA]
     obtain ⟨Z1,hZ1⟩:∃ Z1,Z1=Z.set q L:=⟨_,rfl⟩
     rw [<- hZ1]
     have hLl:Z1.length=g.sorts.length:=by rw [hZ1]; simpa using hZl
     have hqL:q < Z1.length:=by omega
     have hLq:Z1[q]?=some L:=by rw [hZ1]; simp [hqZ]
     have hLe:Z1[q]'hqL=L:=(List.getElem?_eq_some_iff.1 hLq).2
     obtain ⟨kL,cL,eL,_⟩:=encL_sl L
     by_cases hb:2000 < L.length
     .have hb':(2000:Int) < L.length:=by omega
      simp -implicitDefEqProofs [lp2_17,hqi,hql,hLq,hqL,hLe,hLl,eL,hb,hb',wi]
      refine retCut (v:=.tup [.sl 0 [] .nil,i64 15]) h.length (by simp [deferred,dslot]) (by simp [evalRes,evalRes1]) (Nat.le_refl _) (by simp) rfl (Cl.app h _) ?_
      simp only [List.take_left]
      refine ⟨rfl,.inr (.inr ⟨h1,hmo.1,hmo.2,X,hXI,hXF,.inl ⟨⟨R.sort,?_,L,hstr.nodup,hb,hsnd⟩,rfl⟩⟩)⟩
      unfold marked
      exact List.mem_filter.2 ⟨has_mem (hin R hRm).1,hm⟩
     .have hb':¬ (2000:Int) < L.length:=by omega
      simp -implicitDefEqProofs [lp2_17,hqi,hql,hLq,hqL,hLe,hLl,eL,hb,hb',wi]
      exact le_of (by simp [dslot])
  .simp -implicitDefEqProofs [lp1_17]
   have hfin:Y g.rules.length=g.rules.foldl (stepJ g X most) ⟨A,false,true⟩:=by rw [hY,List.take_length]
   obtain ⟨m1,m2,m3,m4,m5,m6⟩:=stepsJ_ok (X:=X) hin hmo.1 hB g.rules ⟨A,false,true⟩ (fun _ h=>h) hI0
   rw [<- hfin] at m1 m2 m3 m4 m5 m6
   generalize Y g.rules.length=y at hz m1 m2 m3 m4 m5 m6
   obtain ⟨Z,b,ok⟩:=y
   simp only at hz
   subst hz
   refine ⟨⟨Z,b⟩,?_,⟨m1,fun e=>?_⟩,le_of (by simp [dslot]),rfl⟩
   .simp only at m3 m4 ⊢
    cases b with
    | false=>simp; omega
    | true =>
     rcases m4 rfl with h9 | h9
     .cases h9
     .simp; omega
   .simp only at e
    subst e
    have h9:=m2 rfl rfl
    cases h9
    exact fun R hR=>m6 rfl rfl R hR
end Go.Apx
end
section
namespace Go.Apx
open Go.Proofs
set_option maxRecDepth 4000
set_option maxHeartbeats 1000000 in
theorem sents_c (l:List W) (hl:l.length <= 2 ^ 31) (hw:∀ w ∈ l,w.length <= 2 ^ 31) {h:AHeap}:AEx PP Gl 18 [grown 1 (l.map encW),encL l] h (.ret (bl true)) h:=by
 obtain ⟨ka,ca,ea,hka⟩:=grown_sl (l.map encW)
 obtain ⟨kb,cb,eb,hkb⟩:=encL_sl l
 rw [ea,eb]
 refine enter_18 (by simp) ?_
 simp -implicitDefEqProofs [code_18,res_18,ann_18]
 refine AWp.cnt l.length [0,1] (fun i=>[(5,i64 (i:Int))]) (fun _=>h) (fun _=>True) mixed trivial (le_of (by simp [dslot])) rfl (fun i hi _=>?_) fun _=>?_
 .obtain ⟨w,hx⟩:∃ w,l[i]?=some w:=⟨l[i],by simp [hi]⟩
  have hlt:(i:Int) < l.length:=by omega
  have hne:l ≠ []:=by intro e; rw [e] at hi; simp at hi
  have k1:=hka (by simpa using hne)
  have k2:=hkb hne
  subst k1 k2
  have wi:IntKind.i64.wrap ((i:Int)+1)=(i:Int)+1:=IntWalk.i64_in _ (by omega)
  obtain ⟨kw,cw,ew,hkw⟩:=encW_sl w
  have hs:=same_c kw 1 w w cw .any hkw (fun _=>rfl) (hw w (List.mem_of_getElem? hx)) (h:=h)
  simp -implicitDefEqProofs [lp0_18,hlt,hne,hx,ew,encVc]
  refine callk hs rfl rfl ?_
  simp -implicitDefEqProofs [wi]
  exact le_of (by simp [dslot])
 .simp -implicitDefEqProofs [lp0_18]
  exact ret1 (v:=bl true) (by simp [deferred,dslot]) (by simp [evalRes,evalRes1]) ⟨rfl,rfl⟩
theorem symsG_conv (g:Gr):symsG (convG g)=symsG g:=by
 unfold symsG convG
 simp only [List.flatMap_map]
 rfl
theorem symsG_small {g:Gr} {n m:Nat} (hr:g.rules.length <= n) (hp:∀ R ∈ g.rules,R.parts.length <= m):(symsG g).length <= m * n:=by
 have:∀ l:List Rl,(∀ R ∈ l,R.parts.length <= m) -> (l.flatMap fun R=>R.parts.map Pt.sym).length <= m * l.length:=by
  intro l hl
  induction l with
  | nil=>simp
  | cons R l ih =>
   have h1:=ih fun q hq=>hl q (by simp [hq])
   have h2:=hl R (by simp)
   simp only [List.flatMap_cons,List.length_append,List.length_map,List.length_cons,Nat.mul_add]
   omega
 exact Nat.le_trans (this g.rules hp) (Nat.mul_le_mul_left m hr)
theorem rInv_conv {g:Gr} {s:ByteArray} {X:List Bool} (h:RInv (convG g) s X):RInv g s X:=by
 refine ⟨h.len,h.me,fun y hy hm C c1 c2=>h.snd y hy hm C c1 fun R hR hs p hp hne=>?_⟩
 obtain ⟨Q,hQ,rfl⟩:=List.mem_map.1 hR
 exact c2 Q hQ hs p hp hne
theorem fixR_conv {g:Gr} {X:List Bool} (h:FixR (convG g) X):FixR g X:=fun R hR hm p hp hne=>h (convR R) (List.mem_map.2 ⟨R,hR,rfl⟩) hm p hp hne
theorem over_conv {g:Gr} {s:ByteArray} {X:List Bool} {S:List ByteArray} {most:Int} (hin:SortsIn g) (hs:hasF g.sorts s=true) (hI:RInv (convG g) s X) (hF:FixR (convG g) X) (hS:ReachS g s S):Over (convG g) (marked (convG g) X) most ↔ Over g S most:=by
 have hm:=fun y hy=>rch_iff hin hs (rInv_conv hI) (fixR_conv hF) hS (y:=y) hy
 constructor
 .rintro ⟨t,ht,L,h1,h2,h3⟩
  obtain ⟨ht1,ht2⟩:=List.mem_filter.1 ht
  exact ⟨t,(hm t (mem_has ht1)).1 ht2,L,h1,h2,fun w hw=>⟨gn_conv.1 (h3 w hw).1,(h3 w hw).2⟩⟩
 .rintro ⟨t,ht,L,h1,h2,h3⟩
  have htS:hasF g.sorts t=true:=by
   cases L with
   | nil=>simp at h2
   | cons w L =>
    obtain ⟨⟨R,hR,e,_⟩,_⟩:=h3 w (by simp)
    rw [<- e]; exact (hin R hR).1
  exact ⟨t,List.mem_filter.2 ⟨has_mem htS,(hm t htS).2 ht⟩,L,h1,h2,fun w hw=>⟨gn_conv.2 (h3 w hw).1,(h3 w hw).2⟩⟩
set_option maxHeartbeats 8000000 in
theorem sentences_law_c (g:Gr) (s:ByteArray) (most:Int) (hsl:g.sorts.length <= 2 ^ 31) (hrl:g.rules.length <= 2 ^ 31) (hpl:∀ R ∈ g.rules,R.parts.length <= 2 ^ 31) (hsc:g.sc.strip=g.sc) {h:AHeap}:AEx PP Gl 4 [encG g,.sc (.string s),i64 most] h (.ret (bl true)) h:=by
 refine enter_4 (by simp) ?_
 simp -implicitDefEqProofs [code_4,res_4,ann_4,encG]
 refine callk (small_c g 10 5 hsl hrl) (by simp [encG]) rfl ?_
 by_cases h1:smallF g 10 5=true
 case neg =>
  simp -implicitDefEqProofs [h1]
  refine callk awake_c rfl rfl ?_
  simp -implicitDefEqProofs
  exact ret1 (v:=bl true) (by simp [deferred,dslot]) (by simp [evalRes,evalRes1]) ⟨rfl,rfl⟩
 by_cases h2:(300:Int) < s.size
 .simp -implicitDefEqProofs [h1,h2]
  refine callk awake_c rfl rfl ?_
  simp -implicitDefEqProofs
  exact ret1 (v:=bl true) (by simp [deferred,dslot]) (by simp [evalRes,evalRes1]) ⟨rfl,rfl⟩
 by_cases h3:4 < most /\ most <= 12
 .obtain ⟨h3,h4⟩:=h3
  simp -implicitDefEqProofs [h1,h2,h3,h4]
  refine callk awake_c rfl rfl ?_
  simp -implicitDefEqProofs
  exact ret1 (v:=bl true) (by simp [deferred,dslot]) (by simp [evalRes,evalRes1]) ⟨rfl,rfl⟩
 obtain ⟨b1,b2,b3⟩:=small_bounds h1 (by omega)
 have hc:AEx PP Gl 23 [encG g] h (.ret (i64 (checkF g))) h:=check_c g b3 hsl hrl
 have hcl:(convG g).rules.length=g.rules.length:=by simp [convG]
 have hsz:sortedF (convG g) s=0 -> most <= 12 -> ((symsG (convG g)).length+1) ^ most.toNat <= 100000000:=fun e1 e2=>by
  rw [sorted_conv] at e1
  have G:=gok (sorted_mem e1).1
  have hG1:=G.sorts
  have hG2:=G.rules
  have h5:=h1
  unfold smallF at h5
  rw [if_neg (by omega),if_neg (by omega)] at h5
  simp only [Bool.and_eq_true,List.all_eq_true,decide_eq_true_eq] at h5
  have h6:=symsG_small (g:=g) (n:=10) (m:=5) (by omega) fun R hR=>by
   have:=h5.1.1 R hR
   simp only [badR,Bool.not_eq_true',Bool.or_eq_false_iff,Bool.and_eq_false_iff,decide_eq_false_iff_not] at this
   have:=G.parts R hR
   omega
  rw [symsG_conv]
  have h7:most.toNat <= 4:=by omega
  exact Nat.le_trans (Nat.pow_le_pow_left (show (symsG g).length+1 <= 51 by omega) _) (Nat.le_trans (Nat.pow_le_pow_right (by omega) h7) (by decide))
 have hle:=conv_le g
 have href:=(rSentences_c (convG g) s most hsl (by rw [hcl]; exact hrl) hsz (h:=h)).args (.cons hle (.refl _))
 have hp4:sortedF g s=0 -> ¬ most < 0 -> ¬ 12 < most -> most <= 4:=by omega
 by_cases h5:sortedF g s=0
 case neg =>
  have hbad:AEx PP Gl 17 [convS g,.sc (.string s),i64 most] h (.ret (.tup [.sl 0 [] .nil,i64 (sortedF g s)])) h:=by
   refine href.mono ?_
   rintro r h' ⟨rfl,⟨g1,rfl⟩ | ⟨g1,_⟩ | ⟨g1,_⟩⟩
   .rw [sorted_conv]; exact ⟨rfl,rfl⟩
   .rw [sorted_conv] at g1; exact (h5 g1).elim
   .rw [sorted_conv] at g1; exact (h5 g1).elim
  have hs0:AEx PP Gl 18 [.sl 0 [] .nil,.sl 0 [] .nil] h (.ret (bl true)) h:=by simpa [grown,encL] using sents_c [] (by simp) (by simp) (h:=h)
  by_cases h4:4 < most
  all_goals
   have h6:4 < most -> ¬ most <= 12:=fun h=>by omega
   simp -implicitDefEqProofs [h1,h2,h4,h6]
   refine callk (sentBad_c g s most h5 hsl hc) (by simp [encG]) rfl ?_
   simp -implicitDefEqProofs
   refine callk (conv_c g hrl hpl hsc) (by simp [encG]) rfl ?_
   simp -implicitDefEqProofs [convS]
   refine callk hbad (by simp [convS]) rfl ?_
   simp -implicitDefEqProofs
   refine callk hs0 rfl rfl ?_
   simp -implicitDefEqProofs
   refine callk awake_c rfl rfl ?_
   simp -implicitDefEqProofs
   exact ret1 (v:=bl true) (by simp [deferred,dslot]) (by simp [evalRes,evalRes1]) ⟨rfl,rfl⟩
 obtain ⟨hck,hhs⟩:=sorted_mem h5
 have G:=gok hck
 have hprog:=Sentences_c g s most (fun _=>⟨G.inn,G.syms,G.nd⟩) G.sorts (by have:=G.rules; omega) (fun R hR=>by have:=G.parts R hR; omega) hc
 by_cases h4:4 < most
 all_goals
  have h6:4 < most -> ¬ most <= 12:=fun h=>by omega
  simp -implicitDefEqProofs [h1,h2,h4,h6]
  refine callr hprog (by simp [encG]) rfl ?_
  rintro r h' ⟨rfl,⟨g1,_⟩ | ⟨_,g1,rfl⟩ | ⟨_,g1,g2,hO⟩⟩
  .exact (g1 h5).elim
  .simp -implicitDefEqProofs
   refine callk (conv_c g hrl hpl hsc) (by simp [encG]) rfl ?_
   simp -implicitDefEqProofs [convS]
   refine callr href (by simp [convS]) rfl ?_
   rintro r h' ⟨rfl,⟨g2,_⟩ | ⟨_,g2,rfl⟩ | ⟨_,g2,g3,_⟩⟩
   .rw [sorted_conv] at g2; exact (g2 h5).elim
   .have hs0:AEx PP Gl 18 [.sl 0 [] .nil,.sl 0 [] .nil] h' (.ret (bl true)) h':=by simpa [grown,encL] using sents_c [] (by simp) (by simp) (h:=h')
    simp -implicitDefEqProofs
    refine callk hs0 rfl rfl ?_
    simp -implicitDefEqProofs
    refine callk awake_c rfl rfl ?_
    simp -implicitDefEqProofs
    exact ret1 (v:=bl true) (by simp [deferred,dslot]) (by simp [evalRes,evalRes1]) ⟨rfl,rfl⟩
   .omega
  .obtain ⟨S,hS,hP⟩:=hO.plain G.syms g2
   have g4:∀ {P:Prop},(most < 0 \/ 12 < most) -> P:=fun h=>by omega
   rcases hP with ⟨ho,rfl⟩ | ⟨ho,l,l1,l2,l3,rfl⟩
   .simp -implicitDefEqProofs
    refine callk (conv_c g hrl hpl hsc) (by simp [encG]) rfl ?_
    simp -implicitDefEqProofs [convS]
    refine callr href (by simp [convS]) rfl ?_
    rintro r h' ⟨rfl,⟨g2,_⟩ | ⟨_,g2,_⟩ | ⟨_,_,_,X,hX,hF,⟨_,rfl⟩ | ⟨hn,_⟩⟩⟩
    .rw [sorted_conv] at g2; exact (g2 h5).elim
    .exact g4 g2
    .have hs0:AEx PP Gl 18 [.sl 0 [] .nil,.sl 0 [] .nil] h' (.ret (bl true)) h':=by simpa [grown,encL] using sents_c [] (by simp) (by simp) (h:=h')
     simp -implicitDefEqProofs
     refine callk hs0 rfl rfl ?_
     simp -implicitDefEqProofs
     refine callk awake_c rfl rfl ?_
     simp -implicitDefEqProofs
     exact ret1 (v:=bl true) (by simp [deferred,dslot]) (by simp [evalRes,evalRes1]) ⟨rfl,rfl⟩
    .exact (hn ((over_conv G.inn hhs hX hF hS).2 ho)).elim
   .simp -implicitDefEqProofs
    refine callk (conv_c g hrl hpl hsc) (by simp [encG]) rfl ?_
    simp -implicitDefEqProofs [convS]
    refine callr href (by simp [convS]) rfl ?_
    rintro r h' ⟨rfl,⟨g2,_⟩ | ⟨_,g2,_⟩ | ⟨_,_,_,X,hX,hF,⟨hn,_⟩ | ⟨_,m,m1,m2,rfl⟩⟩⟩
    .rw [sorted_conv] at g2; exact (g2 h5).elim
    .exact g4 g2
    .exact (ho ((over_conv G.inn hhs hX hF hS).1 hn)).elim
    .have hlm:l=m:=sortedW_unique ((List.perm_ext_iff_of_nodup l1 m1.nodup).2 fun w=>by rw [l3,m2,gn_conv]) l2 m1.sorted
     have hwl:∀ w ∈ l,w.length <= 2 ^ 31:=fun w hw=>by have:=((l3 w).1 hw).2; omega
     have hll:l.length <= 2 ^ 31:=by
      by_cases e:l.length <= 2000
      .omega
      .exact (ho ⟨s,(reach_cl hS).1,l,l1,by omega,fun w hw=>(l3 w).1 hw⟩).elim
     rw [<- hlm]
     simp -implicitDefEqProofs
     refine callk (sents_c l hll hwl) rfl rfl ?_
     simp -implicitDefEqProofs
     refine callk awake_c rfl rfl ?_
     simp -implicitDefEqProofs
     exact ret1 (v:=bl true) (by simp [deferred,dslot]) (by simp [evalRes,evalRes1]) ⟨rfl,rfl⟩
end Go.Apx
end
