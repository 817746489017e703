/- Walks: slices.ContainsFunc at statements, layout.Words of one statement, scope.formed. -/
import Derived.Test.YtmgajcmigkcmdaaGreatDoorNK
import Derived.Test.YtmgajcmigkcmdaaGreatDoorNJ
set_option linter.unusedVariables false
set_option linter.unusedSimpArgs false
set_option linter.unnecessarySimpa false
section
namespace Go.Apx
open Go.Proofs Go.Shelf
set_option maxRecDepth 4000
def idxS (p:St -> Bool):Nat -> List St -> Int
 | _,[]=>-1
 | i,s :: r=>if p s=true then (i:Int) else idxS p (i+1) r
theorem idxS_iff (p:St -> Bool):∀ (l:List St) (i:Nat),(0 <= idxS p i l) ↔ l.any p=true
 | [],i=>by simp [idxS]
 | s :: r,i=>by
  simp only [idxS,List.any_cons]
  cases e:p s with
  | true=>simp
  | false=>simp [idxS_iff p r (i+1)]
theorem idxS_step (p:St -> Bool) (l:List St) (i:Nat) (s:St) (h:l[i]?=some s):idxS p i (l.drop i)=if p s=true then (i:Int) else idxS p (i+1) (l.drop (i+1)):=by
 obtain ⟨hl,rfl⟩:=List.getElem?_eq_some_iff.1 h
 rw [List.drop_eq_getElem_cons hl]; rfl
set_option maxHeartbeats 2000000 in
theorem indexS_c (l:List St) (fid:Nat) (p:St -> Bool) (c:Cap) (hl:l.length <= 2 ^ 31) {h:AHeap} (hf:∀ s ∈ l,AEx PP Gl fid [encSt s] h (.ret (.sc (.bool (p s)))) h) :
  AEx PP Gl 34 [.sl 4 (l.map encSt) c,.fn (.func fid) [] []] h (.ret (i64 (idxS p 0 l))) h:=by
 refine enter_34 (by simp) ?_
 simp -implicitDefEqProofs [code_34,res_34,ann_34]
 refine AWp.till (S:=PuS) ⟨0⟩ (fun s=>l.length - s.i) [0,1,7] (fun s=>[(8,i64 (s.i:Int))]) (fun s=>h)
  (fun s=>s.i <= l.length /\ idxS p s.i (l.drop s.i)=idxS p 0 l) mixed (by simp) (le_of (by simp [dslot])) rfl ?_
 rintro ⟨i⟩ ⟨z1,z2⟩
 simp only at z1 z2
 by_cases hi:i < l.length
 case neg =>
  have hno:¬ (i:Int) < l.length:=by omega
  obtain rfl:i=l.length:=by omega
  rw [List.drop_length] at z2
  simp -implicitDefEqProofs [lp0_34,hno]
  exact retE (v:=i64 (-1)) (by simp [deferred,dslot]) rfl (by rw [<- z2]; rfl) rfl
 have hlt:(i:Int) < l.length:=by omega
 have wi:IntKind.i64.wrap ((i:Int)+1)=(i:Int)+1:=IntWalk.i64_in _ (by omega)
 obtain ⟨s,hs⟩:∃ s,s=l[i]:=⟨_,rfl⟩
 have hs2:l[i]?=some s:=by rw [hs]; simp [hi]
 have hstep:=idxS_step p l i s hs2
 rw [z2] at hstep
 simp -implicitDefEqProofs [lp0_34,hlt,hi,<- hs,encSt]
 refine callk (hf s (List.mem_of_getElem? hs2)) rfl rfl ?_
 cases e:p s with
 | true =>
  rw [if_pos e] at hstep
  rw [hstep]
  simp -implicitDefEqProofs
  exact retE (v:=i64 (i:Int)) (by simp [deferred,dslot]) rfl rfl rfl
 | false =>
  rw [if_neg (by rw [e]; simp)] at hstep
  simp -implicitDefEqProofs [wi]
  exact ⟨⟨i+1⟩,by simp; omega,⟨by simp; omega,by rw [hstep]⟩,le_of (by simp [dslot,encSt])⟩
theorem containsS_c (l:List St) (fid:Nat) (p:St -> Bool) (c:Cap) (hl:l.length <= 2 ^ 31) {h:AHeap} (hf:∀ s ∈ l,AEx PP Gl fid [encSt s] h (.ret (.sc (.bool (p s)))) h) :
  AEx PP Gl 18 [.sl 4 (l.map encSt) c,.fn (.func fid) [] []] h (.ret (.sc (.bool (l.any p)))) h:=by
 have hb:(decide (0 <= idxS p 0 l))=l.any p:=by
  have:=idxS_iff p l 0
  cases ha:l.any p with
  | true=>rw [ha] at this; simp at this ⊢; exact this
  | false=>rw [ha] at this; simp at this ⊢; exact this
 refine enter_18 (by simp) ?_
 simp -implicitDefEqProofs [code_18,res_18,ann_18]
 refine callk (indexS_c l fid p c hl hf) rfl rfl ?_
 simp -implicitDefEqProofs
 exact retE (v:=.sc (.bool (l.any p))) (by simp [deferred,dslot]) (by rw [<- hb]; simp [evalRes,evalRes1]) rfl rfl
structure Sm (s:St):Prop where
 tl:s.text.length <= 1000
 pl:s.proof.length <= 1000
 pw:∀ w ∈ s.proof,w.size <= 2 ^ 31
theorem words1_c (s:St) (sm:Sm s) {h:AHeap}:AEx PP Gl 90 [encSt s] h (.ret (.sc (.bool (!formF2 s)))) h:=by
 refine enter_90 (by simp) ?_
 simp -implicitDefEqProofs [code_90,res_90,ann_90,encSt]
 refine callk (formed2_c s (by have:=sm.tl; omega) (by have:=sm.pl; omega) sm.pw) rfl rfl ?_
 simp -implicitDefEqProofs
 exact retE (v:=.sc (.bool (!formF2 s))) (by simp [deferred,dslot]) rfl rfl rfl
theorem formF2_kind {s:St} (h:formF2 s=true):∃ k:Nat,s.kind=(k:Int) /\ 1 <= k /\ k < 10:=by
 unfold formF2 at h
 split at h
 .cases h
 .exact ⟨s.kind.toNat,by omega,by omega,by omega⟩
structure WS where
 i:Nat
 T:Nat
 H:AHeap
set_option maxHeartbeats 4000000 in
theorem wordsOne_c (s:St) (sm:Sm s) {h:AHeap}:AEx PP Gl 64 [.sl 4 [encSt s] .full] h (.ret (.tup [(if formF2 s=true then grown 1 ((wordsF (frow s.kind.toNat).2.1 (frow s.kind.toNat).1 s.kind.toNat (frow s.kind.toNat).2.2.2 s).map sv) else .sl 0 [] .nil),i64 (if formF2 s=true then 0 else 2)])) h:=by
 refine enter_64 (by simp) ?_
 have hcs:=containsS_c [s] 90 (fun s=>!formF2 s) .full (by simp) (h:=h) (fun t ht=>by obtain rfl:=List.mem_singleton.1 ht; exact words1_c t sm)
 simp only [List.map_cons,List.map_nil,List.any_cons,List.any_nil,Bool.or_false] at hcs
 simp -implicitDefEqProofs [code_64,res_64,ann_64]
 refine callk hcs rfl rfl ?_
 cases e:formF2 s with
 | false =>
  simp -implicitDefEqProofs
  exact retE (v:=.tup [.sl 0 [] .nil,i64 2]) (by simp [deferred,dslot]) rfl rfl rfl
 | true =>
  obtain ⟨k,hk,hk1,hk10⟩:=formF2_kind e
  have hkt:s.kind.toNat=k:=by omega
  rw [hkt]
  have hw:=wordsOf_c s k hk hk1 hk10 (by have:=sm.tl; omega) (by have:=sm.pl; omega) (h:=h)
  have hwl:=wordsF_len (frow k).2.1 (frow k).1 k (frow k).2.2.2 s
  obtain ⟨W,hW⟩:∃ W,W=wordsF (frow k).2.1 (frow k).1 k (frow k).2.2.2 s:=⟨_,rfl⟩
  rw [<- hW] at hw hwl ⊢
  have g0:Grow h.length h ([]:List ByteArray).length 0:=.nil _ _ _ (Nat.le_refl _)
  have hpu:∀ l:List ByteArray,purL (l.map sv)=true:=fun l=>purL_map (fun a=>(rfl:(sv a).pur=true)) l
  have hwl2:W.length <= 8000:=by have:=sm.tl; have:=sm.pl; omega
  have hno8:¬ 8000 < W.length:=by omega
  have hno8':¬ (8000:Int) < W.length:=by omega
  simp -implicitDefEqProofs
  refine AWp.till (S:=WS) ⟨0,0,h⟩ (fun s=>1 - s.i) [12,13] (fun s=>[(4,if s.i=0 then .sl 0 [] .nil else apd 1 (W.map sv) s.T),(14,i64 (s.i:Int))]) (fun s=>s.H)
   (fun s=>(s.i=0 /\ s.H=h) \/ (s.i=1 /\ Low h.length h s.H)) mixed (.inl ⟨rfl,rfl⟩) (le_of (by simp [dslot])) rfl ?_
  rintro ⟨i,T,H⟩ hz
  simp only at hz
  rcases hz with ⟨rfl,rfl⟩ | ⟨rfl,hz⟩
  .simp -implicitDefEqProofs [lp0_64,encSt]
   refine callk hw rfl rfl ?_
   simp -implicitDefEqProofs
   refine appY (base:=List.length H) [] W 0 g0 (by simp) (by unfold grown; by_cases hn:W=[] <;> simp [hn,elems]) (by simp; unfold maxLenA; omega) ?_
   intro H1 T1 E1 e1 g1 l1
   rw [List.nil_append] at e1
   subst e1
   have hlen:=(by simp [evalOp,apd]:evalOp Gl [] H1 (.len .sl (.c (apd 1 (E1.map sv) T1)))=some (i64 (E1.length:Int),H1))
   simp at hlen
   simp -implicitDefEqProofs [hlen,hno8,hno8']
   exact ⟨⟨1,T1,H1⟩,by simp,.inr ⟨rfl,l1⟩,le_of (by simp [dslot,encSt]),rfl⟩
  .simp -implicitDefEqProofs [lp0_64]
   exact retP (v:=.tup [apd 1 (W.map sv) T,i64 0]) (v':=.tup [grown 1 (W.map sv),i64 0]) (by simp [deferred,dslot]) (by simp [evalRes,evalRes1])
    (by simp only [AV.strip,stripL,strip_apd 1 (W.map sv) (W.map sv) T (purL_strip (hpu W))]) (by simp only [AV.pur,purL,pur_grown 1 (hpu W)]; rfl) hz rfl rfl
theorem formed_c (s:St) (sm:Sm s) {h:AHeap}:AEx PP Gl 45 [encSt s] h (.ret (.sc (.bool (formF2 s)))) h:=by
 refine enter_45 (by simp) ?_
 have hw:=wordsOne_c s sm (h:=h)
 simp -implicitDefEqProofs [code_45,res_45,ann_45,encSt]
 refine callk hw rfl rfl ?_
 cases e:formF2 s with
 | true =>
  simp -implicitDefEqProofs
  exact retE (v:=.sc (.bool true)) (by simp [deferred,dslot]) rfl rfl rfl
 | false =>
  simp -implicitDefEqProofs
  exact retE (v:=.sc (.bool false)) (by simp [deferred,dslot]) rfl rfl rfl
end Go.Apx
end
section
namespace Go.Apx
open Go.Proofs Go.Shelf
set_option maxRecDepth 4000
def x0:Sx:=⟨[],[],[],[],0,[],[],[],[],[],[],[]⟩
def newH (h:AHeap):AHeap:=h++[.amap [],.amap [],.amap [],.amap [],.amap [],.amap [],.cells 0 (stCells h.length (.sl 0 [] .nil) (.sl 0 [] .nil) (.sl 0 [] .nil) (.sl 0 [] .nil) (.sl 0 [] .nil) 0)]
theorem newState_c {h:AHeap}:AEx PP Gl 43 [] h (.ret (.ptr (h.length+6) 0 0)) (newH h):=by
 refine enter_43 (by simp) ?_
 simp -implicitDefEqProofs [code_43,res_43,ann_43]
 exact retE (v:=.ptr (h.length+6) 0 0) (by simp [deferred,dslot]) rfl rfl (by simp [newH])
theorem newSR (h:AHeap):SR (fun _=>9) h.length (newH h) x0 (.sl 0 [] .nil) (.sl 0 [] .nil) (.sl 0 [] .nil) (.sl 0 [] .nil) (.sl 0 [] .nil) 0:=by
 have hg:∀ j,(newH h)[h.length+j]?=([.amap [],.amap [],.amap [],.amap [],.amap [],.amap [],.cells 0 (stCells h.length (.sl 0 [] .nil) (.sl 0 [] .nil) (.sl 0 [] .nil) (.sl 0 [] .nil) (.sl 0 [] .nil) 0)]:AHeap)[j]?:=fun j=>by
  unfold newH
  rw [List.getElem?_append_right (by omega),Nat.add_sub_cancel_left]
 exact ⟨hg 6,hg 0,hg 1,hg 2,hg 3,hg 4,hg 5,rfl,fun h=>(h rfl).elim,Ow.nil _ _ _ _ _,Ow.nil _ _ _ _ _,Ow.nil _ _ _ _ _,Ow.nil _ _ _ _ _⟩
abbrev rulesV:AV:=.agg [.sc .nilFunc,.fn (.func 56) [] [],.fn (.func 57) [] [],.fn (.func 58) [] [],.fn (.func 59) [] [],.fn (.func 60) [] [],
 .fn (.func 61) [] [],.fn (.func 61) [] [],.fn (.func 62) [] [],.fn (.func 63) [] []]
theorem rules_c {h:AHeap}:AEx PP Gl 44 [] h (.ret rulesV) h:=by
 refine enter_44 (by simp) ?_
 simp -implicitDefEqProofs [code_44,res_44,ann_44]
 exact retE (v:=rulesV) (by simp [deferred,dslot]) rfl rfl rfl
end Go.Apx
end
section
namespace Go.Apx
open Go.Proofs Go.Shelf
set_option maxRecDepth 4000
structure XI (x:Sx) (n:Nat):Prop where
 ok:LvOk x
 d:x.d <= n
 cs:x.cs.length <= 1000 * n
 vs:x.vs.length <= 1000 * n
 hs:x.hs.length <= n
 ap:x.ap.length <= 1000000 * n
 ord:x.lv.Pairwise fun L M=>L.nv <= M.nv /\ L.nh <= M.nh /\ L.na <= M.na
def stepX (x:Sx) (a:Int) (s:St):Int × Sx :=
 if formF2 s=false then (2,x) else
 if s.kind=1 then conF x s else if s.kind=2 then varF x s else if s.kind=3 then floF x s (s.text.getD 0 ⟨#[]⟩) (s.text.getD 1 ⟨#[]⟩) else if s.kind=4 then essF x s
 else if s.kind=5 then disF x s else if s.kind=6 \/ s.kind=7 then assF x s else if s.kind=8 then openF x a else closeF x
theorem formF2_len {s:St} (h:formF2 s=true):(frow s.kind.toNat).2.2.1 <= s.text.length /\ s.text.length <= (frow s.kind.toNat).2.2.2:=by
 unfold formF2 at h
 split at h
 .cases h
 .simp only at h
  split at h
  .cases h
  .rename_i hn
   constructor
   .exact Nat.le_of_not_lt fun e=>hn (.inr (.inr (.inl e)))
   .exact Nat.le_of_not_lt fun e=>hn (.inr (.inr (.inr e)))
abbrev rulesL:List AV:=[.sc .nilFunc,.fn (.func 56) [] [],.fn (.func 57) [] [],.fn (.func 58) [] [],.fn (.func 59) [] [],.fn (.func 60) [] [],
 .fn (.func 61) [] [],.fn (.func 61) [] [],.fn (.func 62) [] [],.fn (.func 63) [] []]
section
variable {ρ:Nat -> Nat} {B:Nat} {H:AHeap} {x:Sx} {VC VV VH VA VL:AV} {T:Nat}
theorem step_c (hR:SR ρ B H x VC VV VH VA VL T) (a:Int) (s:St) (sm:Sm s) (so:s.tc=.nil -> s.text=[]) {n:Nat} (xi:XI x n) (hn:n <= 100) (hf:formF2 s=true) :
  ∃ k fid:Nat,s.kind=(k:Int) /\ 1 <= k /\ k < 10 /\ rulesL[k]?=some (.fn (.func fid) [] []) /\ ACalls PP Gl fid [.ptr (B+6) 0 0,i64 a,encSt s] H (StepP B H (stepX x a s)):=by
 obtain ⟨k,hk,h1,h10⟩:=formF2_kind hf
 have hlen:=formF2_len hf
 rw [show s.kind.toNat=k by omega] at hlen
 have htl:=sm.tl
 have q1:=xi.d
 have q2:=xi.cs
 have q3:=xi.vs
 have q4:=xi.hs
 have q5:=xi.ap
 have q6:=xi.ok.len
 have hnot:¬ formF2 s=false:=by rw [hf]; simp
 have key:∀ fid,rulesL[k]?=some (.fn (.func fid) [] []) -> ACalls PP Gl fid [.ptr (B+6) 0 0,i64 a,encSt s] H (StepP B H (stepX x a s)) -> ∃ k fid:Nat,s.kind=(k:Int) /\ 1 <= k /\ k < 10 /\ rulesL[k]?=some (.fn (.func fid) [] []) /\ ACalls PP Gl fid [.ptr (B+6) 0 0,i64 a,encSt s] H (StepP B H (stepX x a s)) :=
  fun fid e c=>⟨k,fid,hk,h1,h10,e,c⟩
 have hst:stepX x a s=if (k:Int)=1 then conF x s else if (k:Int)=2 then varF x s else if (k:Int)=3 then floF x s (s.text.getD 0 ⟨#[]⟩) (s.text.getD 1 ⟨#[]⟩) else if (k:Int)=4 then essF x s
   else if (k:Int)=5 then disF x s else if (k:Int)=6 \/ (k:Int)=7 then assF x s else if (k:Int)=8 then openF x a else closeF x:=by
  unfold stepX
  rw [if_neg hnot,hk]
 rw [hst] at key ⊢
 match k,h1,h10 with
 | 1,_,_=>exact key _ rfl (by rw [if_pos (by decide)]; exact con_c hR a s (by omega) (by omega))
 | 2,_,_=>exact key _ rfl (by rw [if_neg (by decide),if_pos (by decide)]; exact var_c hR a s (by omega) (by omega))
 | 3,_,_ =>
  have h2:s.text.length=2:=by
   have e1:(frow 3).2.2.1=2:=by decide
   have e2:(frow 3).2.2.2=2:=by decide
   omega
  obtain ⟨c,v,ht⟩:∃ c v,s.text=[c,v]:=by
   match hx:s.text,h2 with
   | [c,v],_=>exact ⟨c,v,rfl⟩
  refine key _ rfl ?_
  rw [if_neg (by decide),if_neg (by decide),if_pos (by decide)]
  have:=flo_c hR a s c v ht (fun e=>by rw [so e] at ht; cases ht) (by omega)
  rw [ht]
  exact this
 | 4,_,_ =>
  have e1:(frow 4).2.2.1=1:=by decide
  have hne:s.text ≠ []:=fun e=>by rw [e,e1] at hlen; simp at hlen
  exact key _ rfl (by rw [if_neg (by decide),if_neg (by decide),if_neg (by decide),if_pos (by decide)]; exact ess_c hR a s hne (fun e=>hne (so e)) (by omega) (by omega))
 | 5,_,_ =>
  have e1:(frow 5).2.2.1=1:=by decide
  have hne:s.text ≠ []:=fun e=>by rw [e,e1] at hlen; simp at hlen
  exact key _ rfl (by rw [if_neg (by decide),if_neg (by decide),if_neg (by decide),if_neg (by decide),if_pos (by decide)]; exact dis_c hR a s (fun e=>hne (so e)) (by omega) (by omega))
 | 6,_,_=>exact key _ rfl (by rw [if_neg (by decide),if_neg (by decide),if_neg (by decide),if_neg (by decide),if_neg (by decide),if_pos (by decide)]; exact ass_c hR a s (by omega))
 | 7,_,_=>exact key _ rfl (by rw [if_neg (by decide),if_neg (by decide),if_neg (by decide),if_neg (by decide),if_neg (by decide),if_pos (by decide)]; exact ass_c hR a s (by omega))
 | 8,_,_=>exact key _ rfl (by rw [if_neg (by decide),if_neg (by decide),if_neg (by decide),if_neg (by decide),if_neg (by decide),if_neg (by decide),if_pos (by decide)]; exact open_c hR a s (by omega) (by omega))
 | 9,_,_=>exact key _ rfl (by rw [if_neg (by decide),if_neg (by decide),if_neg (by decide),if_neg (by decide),if_neg (by decide),if_neg (by decide),if_neg (by decide)]; exact close_c hR a s xi.ok (by omega) (by omega) (by omega))
end
end Go.Apx
end
section
namespace Go.Apx
open Go.Proofs Go.Shelf
theorem conLoop_spec:∀ (l:List ByteArray) (x:Sx),(conLoop x l).2.vs=x.vs /\ (conLoop x l).2.hs=x.hs /\ (conLoop x l).2.ap=x.ap /\ (conLoop x l).2.d=x.d /\ (conLoop x l).2.lv=x.lv /\ (conLoop x l).2.cs.length <= x.cs.length+l.length
 | [],x=>⟨rfl,rfl,rfl,rfl,rfl,by simp [conLoop]⟩
 | c :: r,x=>by
  unfold conLoop
  split
  .exact ⟨rfl,rfl,rfl,rfl,rfl,by simp⟩
  .obtain ⟨h1,h2,h3,h4,h5,h6⟩:=conLoop_spec r { x with con:=sset x.con c true,cs:=x.cs++[c] }
   refine ⟨h1,h2,h3,h4,h5,?_⟩
   simp at h6 ⊢
   omega
theorem varLoop_spec:∀ (l:List ByteArray) (x:Sx),(varLoop x l).2.cs=x.cs /\ (varLoop x l).2.hs=x.hs /\ (varLoop x l).2.ap=x.ap /\ (varLoop x l).2.d=x.d /\ (varLoop x l).2.lv=x.lv /\ x.vs.length <= (varLoop x l).2.vs.length /\ (varLoop x l).2.vs.length <= x.vs.length+l.length
 | [],x=>⟨rfl,rfl,rfl,rfl,rfl,by simp [varLoop],by simp [varLoop]⟩
 | c :: r,x=>by
  unfold varLoop
  split
  .exact ⟨rfl,rfl,rfl,rfl,rfl,by simp,by simp⟩
  .obtain ⟨h1,h2,h3,h4,h5,h6,h7⟩:=varLoop_spec r { x with act:=sset x.act c true,dec:=sset x.dec c true,vs:=x.vs++[c] }
   refine ⟨h1,h2,h3,h4,h5,?_,?_⟩ <;> simp at h6 h7 ⊢ <;> omega
theorem XI.more {x y:Sx} {n:Nat} (h:XI x n) (hd:y.d=x.d) (hlv:y.lv=x.lv) (hcs:y.cs.length <= x.cs.length+1000) (hvs:x.vs.length <= y.vs.length) (hvs2:y.vs.length <= x.vs.length+1000)
  (hhs:x.hs.length <= y.hs.length) (hhs2:y.hs.length <= x.hs.length+1) (hap:x.ap.length <= y.ap.length) (hap2:y.ap.length <= x.ap.length+1000000) (htx:∀ e ∈ y.hs,e.fl=true -> 2 <= e.text.length):XI y (n+1):=by
 obtain ⟨⟨o1,o2,o3⟩,h2,h3,h4,h5,h6,h7⟩:=h
 refine ⟨⟨by rw [hlv,hd]; exact o1,fun L hL=>?_,htx⟩,by omega,by omega,by omega,by omega,by omega,by rw [hlv]; exact h7⟩
 rw [hlv] at hL
 obtain ⟨a1,a2,a3⟩:=o2 L hL
 exact ⟨by omega,by omega,by omega⟩
theorem XI.same {x y:Sx} {n:Nat} (h:XI x n) (hd:y.d=x.d) (hlv:y.lv=x.lv) (hcs:y.cs=x.cs) (hvs:y.vs=x.vs) (hhs:y.hs=x.hs) (hap:y.ap=x.ap):XI y (n+1) :=
 h.more hd hlv (by rw [hcs]; omega) (by rw [hvs]; exact Nat.le_refl _) (by rw [hvs]; omega) (by rw [hhs]; exact Nat.le_refl _) (by rw [hhs]; omega) (by rw [hap]; exact Nat.le_refl _) (by rw [hap]; omega) (by rw [hhs]; exact h.ok.tx)
theorem XI.open1 {x:Sx} {n:Nat} (h:XI x n) (a:Int):XI { x with d:=x.d+1,lv:=x.lv++[⟨a,x.vs.length,x.hs.length,x.ap.length⟩] } (n+1):=by
 obtain ⟨⟨o1,o2,o3⟩,h2,h3,h4,h5,h6,h7⟩:=h
 refine ⟨⟨by simp [o1],fun L hL=>?_,o3⟩,by simp only; omega,by simp only; omega,by simp only; omega,by simp only; omega,by simp only; omega,?_⟩
 rotate_left
 .simp only
  rw [List.pairwise_append]
  exact ⟨h7,List.pairwise_singleton _ _,fun L hL M hM=>by obtain rfl:=List.mem_singleton.1 hM; exact o2 L hL⟩
 rcases List.mem_append.1 hL with hL | hL
 .exact o2 L hL
 .obtain rfl:=List.mem_singleton.1 hL
  exact ⟨Nat.le_refl _,Nat.le_refl _,Nat.le_refl _⟩
theorem XI.close1 {x:Sx} {n k:Nat} {L:Lv} (h:XI x n) (hd:x.d=k+1) (hL:x.lv[k]?=some L):XI (closeX x k L) (n+1):=by
 obtain ⟨⟨o1,o2,o3⟩,h2,h3,h4,h5,h6,h7⟩:=h
 obtain ⟨a1,a2,a3⟩:=o2 L (List.mem_of_getElem? hL)
 refine ⟨⟨by simp [closeX,o1,hd],fun M hM=>?_,fun e he=>o3 e (List.mem_of_mem_take he)⟩,by simp only [closeX]; omega,by simp only [closeX]; omega,by simp [closeX]; omega,by simp [closeX]; omega,by simp [closeX]; omega,h7.sublist (List.take_sublist _ _)⟩
 obtain ⟨i,hi,rfl⟩:=List.mem_iff_getElem.1 hM
 have hi':i < k:=by simp [closeX] at hi; omega
 obtain ⟨hk,rfl⟩:=List.getElem?_eq_some_iff.1 hL
 have:=List.pairwise_iff_getElem.1 h7 i k (by omega) hk hi'
 simp only [closeX,List.getElem_take,List.length_take]
 omega
end Go.Apx
end
section
namespace Go.Apx
open Go.Proofs Go.Shelf
theorem prs_bound (l:List ByteArray) (h:l.length <= 1000):(prsF (wdsF l)).length <= 1000000:=by
 have h5:=prsF_len (wdsF l)
 have h6:(wdsF l).length <= 1000:=Nat.le_trans (wdsF_len l) h
 exact Nat.le_trans h5 (Nat.le_trans (Nat.mul_le_mul h6 h6) (by decide))
theorem xi_step (x:Sx) (a:Int) (s:St) (sm:Sm s) {n:Nat} (xi:XI x n) (h0:(stepX x a s).1=0):XI (stepX x a s).2 (n+1):=by
 have htl:=sm.tl
 have hlab:∀ l,XI (labX x l) (n+1):=fun l=>xi.same rfl rfl rfl rfl rfl rfl
 unfold stepX at h0 ⊢
 split at h0
 .simp at h0
 rename_i hf
 rw [if_neg hf]
 split at h0
 .rename_i e
  rw [if_pos e]
  unfold conF at h0 ⊢
  split at h0
  .simp at h0
  rename_i hd
  rw [if_neg hd]
  obtain ⟨h1,h2,h3,h4,h5,h6⟩:=conLoop_spec s.text x
  exact xi.more h4 h5 (by omega) (by rw [h1]; exact Nat.le_refl _) (by rw [h1]; omega) (by rw [h2]; exact Nat.le_refl _) (by rw [h2]; omega) (by rw [h3]; exact Nat.le_refl _) (by rw [h3]; omega) (by rw [h2]; exact xi.ok.tx)
 rename_i e1
 rw [if_neg e1]
 split at h0
 .rename_i e
  rw [if_pos e]
  obtain ⟨h1,h2,h3,h4,h5,h6,h7⟩:=varLoop_spec s.text x
  unfold varF
  exact xi.more h4 h5 (by rw [h1]; omega) h6 (by omega) (by rw [h2]; exact Nat.le_refl _) (by rw [h2]; omega) (by rw [h3]; exact Nat.le_refl _) (by rw [h3]; omega) (by rw [h2]; exact xi.ok.tx)
 rename_i e2
 rw [if_neg e2]
 split at h0
 .rename_i e
  rw [if_pos e]
  unfold floF at h0 ⊢
  split at h0
  .simp at h0
  rename_i hl
  rw [if_neg hl]
  split at h0
  .rename_i hn; exact (hn h0).elim
  rename_i hn
  rw [if_neg hn]
  refine xi.more rfl rfl (by simp [floX,labX]) (by simp [floX,labX]) (by simp [floX,labX]) (by simp [floX]) (by simp [floX]) (by simp [floX,labX]) (by simp [floX,labX]) fun e he hfl=>?_
  rcases List.mem_append.1 he with he | he
  .exact xi.ok.tx e he hfl
  .obtain rfl:=List.mem_singleton.1 he; simp
 rename_i e3
 rw [if_neg e3]
 split at h0
 .rename_i e
  rw [if_pos e]
  unfold essF at h0 ⊢
  split at h0
  .simp at h0
  rename_i hl
  rw [if_neg hl]
  split at h0
  .rename_i hn; exact (hn h0).elim
  rename_i hn
  rw [if_neg hn]
  refine xi.more rfl rfl (by simp [labX]) (by simp [labX]) (by simp [labX]) (by simp) (by simp) (by simp [labX]) (by simp [labX]) fun e he hfl=>?_
  rcases List.mem_append.1 he with he | he
  .exact xi.ok.tx e he hfl
  .obtain rfl:=List.mem_singleton.1 he; simp at hfl
 rename_i e4
 rw [if_neg e4]
 split at h0
 .rename_i e
  rw [if_pos e]
  unfold disF at h0 ⊢
  split at h0
  .simp at h0
  rename_i hl
  rw [if_neg hl]
  split at h0
  .rename_i hn; exact (hn h0).elim
  rename_i hn
  rw [if_neg hn]
  have:=prs_bound s.text htl
  exact xi.more rfl rfl (by simp) (by simp) (by simp) (by simp) (by simp) (by simp) (by simp; omega) xi.ok.tx
 rename_i e5
 rw [if_neg e5]
 split at h0
 .rename_i e
  rw [if_pos e]
  unfold assF at h0 ⊢
  split at h0
  .simp at h0
  rename_i hl
  rw [if_neg hl]
  exact hlab _
 rename_i e6
 rw [if_neg e6]
 split at h0
 .rename_i e
  rw [if_pos e]
  unfold openF at h0 ⊢
  split at h0
  .simp at h0
  rename_i hl
  rw [if_neg hl]
  exact xi.open1 a
 rename_i e7
 rw [if_neg e7]
 unfold closeF at h0 ⊢
 split at h0
 .simp at h0
 rename_i hd
 rw [if_neg hd]
 have hlv:=xi.ok.len
 obtain ⟨k,hk⟩:∃ k,x.d=k+1:=⟨x.d - 1,by omega⟩
 obtain ⟨L,hL⟩:∃ L,x.lv[k]?=some L:=⟨x.lv[k]'(by omega),by simp⟩
 rw [hk,Nat.add_sub_cancel,hL]
 exact xi.close1 hk hL
end Go.Apx
end
section
namespace Go.Apx
open Go.Proofs Go.Shelf
set_option maxRecDepth 4000
def runF:Nat -> Sx -> List St -> (Int × Int) ⊕ Sx
 | _,x,[]=>.inr x
 | i,x,s :: r=>if (stepX x i s).1=0 then runF (i+1) (stepX x i s).2 r else .inl (i,(stepX x i s).1)
theorem runF_step (x:Sx) (l:List St) (i:Nat) (s:St) (h:l[i]?=some s):runF i x (l.drop i)=if (stepX x i s).1=0 then runF (i+1) (stepX x i s).2 (l.drop (i+1)) else .inl (i,(stepX x i s).1):=by
 obtain ⟨hl,rfl⟩:=List.getElem?_eq_some_iff.1 h
 rw [List.drop_eq_getElem_cons hl]; rfl
theorem xi0:XI x0 0:=⟨⟨rfl,fun L h=>by simp [x0] at h,fun e h=>by simp [x0] at h⟩,by simp [x0],by simp [x0],by simp [x0],by simp [x0],by simp [x0],by simp [x0]⟩
abbrev brokenA (i e:Int):AV:=.ifc 91 (.agg [i64 i,i64 e])
def RunP (h:AHeap) (res:(Int × Int) ⊕ Sx) (n:Nat) (r:AEnd) (h':AHeap):Prop :=
 match res with
 | .inl (i,e)=>r=.ret (.tup [.sc (.pointer none),brokenA i e]) /\ h'=h
 | .inr x=>r=.ret (.tup [.ptr (h.length+6) 0 0,.sc .nilIface]) /\ Low h.length h h' /\ XI x n /\ SE h.length h' x
set_option maxHeartbeats 8000000 in
theorem run_c (l:List St) (c:Cap) (hl:l.length <= 100) (sm:∀ s ∈ l,Sm s) (so:∀ s ∈ l,s.tc=.nil -> s.text=[]) {h:AHeap}:ACalls PP Gl 31 [.sl 4 (l.map encSt) c] h (RunP h (runF 0 x0 l) l.length):=by
 refine enter_31 (by simp) ?_
 simp -implicitDefEqProofs [code_31,res_31,ann_31]
 refine callk newState_c rfl rfl ?_
 simp -implicitDefEqProofs
 obtain ⟨RL,hRL⟩:∃ RL,RL=rulesL:=⟨_,rfl⟩
 have hrc:AEx PP Gl 44 [] (newH h) (.ret (.agg RL)) (newH h):=by rw [hRL]; exact rules_c
 have hRl:RL.length=10:=by rw [hRL]; rfl
 have hRo:∀ x ∈ RL,x.one=true:=by rw [hRL]; decide
 refine callk hrc rfl rfl ?_
 simp -implicitDefEqProofs [hRl]
 rw [if_pos hRo]
 refine ⟨rfl,hRl,?_⟩
 refine AWp.till (S:=XS) ⟨0,x0,newH h⟩ (fun s=>l.length - s.i) [5,4,11,12] (fun s=>[(13,i64 (s.i:Int))]) (fun s=>s.H)
  (fun s=>s.i <= l.length /\ runF s.i s.X (l.drop s.i)=runF 0 x0 l /\ Low h.length h s.H /\ XI s.X s.i /\ SE h.length s.H s.X) mixed ⟨by simp,by simp,by unfold newH; exact Low.app _ _ _,xi0,_,_,_,_,_,_,_,newSR h⟩ (le_of (by simp [dslot])) rfl ?_
 rintro ⟨i,X,H1⟩ ⟨z1,z2,z3,z4,ρ,VC,VV,VH,VA,VL,T,hR⟩
 simp only at z1 z2 z3 z4 hR
 by_cases hi:i < l.length
 case neg =>
  have hno:¬ (i:Int) < l.length:=by omega
  obtain rfl:i=l.length:=by omega
  rw [List.drop_length] at z2
  simp -implicitDefEqProofs [lp0_31,hno]
  exact ret1 (v:=.tup [.ptr (h.length+6) 0 0,.sc .nilIface]) (by simp [deferred,dslot]) rfl (by rw [<- z2]; exact ⟨rfl,z3,z4,_,_,_,_,_,_,_,hR⟩)
 have hlt:(i:Int) < l.length:=by omega
 have wi:IntKind.i64.wrap ((i:Int)+1)=(i:Int)+1:=IntWalk.i64_in _ (by omega)
 obtain ⟨s,hs⟩:∃ s,s=l[i]:=⟨_,rfl⟩
 have hs2:l[i]?=some s:=by rw [hs]; simp [hi]
 have hmem:=List.mem_of_getElem? hs2
 have hstep:=runF_step X l i s hs2
 rw [z2] at hstep
 have fin:∀ (e:Int) (H':AHeap) (env:Env),e ≠ 0 -> (stepX X i s).1=e -> Low h.length h H' -> deferred env=some [] -> evalRes Gl env H' [.t 2,.t 3]=some (.tup [.sc (.pointer none),brokenA i e]) -> retPost PP Gl h [.t 2,.t 3] (RunP h (runF 0 x0 l) l.length) .ret env H':=fun e H' env he hs hL hd hv=>by
  have hr:runF 0 x0 l=.inl ((i:Int),e):=by rw [hstep,if_neg (by rw [hs]; exact he),hs]
  refine retCut (v:=.tup [.sc (.pointer none),brokenA i e]) h.length hd hv (Nat.le_refl _) hL.len rfl hL.cl ?_
  rw [hL.take,hr]
  exact ⟨rfl,rfl⟩
 simp -implicitDefEqProofs [lp0_31,hlt,hi,<- hs,encSt]
 refine callk (formed_c s (sm s hmem)) rfl rfl ?_
 cases hf:formF2 s with
 | false =>
  have he:(stepX X i s).1=2:=by unfold stepX; rw [if_pos hf]
  simp -implicitDefEqProofs
  exact fin 2 H1 _ (by decide) he z3 (by simp [deferred,dslot]) rfl
 | true =>
  obtain ⟨k,fid,hk,hk1,hk10,hfn,hc⟩:=step_c hR (i:Int) s (sm s hmem) (so s hmem) z4 (by omega) hf
  have hfn':RL[k]?=some (.fn (.func fid) [] []):=by rw [hRL]; exact hfn
  simp -implicitDefEqProofs [hk,hk10,hfn']
  refine callr hc (by simp [encSt,hk]) rfl ?_
  rintro r h' ⟨rfl,hL,hS⟩
  have hxi:=xi_step X (i:Int) s (sm s hmem) z4
  obtain ⟨E,hE⟩:∃ E,E=(stepX X (i:Int) s).1:=⟨_,rfl⟩
  rw [<- hE] at hS hxi
  simp only [<- hE]
  by_cases e0:E=0
  .rw [if_pos (by rw [<- hE]; exact e0)] at hstep
   simp -implicitDefEqProofs [e0,wi]
   exact ⟨⟨i+1,(stepX X (i:Int) s).2,h'⟩,by simp; omega,⟨by simp; omega,hstep.symm,z3.trans hL,hxi e0,hS e0⟩,le_of (by simp [dslot,encSt,hk]),rfl⟩
  .simp -implicitDefEqProofs [e0]
   exact fin E h' _ e0 hE.symm (z3.trans hL) (by simp [deferred,dslot]) (by simp [evalRes,evalRes1])
end Go.Apx
end
section
namespace Go.Apx
open Go.Proofs Go.Shelf
set_option maxRecDepth 4000
theorem result_c (i e:Int) {h:AHeap}:AEx PP Gl 32 [brokenA i e] h (.ret (.tup [i64 i,i64 e])) h:=by
 refine enter_32 (by simp) ?_
 simp -implicitDefEqProofs [code_32,res_32,ann_32]
 refine callk (As_ex (h:=h++[.cells 0 [i64 0,i64 0]]) (o:=h.length) (g:=0) (x:=.int .i64 i) (y:=.int .i64 e) (u:=i64 0) (v:=i64 0) rfl rfl (by simp)) rfl rfl ?_
 rw [set_end]
 simp -implicitDefEqProofs
 exact retP (v:=.tup [i64 i,i64 e]) (v':=.tup [i64 i,i64 e]) (by simp [deferred,dslot]) rfl rfl rfl (Low.app _ _ _) rfl rfl
def checkF (l:List St):Int × Int:=match runF 0 x0 l with | .inl (i,e)=>(i,e) | .inr x=>if x.d=0 then (0,0) else match x.lv[x.d - 1]? with | some L=>(L.at_,67) | none=>(0,0)
set_option maxHeartbeats 4000000 in
theorem check_c (l:List St) (c:Cap) (hl:l.length <= 100) (sm:∀ s ∈ l,Sm s) (so:∀ s ∈ l,s.tc=.nil -> s.text=[]) {h:AHeap}:AEx PP Gl 16 [.sl 4 (l.map encSt) c] h (.ret (.tup [i64 (checkF l).1,i64 (checkF l).2])) h:=by
 have h1:¬ (2000:Int) < l.length:=by omega
 have h2:(l.length:Int) <= 2000:=by omega
 have h3:¬ 2000 < l.length:=by omega
 refine enter_16 (by simp) ?_
 simp -implicitDefEqProofs [code_16,res_16,ann_16,h1,h2,h3]
 refine callr (run_c l c hl sm so) rfl rfl ?_
 intro r h' hr
 cases hF:runF 0 x0 l with
 | inl p =>
  obtain ⟨i,e⟩:=p
  rw [hF] at hr
  obtain ⟨rfl,rfl⟩:=hr
  simp -implicitDefEqProofs
  refine callk (result_c i e) rfl rfl ?_
  simp -implicitDefEqProofs
  exact retE (v:=.tup [i64 i,i64 e]) (by simp [deferred,dslot]) rfl (by simp [checkF,hF]) rfl
 | inr x =>
  rw [hF] at hr
  obtain ⟨rfl,low,xi,ρ,VC,VV,VH,VA,VL,T,hR⟩:=hr
  have g1:=hR.st
  by_cases hd:x.d=0
  .have hd1:¬ 0 < x.d:=by omega
   have hd2:¬ (0:Int) < x.d:=by omega
   simp -implicitDefEqProofs [g1,hd,hd1,hd2]
   exact retP (v:=.tup [i64 0,i64 0]) (v':=.tup [i64 0,i64 0]) (by simp [deferred,dslot]) rfl rfl rfl low (by simp [checkF,hF,hd]) rfl
  .obtain ⟨n,hn⟩:∃ n,x.d=n+1:=⟨x.d - 1,by omega⟩
   have hlvl:x.lv.length=n+1:=by rw [xi.ok.len,hn]
   have q1:=xi.d
   obtain ⟨L,hL⟩:∃ L,x.lv[n]?=some L:=⟨x.lv[n]'(by omega),by simp⟩
   have hd1:0 < x.d:=by omega
   have hd2:(0:Int) < x.d:=by omega
   have hsub:((x.d:Int) - 1)=(n:Int):=by omega
   have wi:IntKind.i64.wrap ((x.d:Int) - 1)=(n:Int):=by rw [hsub]; exact IntWalk.i64_in _ (by omega)
   rcases hR.vl.2 with ⟨h0,_⟩ | ⟨al,gl,zl,hVL,hal,hbl,hrl⟩
   .omega
   subst hVL
   have hrow:cut (x.lv.flatMap Lv.cells++zl) (n * 4) 4=[i64 L.at_,i64 (L.nv:Int),i64 (L.nh:Int),i64 (L.na:Int)]:=rowCut (k:=4) (fun _=>rfl) x.lv zl n L hL
   have h0:(x.lv.flatMap Lv.cells++zl)[n * 4]?=some (i64 L.at_):=by
    have:=congrArg (fun l:List AV=>l[0]?) hrow
    simpa [cut,List.getElem?_take,List.getElem?_drop] using this
   obtain ⟨LC,hLC⟩:∃ LC,LC=x.lv.flatMap Lv.cells++zl:=⟨_,rfl⟩
   rw [<- hLC] at h0 hal
   have hnl:n < x.lv.length:=by omega
   have hcF:checkF l=(L.at_,67):=by simp [checkF,hF,hd,hn,hL]
   rw [hcF]
   simp -implicitDefEqProofs [g1,hd1,hd2,wi,hnl,hal,h0]
   exact retP (v:=.tup [i64 L.at_,i64 67]) (v':=.tup [i64 L.at_,i64 67]) (by simp [deferred,dslot]) rfl rfl rfl low rfl rfl
end Go.Apx
end
section
namespace Go.Apx
open Go.Proofs Go.Shelf
set_option maxRecDepth 4000
abbrev actNil:AV:=.agg [.sl 0 [] .nil,.sl 0 [] .nil,.sl 0 [] .nil,.sl 0 [] .nil,i64 0]
set_option maxHeartbeats 4000000 in
theorem at_range (l:List St) (c:Cap) (i:Int) (hl:l.length <= 100) (hi:i < 0 \/ (l.length:Int) < i) {h:AHeap}:AEx PP Gl 17 [.sl 4 (l.map encSt) c,i64 i] h (.ret (.tup [actNil,i64 3])) h:=by
 refine enter_17 (by simp) ?_
 by_cases h0:i < 0
 .simp -implicitDefEqProofs [code_17,res_17,ann_17,h0]
  exact retP (v:=.tup [actNil,i64 3]) (v':=.tup [actNil,i64 3]) (by simp [deferred,dslot]) (by simp [evalRes,evalRes1]) rfl rfl (Low.app _ _ _) rfl rfl
 .have h1:(l.length:Int) < i:=by omega
  simp -implicitDefEqProofs [code_17,res_17,ann_17,h0,h1]
  exact retP (v:=.tup [actNil,i64 3]) (v':=.tup [actNil,i64 3]) (by simp [deferred,dslot]) (by simp [evalRes,evalRes1]) rfl rfl (Low.app _ _ _) rfl rfl
set_option maxHeartbeats 4000000 in
theorem at_err (l:List St) (c:Cap) (i:Nat) (hl:l.length <= 100) (hi:i <= l.length) (sm:∀ s ∈ l,Sm s) (so:∀ s ∈ l,s.tc=.nil -> s.text=[]) {a e:Int} (hF:runF 0 x0 (l.take i)=.inl (a,e)) {h:AHeap} :
  AEx PP Gl 17 [.sl 4 (l.map encSt) c,i64 (i:Int)] h (.ret (.tup [actNil,i64 e])) h:=by
 refine enter_17 (by simp) ?_
 have h0:¬ (i:Int) < 0:=by omega
 have h1:¬ (l.length:Int) < i:=by omega
 have h1':¬ l.length < i:=by omega
 have h2:¬ (2000:Int) < i:=by omega
 have h2':¬ 2000 < i:=by omega
 simp -implicitDefEqProofs [code_17,res_17,ann_17,h0,h1,h1',h2,h2',hi]
 have hrun:=fun c'=>run_c (l.take i) c' (by rw [List.length_take]; omega) (fun s hs=>sm s (List.mem_of_mem_take hs)) (fun s hs=>so s (List.mem_of_mem_take hs)) (h:=h++[.cells 0 [.sl 0 [] .nil,.sl 0 [] .nil,.sl 0 [] .nil,.sl 0 [] .nil,i64 0]])
 rw [hF,List.map_take] at hrun
 refine callr (hrun _) rfl rfl ?_
 rintro r h' ⟨rfl,rfl⟩
 simp -implicitDefEqProofs
 refine callk (result_c a e) rfl rfl ?_
 simp -implicitDefEqProofs
 exact retP (v:=.tup [actNil,i64 e]) (v':=.tup [actNil,i64 e]) (by simp [deferred,dslot]) (by simp [evalRes,evalRes1]) rfl rfl (Low.app _ _ _) rfl rfl
end Go.Apx
end
section
namespace Go.Apx
open Go.Proofs Go.Shelf
set_option maxRecDepth 4000
theorem sorted_rf0 (o g off:Nat) (rc:RCap) {h:AHeap}:AEx PP Gl 33 [.rf o g off 0 rc] h (.ret (.sl 2 [] .full)) h:=by
 refine enter_33 (by simp) ?_
 have h1:=cloneP_c [] (.rf o g off 0 rc) (h:=h) rfl (by simp [elems]) (by simp)
 simp only [cpV,cpH,List.map_nil,if_true] at h1
 simp -implicitDefEqProofs [code_33,res_33,ann_33]
 refine callk h1 rfl rfl ?_
 simp -implicitDefEqProofs
 refine callk (sortP_sl 2 .full _) rfl rfl ?_
 simp -implicitDefEqProofs
 refine callk (compactP_sl 2 .full) rfl rfl ?_
 simp -implicitDefEqProofs
 exact retE (v:=.sl 2 [] .full) (by simp [deferred,dslot]) rfl rfl rfl
theorem sorted_nilq (q:Nat) {h:AHeap}:AEx PP Gl 33 [.sl q [] .nil] h (.ret (.sl 0 [] .nil)) h:=by
 refine enter_33 (by simp) ?_
 simp -implicitDefEqProofs [code_33,res_33,ann_33]
 refine callk (cloneP_nil q []) rfl rfl ?_
 simp -implicitDefEqProofs
 refine callk (sortP_sl 0 .nil _) rfl rfl ?_
 simp -implicitDefEqProofs
 refine callk (compactP_sl 0 .nil) rfl rfl ?_
 simp -implicitDefEqProofs
 exact retE (v:=.sl 0 [] .nil) (by simp [deferred,dslot]) rfl rfl rfl
end Go.Apx
end
