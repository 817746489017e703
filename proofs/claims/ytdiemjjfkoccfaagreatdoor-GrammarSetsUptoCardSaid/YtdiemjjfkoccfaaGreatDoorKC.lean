/- Plain law: the rounds by which sentences are found, how they end. -/
import Derived.Test.YtdiemjjfkoccfaaGreatDoorKB
import Derived.Test.YtdiemjjfkoccfaaGreatDoorAmG
set_option linter.unusedVariables false
set_option linter.unusedSimpArgs false
set_option linter.unnecessarySimpa false
section
namespace Go.Apx
open Go.Proofs
set_option maxRecDepth 4000
def bS (g:Gr) (M:List Int) (most:Int) (S:List ByteArray) (x:St × Bool) (R:Rl):St × Bool :=
 if x.2=true then (if R.sort ∈ S then bz g M most R.sort R.parts [] x.1 else x) else x
def roundsE (g:Gr) (M:List Int) (most:Int) (S:List ByteArray) (x:St × Bool):St × Bool:=g.rules.foldl (bS g M most S) x
def bZ (g:Gr) (M:List Int) (most:Int) (S:List ByteArray):Nat -> St × Bool
 | 0=>([],true)
 | k+1=>roundsE g M most S (bZ g M most S k)
theorem roundE_stop {g:Gr} {M:List Int} {most:Int} {S:List ByteArray}:∀ (l:List Rl) (x:St × Bool),x.2=false -> l.foldl (bS g M most S) x=x
 | [],x,_=>rfl
 | R :: l,x,h=>by
  rw [List.foldl_cons]
  have:bS g M most S x R=x:=by unfold bS; rw [if_neg (by simp [h])]
  rw [this]
  exact roundE_stop l x h
def SymsOk (g:Gr):Prop:=∀ R ∈ g.rules,symsOk R.parts
theorem roundE_ok {g:Gr} {M:List Int} {most:Int} {S:List ByteArray} (hM:LenOk g M) (hmo:most <= 12) {x:St × Bool} {R:Rl} (hy:symsOk R.parts) (hs:x.2=true -> StOk most x.1) (h:(bS g M most S x R).2=true):StOk most (bS g M most S x R).1:=by
 unfold bS at h ⊢
 by_cases h1:x.2=true
 .rw [if_pos h1] at h ⊢
  by_cases h2:R.sort ∈ S
  .rw [if_pos h2] at h ⊢
   exact extF_ok hM hmo _ _ _ hy (fun x hx=>by simp at hx) (hs h1) h
  .rw [if_neg h2]; exact hs h1
 .rw [if_neg h1] at h; exact (h1 h).elim
theorem totS_sset:∀ (st:St) (s:ByteArray) (l:List W),totS (bE st s l)+((bF st s).getD []).length=totS st+l.length
 | [],s,l=>by simp [bE,bF,totS]
 | (k,x) :: st,s,l=>by
  have ih:=totS_sset st s l
  simp only [bE,bF,totS] at ih ⊢
  split
  .simp only [List.map_cons,List.sum_cons,Option.getD_some]; omega
  .simp only [List.map_cons,List.sum_cons]; omega
structure Stp (g:Gr) (st st':St):Prop where
 tot:totS st <= totS st'
 keys:(∀ p ∈ st,p.1 ∈ g.sorts) -> ∀ p ∈ st',p.1 ∈ g.sorts
theorem Stp.refl (g:Gr) (st:St):Stp g st st:=⟨Nat.le_refl _,fun h=>h⟩
theorem Stp.trans {g:Gr} {a b c:St} (h:Stp g a b) (h':Stp g b c):Stp g a c:=⟨Nat.le_trans h.tot h'.tot,fun h1=>h'.keys (h.keys h1)⟩
theorem addF_stp {g:Gr} {st:St} {s:ByteArray} {l:W} (hs:s ∈ g.sorts):Stp g st (addF st s l).1:=by
 unfold addF
 split
 .exact .refl _ _
 .refine ⟨?_,fun h p hp=>?_⟩
  .have:=totS_sset st s (bh st s++[l])
   simp only [bh,List.length_append,List.length_singleton] at this ⊢
   omega
  .rcases mem_sset' hp with rfl | hp
   .exact hs
   .exact h p hp
theorem extF_stp {g:Gr} {M:List Int} {most:Int} {s:ByteArray} (hs:s ∈ g.sorts):∀ (l:List Pt) (bg:W) (st:St),Stp g st (bz g M most s l bg st).1
 | [],bg,st=>by
  unfold bz
  split
  .exact .refl _ _
  .exact addF_stp hs
 | p :: r,bg,st=>by
  unfold bz
  split
  .exact .refl _ _
  .split
   .exact extF_stp hs r _ _
   .have key:∀ (xs:List W) (x:St × Bool),Stp g x.1 (xs.foldl (fun (x:St × Bool) y=>if x.2=true then bz g M most s r (bg++y) x.1 else x) x).1:=by
     intro xs
     induction xs with
     | nil=>intro x; exact .refl _ _
     | cons y xs ih =>
      intro x
      rw [List.foldl_cons]
      refine Stp.trans ?_ (ih _)
      split
      .exact extF_stp hs r _ _
      .exact .refl _ _
    exact key (bh st p.sort) (st,true)
termination_by l=>l.length
theorem roundE_stp {g:Gr} {M:List Int} {most:Int} {S:List ByteArray} {x:St × Bool} {R:Rl} (hs:R.sort ∈ g.sorts):Stp g x.1 (bS g M most S x R).1:=by
 unfold bS
 split
 .split
  .exact extF_stp hs _ _ _
  .exact .refl _ _
 .exact .refl _ _
theorem fold_stp {g:Gr} {M:List Int} {most:Int} {S:List ByteArray}:∀ (l:List Rl) (x:St × Bool),(∀ R ∈ l,R.sort ∈ g.sorts) -> Stp g x.1 (l.foldl (bS g M most S) x).1
 | [],x,_=>.refl _ _
 | R :: l,x,h=>by
  rw [List.foldl_cons]
  exact (roundE_stp (h R (by simp))).trans (fold_stp l _ (fun q hq=>h q (by simp [hq])))
theorem nodup_le:∀ {a b:List ByteArray},a.Nodup -> (∀ x ∈ a,x ∈ b) -> a.length <= b.length
 | [],b,_,_=>Nat.zero_le _
 | x :: a,b,hn,h=>by
  simp only [List.nodup_cons] at hn
  have hx:=h x (by simp)
  have:=nodup_le (a:=a) (b:=b.erase x) hn.2 fun y hy=>by
   have hne:y ≠ x:=by rintro rfl; exact hn.1 hy
   exact (List.mem_erase_of_ne hne).2 (h y (by simp [hy]))
  rw [List.length_erase_of_mem hx] at this
  have:=List.length_pos_of_mem hx
  simp only [List.length_cons]
  omega
theorem totS_le {most:Int}:∀ {st:St},StOk most st -> totS st <= 2000 * st.length
 | [],_=>by simp [totS]
 | p :: st,h=>by
  have ih:=totS_le (st:=st) (fun q hq=>h q (by simp [hq]))
  have:=(h p (by simp)).1
  simp only [totS,List.map_cons,List.sum_cons,List.length_cons] at ih ⊢
  omega
end Go.Apx
end
section
namespace Go.Apx
open Go.Proofs
set_option maxRecDepth 4000
theorem AWp.go {a b c:ACode} {n:Nat} {ann:List Nat} {k:Nat} {ro:Option Nat} {Q:APost} {env:Env} {h:AHeap} (e:c=.seq a b) (hw:bD ⟨PP,Gl,n,ann,k,ro⟩ a (thenP (fun env' h'=>AWp ⟨PP,Gl,n,ann,k,ro⟩ b Q env' h') Q) env h):AWp ⟨PP,Gl,n,ann,k,ro⟩ c Q env h:=by
 subst e; exact AWp.seq (aB mixed hw)
theorem ACalls.freezeO {P:Program} {G:Globs} {f:FuncId} {args:List AV} {h:AHeap} {R R':AEnd -> AHeap -> Prop} (hc:ACalls P G f args h R) (hf:∀ r H,R r H -> R' r H \/ ∃ v i g k cs,r=.ret v /\ H[i]?=some (.cells g cs) /\ R' (.ret (v.frz i g k cs)) (H.set i .dead)):ACalls P G f args h R':=by
 refine ⟨hc.1,fun I m w vs hi ha=>(hc.2 I m w vs hi ha).mono ?_⟩
 rintro e w' ⟨r,h',I',m',hR,hE,hv',ht⟩
 rcases hf r h' hR with hR' | ⟨v,i,g,k,cs,rfl,ho,hR'⟩
 .exact ⟨_,_,I',m',hR',hE,hv',ht⟩
 obtain ⟨I2,q1,q2,q3,q4,q5⟩:=hv'.freeze ho k
 refine ⟨_,_,I2,m'.set i .dead,hR',?_,q1,ht.trans (q2 _)⟩
 cases e with
 | returned x=>exact q5 v x hE
 | _=>exact hE.elim
section
variable {P:Program} {G:Globs} {f:FuncId} {args:List AV} {h:AHeap} {R R':AEnd -> AHeap -> Prop}
theorem ACalls.dropR (hc:ACalls P G f args h R) (hd:∀ r H,R r H -> ∃ v,r=.ret v /\ v.inb h.length=true /\ Low h.length h H /\ R' (.ret v) h):ACalls P G f args h R':=by
 refine ⟨hc.1,fun I m w vs hi ha=>(hc.2 I m w vs hi ha).mono ?_⟩
 rintro e w' ⟨r,h',I',m',hR,hE,hv',ht⟩
 obtain ⟨v,rfl,hb,hl,hR'⟩:=hd r h' hR
 have hml:=hv'.len
 have hT:=hv'.take h.length (fun i o hlt ho=>by
  have hx:h[i]?=some h[i]:=by simp [hlt]
  have:=hl i h[i] hlt hx
  rw [ho] at this
  cases this
  have hm:i < m.length:=by rw [hi.len]; exact hlt
  exact (hi.obj i _ m[i] hx (by simp [hm])).inb (by rw [hi.len]; exact Nat.le_refl _)) hl.len
 rw [hl.take] at hT
 refine ⟨_,_,I',m'.take h.length,hR',?_,hT,ht.take (Nat.le_refl _)⟩
 cases e with
 | returned y=>exact AVRel.cut (by rw [hT.len]; exact Nat.le_refl _) (fun j hj=>by rw [List.getElem?_take,if_pos hj]) hE hb
 | _=>exact hE.elim
end
def SentO (g:Gr) (s:ByteArray) (most:Int) (A:Prop) (B:List W -> Prop):Prop :=
 ∃ S M,ReachS g s S /\ LensR g M /\ LenOk g M /\ ((∃ k,(bZ g M most S (k+1)).2=false /\ (bZ g M most S k).2=true /\ A) \/
  (∃ k l',(bZ g M most S (k+1)).2=true /\ totS (bZ g M most S (k+1)).1=totS (bZ g M most S k).1 /\ l'.Perm (bh (bZ g M most S (k+1)).1 s) /\ SortedW l' /\ B l'))
def SentR0 (g:Gr) (s:ByteArray) (most:Int) (h:AHeap) (r:AEnd) (h':AHeap):Prop:=Low h.length h h' /\
 ((aU g s ≠ 0 /\ r=.ret (.tup [.sl 0 [] .nil,i64 (aU g s)])) \/
 (aU g s=0 /\ (most < 0 \/ 12 < most) /\ r=.ret (.tup [.sl 0 [] .nil,i64 3])) \/
 (aU g s=0 /\ 0 <= most /\ most <= 12 /\ SentO g s most (r=.ret (.tup [.sl 0 [] .nil,i64 15]))
  fun l'=>(l'=[] /\ r=.ret (.tup [.sl 0 [] .nil,i64 0])) \/ (l' ≠ [] /\ ∃ o,h.length <= o /\ h'[o]?=some (.cells 0 (l'.map encW)) /\ r=.ret (.tup [.rf o 0 0 l'.length (.own 1),i64 0]))))
theorem sortNil_c {h:AHeap}:AEx PP Gl 53 [.sl 0 [] .nil,.fn (.func 54) [] []] h (.ret (.tup [])) h :=
 KOk.at (KOk.interp (k:=⟨53,[.sl 0 [] .nil,.fn (.func 54) [] []],[],.tup [],[]⟩) (K:=[]) mixed (findT_ok tbl_ok) (by simp) 20 (by kernel_rfl)) rfl rfl
set_option maxHeartbeats 4000000 in
theorem sent_end (g:Gr) (s:ByteArray) (most:Int) (S:List ByteArray) (M:List Int) (k:Nat) (ix:IX) (hix:ix.Ok) (en:Ens) {h H0 H:AHeap} {N:Nat} {ann:List Nat} (hnb:h.length <= ix.nb) (hlow:Low h.length h H) (hS:SS H0 ix g M most en H) (hst:StOk most (ak en))
  (h1:aU g s=0) (hmo:0 <= most /\ most <= 12) (hr:ReachS g s S) (hM:LensR g M /\ LenOk g M) (hk:bZ g M most S (k+1)=(ak en,true)) (ht:totS (ak en)=totS (bZ g M most S k).1) (x3 x9 x11:AV) :
  AWp ⟨PP,Gl,N,ann,h.length,none⟩ tl6_16 (bw PP Gl h res_16 (SentR0 g s most h)) [(11,x11),(1,sv s),(3,x3),(9,x9),(10,.ptr (ix.nb+3) 0 0)] H:=by
 have ob:=hS.obj
 have li:=hS.lists
 have hit:(bZ g M most S (k+1)).2=true /\ totS (bZ g M most S (k+1)).1=totS (bZ g M most S k).1:=by rw [hk]; exact ⟨rfl,ht⟩
 refine AWp.go (a:=cp6_16) (b:=tl7_16) rfl ?_
 cases hf:bF en s with
 | none =>
  have hg:bh (ak en) s=[]:=by simp [bh,sfind_stOf,hf]
  simp -implicitDefEqProofs [cp6_16,ob,li,hf]
  refine AWp.go (a:=cp7_16) (b:=tl8_16) rfl ?_
  simp -implicitDefEqProofs [cp7_16]
  refine aP sortNil_c rfl rfl ?_
  simp -implicitDefEqProofs
  refine AWp.go (a:=cp8_16) (b:=tl9_16) rfl ?_
  simp -implicitDefEqProofs [cp8_16,tl9_16,res_16]
  refine aB mixed ?_
  simp -implicitDefEqProofs
  exact bx (v:=.tup [.sl 0 [] .nil,i64 0]) (by simp [deferred,dslot]) (by simp [aN,aK]) ⟨hlow,.inr (.inr ⟨h1,hmo.1,hmo.2,S,M,hr,hM.1,hM.2,.inr ⟨k,[],hit.1,hit.2,by rw [hk]; simp only; rw [hg],List.Pairwise.nil,.inl ⟨rfl,rfl⟩⟩⟩)⟩
 | some e =>
  have hem:=sfind_mem hf
  obtain ⟨eo,_,ene⟩:=hS.ent _ hem
  obtain ⟨ge1,_⟩:=hS.ge _ hem
  simp only at eo ge1 ene
  have hg:bh (ak en) s=e.l:=by simp [bh,sfind_stOf,hf]
  have hel:=hst.get s
  rw [hg] at hel
  simp -implicitDefEqProofs [cp6_16,ob,li,hf,lvE]
  refine AWp.go (a:=cp7_16) (b:=tl8_16) rfl ?_
  simp -implicitDefEqProofs [cp7_16]
  refine be (sortW_c (l:=e.l) (rest:=[]) (by simpa using eo) ene (by omega) (fun x hx=>by have:=(hel.2 x hx).1.2; omega)) rfl rfl ?_
  rintro r H' ⟨rfl,l',hp,hsW,rfl⟩
  simp -implicitDefEqProofs
  refine AWp.go (a:=cp8_16) (b:=tl9_16) rfl ?_
  simp -implicitDefEqProofs [cp8_16,tl9_16,res_16]
  refine aB mixed ?_
  simp -implicitDefEqProofs
  have hll:=hp.length_eq
  refine bx (v:=.tup [.rf e.o 0 0 e.l.length (.own 1),i64 0]) (by simp [deferred,dslot]) (by simp [aN,aK]) ⟨hlow.trans (Low.set (by omega)),.inr (.inr ⟨h1,hmo.1,hmo.2,S,M,hr,hM.1,hM.2,.inr ⟨k,l',hit.1,hit.2,by rw [hk]; simp only; rw [hg]; exact hp,hsW,.inr ⟨?_,e.o,by omega,List.getElem?_set_self (ar eo),by rw [hll]⟩⟩⟩)⟩
  rintro rfl
  exact ene (List.length_eq_zero_iff.1 hll.symm)
structure Z2 where
 sz:Int
 k:Nat
 en:Ens
 h:AHeap
structure Z2I (g:Gr) (M:List Int) (most:Int) (S:List ByteArray) (H0:AHeap) (ix:IX) (h:AHeap) (z:Z2):Prop where
 low:Low h.length h z.h
 ss:SS H0 ix g M most z.en z.h
 ok:StOk most (ak z.en)
 it:bZ g M most S z.k=(ak z.en,true)
 sz:(z.sz=-1 /\ z.k=0) \/ ∃ k',z.k=k'+1 /\ z.sz=totS (bZ g M most S k').1
 keys:∀ p ∈ ak z.en,p.1 ∈ g.sorts
structure X2 where
 i:Nat
 en:Ens
 h:AHeap
theorem keys_stOf (en:Ens):(ak en).map (·.1)=en.map (·.1):=by simp [ak]
set_option maxHeartbeats 8000000 in
theorem sent_loop (g:Gr) (s:ByteArray) (most:Int) (S:List ByteArray) (M:List Int) (ix:IX) (hix:ix.Ok) {h H0 H:AHeap} (hnb:h.length < ix.nb) (hmk:H0[h.length]?=some (.amap (aS bv (aT S)))) (hlow0:Low h.length h H0) (hS:SS H0 ix g M most [] H)
  (hin:bA g) (hsy:SymsOk g) (hsl:g.sorts.length <= 32) (hrl:g.rules.length <= 1000) (hpl:∀ R ∈ g.rules,R.parts.length <= 1000)
  (h1:aU g s=0) (hmo:0 <= most /\ most <= 12) (hr:ReachS g s S) (hM:LensR g M /\ LenOk g M) :
  AWp ⟨PP,Gl,75,ann_16,h.length,none⟩ tl5_16 (bw PP Gl h res_16 (SentR0 g s most h)) [(1,sv s),(3,.ip (aM g)),(9,.mp h.length),(10,.ptr (ix.nb+3) 0 0)] H:=by
 have hL:∀ en H,SS H0 ix g M most en H -> Low h.length h H:=fun en H h1=>hlow0.trans (h1.low.mono (by omega))
 have hlow:=hL _ _ hS
 have htb:∀ en:Ens,StOk most (ak en) -> (en.map (·.1)).Nodup -> (∀ p ∈ ak en,p.1 ∈ g.sorts) -> totS (ak en) <= 64000:=fun en hok hnd hk=>by
  have h1:=totS_le hok
  have h2:=nodup_le (a:=(ak en).map (·.1)) (b:=g.sorts) (by rw [keys_stOf]; exact hnd) (fun x hx=>by obtain ⟨p,hp,rfl⟩:=List.mem_map.1 hx; exact hk p hp)
  rw [List.length_map] at h2
  omega
 refine AWp.go (a:=cp5_16) (b:=tl6_16) rfl ?_
 simp -implicitDefEqProofs [cp5_16]
 refine AWp.till (S:=Z2) ⟨-1,0,[],H⟩ (fun z=>if z.sz=totS (ak z.en) then 0 else 64001 - totS (ak z.en)) [1,3,9,10] (fun z=>[(11,i64 z.sz)]) (fun z=>z.h) (Z2I g M most S H0 ix h) mixed
  ⟨hlow,hS,fun p hp=>by simp [ak] at hp,rfl,.inl ⟨rfl,rfl⟩,fun p hp=>by simp [ak] at hp⟩ (aI (by simp [dslot])) rfl ?_
 rintro ⟨sz,k,en,H1⟩ ⟨z1,z2,z3,z4,z5,z6⟩
 simp only at z1 z2 z3 z4 z5 z6
 have htot:=htb en z3 z2.ndk z6
 have hsz:=size_c H0 ix hix g M most en z2 (by omega)
 by_cases heq:sz=(totS (ak en):Int)
 .obtain ⟨k',hk',he⟩:∃ k',k=k'+1 /\ sz=totS (bZ g M most S k').1:=by
   rcases z5 with ⟨e,_⟩ | h5
   .omega
   .exact h5
  simp -implicitDefEqProofs [lp0_16]
  refine aP hsz rfl rfl ?_
  simp -implicitDefEqProofs [heq]
  exact (sent_end g s most S M k' ix hix en (by omega) z1 z2 z3 h1 hmo hr hM (by rw [<- hk']; exact z4) (by omega) (.ip (aM g)) (.mp h.length) (i64 (totS (ak en):Int))).weaken (aI (by simp [dslot]))
 .simp -implicitDefEqProofs [lp0_16]
  refine aP hsz rfl rfl ?_
  simp -implicitDefEqProofs [heq]
  refine aP hsz rfl rfl ?_
  simp -implicitDefEqProofs [aM]
  refine AWp.till (S:=X2) ⟨0,en,H1⟩ (fun st=>g.rules.length - st.i) [1,3,9,10,11,46,47] (fun st=>[(48,i64 (st.i:Int))]) (fun st=>st.h)
   (fun st=>st.i <= g.rules.length /\ SS H0 ix g M most st.en st.h /\ Low h.length h st.h /\ (ak st.en,true)=(g.rules.take st.i).foldl (bS g M most S) (ak en,true) /\ StOk most (ak st.en)) mixed
   ⟨Nat.zero_le _,z2,z1,rfl,z3⟩ (aI (by simp [dslot])) rfl ?_
  rintro ⟨i,en1,h2⟩ ⟨y0,y1,y2,y3,y4⟩
  simp only at y0 y1 y2 y3 y4
  by_cases hi:i < g.rules.length
  case neg =>
   have hlt:¬ (i:Int) < g.rules.length:=by omega
   have hie:i=g.rules.length:=by omega
   subst hie
   rw [List.take_length] at y3
   have hit:bZ g M most S (k+1)=(ak en1,true):=by
    show roundsE g M most S (bZ g M most S k)=_
    rw [z4]; exact y3.symm
   have hstp:=fold_stp (M:=M) (most:=most) (S:=S) g.rules (ak en,true) (fun R hR=>has_mem (hin R hR).1)
   rw [<- y3] at hstp
   simp -implicitDefEqProofs [lp1_16,hlt]
   refine ⟨⟨totS (ak en),k+1,en1,h2⟩,?_,⟨y2,y1,y4,hit,.inr ⟨k,rfl,by rw [z4]⟩,hstp.keys z6⟩,aI (by simp [dslot,aM,sv]),rfl⟩
   have ht1:=hstp.tot
   simp only at ht1 ⊢
   split <;> omega
  obtain ⟨R,hR⟩:∃ R,g.rules[i]?=some R:=⟨g.rules[i],by simp [hi]⟩
  have hRm:=List.mem_of_getElem? hR
  have hlt:(i:Int) < g.rules.length:=by omega
  have hne:g.rules ≠ []:=by intro e; rw [e] at hi; simp at hi
  have wi:IntKind.i64.wrap ((i:Int)+1)=(i:Int)+1:=IntWalk.i64_in _ (by omega)
  have hmk2:h2[h.length]?=some (.amap (aS bv (aT S))):=y1.low _ _ hnb hmk
  have hst2:=fold_take (bS g M most S) (ak en,true) hR
  rw [<- y3] at hst2
  by_cases hRS:R.sort ∈ S
  case neg =>
   have hro:bS g M most S (ak en1,true) R=(ak en1,true):=by unfold bS; rw [if_pos rfl,if_neg hRS]
   rw [hro] at hst2
   simp -implicitDefEqProofs [lp1_16,hlt,hne,hR,ab,hmk2,hRS,wi]
   exact ⟨⟨i+1,en1,h2⟩,by simp; omega,⟨by simp; omega,y1,y2,hst2.symm,y4⟩,aI (by simp [dslot]),rfl⟩
  have hro:bS g M most S (ak en1,true) R=bz g M most R.sort R.parts [] (ak en1):=by unfold bS; rw [if_pos rfl,if_pos hRS]
  rw [hro] at hst2
  simp -implicitDefEqProofs [lp1_16,hlt,hne,hR,ab,hmk2,hRS]
  refine be (extend_c H0 ix hix g M most R.sort hM.2 hmo R.parts R.cap [] (.sl 0 [] .nil) en1 (fun p hp=>(hin R hRm).2 p hp) (hsy R hRm) (hpl R hRm) BgV.nil (fun x hx=>by simp at hx) (by simp) y1 y4) (by simp [sv]) rfl ?_
  rintro r h3 ⟨en',rfl,e2,e3,e4⟩
  have hok:=extF_ok hM.2 hmo.2 (s:=R.sort) R.parts [] (ak en1) (hsy R hRm) (fun x hx=>by simp at hx) y4
  cases hres:(bz g M most R.sort R.parts [] (ak en1)).2 with
  | true =>
   simp -implicitDefEqProofs [wi]
   refine ⟨⟨i+1,en',h3⟩,by simp; omega,⟨by simp; omega,e3,hL _ _ e3,?_,by simp only; rw [e2]; exact hok hres⟩,aI (by simp [dslot]),rfl⟩
   simp only
   rw [hst2,e2]
   exact Prod.ext rfl hres.symm
  | false =>
   have hit:(bZ g M most S (k+1)).2=false:=by
    show (roundsE g M most S (bZ g M most S k)).2=_
    rw [z4]
    unfold roundsE
    conv=>lhs; rw [<- List.take_append_drop (i+1) g.rules,List.foldl_append,hst2]
    rw [roundE_stop _ _ hres]; exact hres
   simp -implicitDefEqProofs [res_16]
   exact bx (v:=.tup [.sl 0 [] .nil,i64 15]) (by simp [deferred,dslot]) (by simp [aN,aK]) ⟨hL _ _ e3,.inr (.inr ⟨h1,hmo.1,hmo.2,S,M,hr,hM.1,hM.2,.inl ⟨k,hit,by rw [z4],rfl⟩⟩)⟩
end Go.Apx
end
section
namespace Go.Apx
open Go.Proofs
set_option maxRecDepth 4000
section
variable {C:Cx} {Q:APost} {n:Nat} {r:List (Bool × AItem)} {A B z:AItem} {b:Bool} {env:Env} {h:AHeap}
theorem DA.p3 (h1:bG C A env h (fun e h=>DA C Q n ((true,B) :: (false,z) :: r) e h) (upEq Q)) (h2:bG C B env h (fun e h=>DA C Q n ((true,A) :: (false,z) :: r) e h) (upEq Q))
  (h3:bG C z env h (fun e h=>DA C Q n ((true,A) :: (true,B) :: r) e h) (upEq Q)):DA C Q (n+1) ((true,A) :: (true,B) :: (false,z) :: r) env h:=by
 intro l b y r' he hl
 match l with
 | []=>simp only [List.nil_append,List.cons.injEq,Prod.mk.injEq] at he; obtain ⟨⟨rfl,rfl⟩,rfl⟩:=he; exact h1
 | [p1]=>simp only [List.cons_append,List.nil_append,List.cons.injEq,Prod.mk.injEq] at he; obtain ⟨rfl,⟨rfl,rfl⟩,rfl⟩:=he; exact h2
 | [p1,p2]=>simp only [List.cons_append,List.nil_append,List.cons.injEq,Prod.mk.injEq] at he; obtain ⟨rfl,rfl,⟨rfl,rfl⟩,rfl⟩:=he; exact h3
 | p1 :: p2 :: p3 :: l =>
  simp only [List.cons_append,List.cons.injEq] at he
  obtain ⟨rfl,rfl,rfl,_⟩:=he
  have:=(hl _ (List.mem_cons_of_mem _ (List.mem_cons_of_mem _ List.mem_cons_self))).1
  cases this
theorem DA.p3n (h1:bG C A env h (fun e h=>DA C Q n ((true,B) :: (false,z) :: r) e h) (upEq Q)) (h2:bG C B env h (fun e h=>DA C Q n ((true,A) :: (false,z) :: r) e h) (upEq Q))
  (hn:A.apart z=false):DA C Q (n+1) ((true,A) :: (true,B) :: (false,z) :: r) env h:=by
 intro l b y r' he hl
 match l with
 | []=>simp only [List.nil_append,List.cons.injEq,Prod.mk.injEq] at he; obtain ⟨⟨rfl,rfl⟩,rfl⟩:=he; exact h1
 | [p1]=>simp only [List.cons_append,List.nil_append,List.cons.injEq,Prod.mk.injEq] at he; obtain ⟨rfl,⟨rfl,rfl⟩,rfl⟩:=he; exact h2
 | [p1,p2] =>
  simp only [List.cons_append,List.nil_append,List.cons.injEq,Prod.mk.injEq] at he
  obtain ⟨rfl,rfl,⟨rfl,rfl⟩,rfl⟩:=he
  have:=(hl _ List.mem_cons_self).2
  rw [hn] at this; cases this
 | p1 :: p2 :: p3 :: l =>
  simp only [List.cons_append,List.cons.injEq] at he
  obtain ⟨rfl,rfl,rfl,_⟩:=he
  have:=(hl _ (List.mem_cons_of_mem _ (List.mem_cons_of_mem _ List.mem_cons_self))).1
  cases this
theorem DA.p2 (h1:bG C A env h (fun e h=>DA C Q n ((false,z) :: r) e h) (upEq Q)) (h2:bG C z env h (fun e h=>DA C Q n ((true,A) :: r) e h) (upEq Q)):DA C Q (n+1) ((true,A) :: (false,z) :: r) env h:=by
 intro l b y r' he hl
 match l with
 | []=>simp only [List.nil_append,List.cons.injEq,Prod.mk.injEq] at he; obtain ⟨⟨rfl,rfl⟩,rfl⟩:=he; exact h1
 | [p1]=>simp only [List.cons_append,List.nil_append,List.cons.injEq,Prod.mk.injEq] at he; obtain ⟨rfl,⟨rfl,rfl⟩,rfl⟩:=he; exact h2
 | p1 :: p2 :: l =>
  simp only [List.cons_append,List.cons.injEq] at he
  obtain ⟨rfl,rfl,_⟩:=he
  have:=(hl _ (List.mem_cons_of_mem _ List.mem_cons_self)).1
  cases this
theorem DA.p2n (h1:bG C A env h (fun e h=>DA C Q n ((false,z) :: r) e h) (upEq Q)) (hn:A.apart z=false):DA C Q (n+1) ((true,A) :: (false,z) :: r) env h:=by
 intro l b y r' he hl
 match l with
 | []=>simp only [List.nil_append,List.cons.injEq,Prod.mk.injEq] at he; obtain ⟨⟨rfl,rfl⟩,rfl⟩:=he; exact h1
 | [p1] =>
  simp only [List.cons_append,List.nil_append,List.cons.injEq,Prod.mk.injEq] at he
  obtain ⟨rfl,⟨rfl,rfl⟩,rfl⟩:=he
  have:=(hl _ List.mem_cons_self).2
  rw [hn] at this; cases this
 | p1 :: p2 :: l =>
  simp only [List.cons_append,List.cons.injEq] at he
  obtain ⟨rfl,rfl,_⟩:=he
  have:=(hl _ (List.mem_cons_of_mem _ List.mem_cons_self)).1
  cases this
end
set_option maxHeartbeats 4000000 in
theorem sent_mk (g:Gr) (s:ByteArray) (most:Int) (S:List ByteArray) {h:AHeap} {Q:APost} (hin:bA g) (hnd:g.sorts.Nodup) (hsl:g.sorts.length <= 32) (hrl:g.rules.length <= 1000) (hpl:∀ R ∈ g.rules,R.parts.length <= 1000)
  (hK:∀ (M:List Int) (ix:IX) (H:AHeap),LensR g M -> LenOk g M -> ix.Ok -> ix.nb=h.length+1 -> SS (h++[.amap (aS bv (aT S))]) ix g M most [] H ->
   AWp ⟨PP,Gl,75,ann_16,h.length,none⟩ tl5_16 Q [(1,sv s),(3,.ip (aM g)),(9,.mp h.length),(10,.ptr (ix.nb+3) 0 0)] H) :
  AWp ⟨PP,Gl,75,ann_16,h.length,none⟩ tl4_16 Q [(1,sv s),(2,i64 most),(3,.ip (aM g)),(9,.mp h.length)] (h++[.amap (aS bv (aT S))]):=by
 unfold tl4_16 cp4_16
 refine AWp.seq (AWp.dregA mixed ?_)
 have hlen:∀ H,ACalls PP Gl 48 [aM g] H (fun r h'=>∃ M,LensR g M /\ LenOk g M /\ r=.ret (.mp H.length) /\ h'=lH g H M):=fun H=>lengths_c g hnd hin (by omega) (by omega) (fun R hR=>by have:=hpl R hR; omega)
 obtain ⟨HB,hHB⟩:∃ HB,HB=h++[.amap (aS bv (aT S))]:=⟨_,rfl⟩
 rw [<- hHB] at hK ⊢
 have hBl:HB.length=h.length+1:=by rw [hHB]; simp
 simp only [List.length_cons,List.length_nil,Nat.zero_add,Nat.reduceAdd]
 refine DA.quiet (n:=8) rfl (by simp [aM]; exact ⟨rfl,rfl⟩) ?_
 refine DA.quiet (n:=7) rfl (by simp; exact ⟨rfl,rfl⟩) ?_
 refine DA.quiet (n:=6) rfl (by simp [aM]; exact ⟨rfl,rfl⟩) ?_
 generalize hE:aY _ (some 33) _=E
 have e1:E.get 1=some (sv s):=by rw [<- hE]; simp
 have e3:E.get 3=some (.ip (aM g)):=by rw [<- hE]; simp
 have e9:E.get 9=some (.mp h.length):=by rw [<- hE]; simp
 have e31:E.get 31=some (aM g):=by rw [<- hE]; simp [aM]
 have e32:E.get 32=some (i64 most):=by rw [<- hE]; simp
 have e33:E.get 33=some (aM g):=by rw [<- hE]; simp [aM]
 have ed:E.get dslot=none:=by rw [<- hE]; simp [dslot]
 clear hE
 have fin:∀ (M:List Int) (oL oA oS:Nat) (H:AHeap) (E':Env),LensR g M -> LenOk g M -> (⟨h.length+1,oL,oA,oS⟩:IX).Ok -> H.length=h.length+4 -> Low (h.length+1) HB H -> H[oL]?=some (.amap (aS iv (lmap g M))) -> H[oA]?=some (.amap []) -> H[oS]?=some (.amap []) ->
   E'.get 1=some (sv s) -> E'.get 3=some (.ip (aM g)) -> E'.get 9=some (.mp h.length) -> E'.get 31=some (aM g) -> E'.get 32=some (i64 most) -> E'.get 34=some (.mp oL) -> E'.get 35=some (.mp oA) -> E'.get 36=some (.mp oS) -> E'.get dslot=none ->
   DA ⟨PP,Gl,75,ann_16,h.length,none⟩ (thenP (fun env h_1=>AWp ⟨PP,Gl,75,ann_16,h.length,none⟩ tl5_16 Q env h_1) Q) 3
    [(false,⟨some 37,.build [.sl 0 [] .nil,.sl 0 [] .nil,.sc (.int .i64 0),.sc (.map none),.sc (.map none),.sc (.map none)] [(0,2,.t 31),(2,1,.t 32),(3,1,.t 34),(4,1,.t 35),(5,1,.t 36)],none,[0,1,3,4,5]⟩),
     (false,⟨some 38,.boxm (.t 37),none,[6]⟩),(false,⟨some 10,.mv (.t 38),none,[7,3,0,1,2,3,4,5,6,7]⟩)] E' H:=by
  intro M oL oA oS H E' hM1 hM2 hok hHl hlow x1 x2 x3 f1 f3 f9 f31 f32 f34 f35 f36 fd
  have hl1:=ar x1
  have hl2:=ar x2
  have hl3:=ar x3
  refine DA.loud (n:=2) ?_
  simp -implicitDefEqProofs [f31,f32,f34,f35,f36,aM]
  refine DA.loud (n:=1) ?_
  simp -implicitDefEqProofs
  refine DA.loud (n:=0) ?_
  simp -implicitDefEqProofs
  have ap:∀ z y x,H[z]?=some y -> (H++[x])[z]?=some y:=fun z y x hz=>by rw [List.getElem?_append_left (ar hz)]; exact hz
  refine ⟨_,EnvEq.refl _,(hK M ⟨h.length+1,oL,oA,oS⟩ _ hM1 hM2 hok rfl ⟨hlow.trans (Low.app _ _ _),?_,ap _ _ _ x2,ap _ _ _ x1,ap _ _ _ x3,fun p hp=>by simp at hp,fun p hp=>by simp at hp,by simp,by simp,by simp⟩).weaken (aI ?_)⟩
  .simp only
   rw [show h.length+1+3=H.length by omega]
   simp
  .simp [dslot,f1,f3,f9,hHl,fd]
   exact fd.symm
 have g1:∀ (H:AHeap) (a b c:AObj),(H++[a]++[b]++[c])[H.length]?=some a:=fun H a b c=>by simp
 have g2:∀ (H:AHeap) (a b c:AObj),(H++[a]++[b]++[c])[(H++[a]).length]?=some b:=fun H a b c=>by
  rw [List.getElem?_append_left (by simp)]; simp
 have g3:∀ (H:AHeap) (a b c:AObj),(H++[a]++[b]++[c])[(H++[a]++[b]).length]?=some c:=fun H a b c=>by simp
 have l3:∀ (a b c:AObj),(HB++[a]++[b]++[c]).length=h.length+4:=fun a b c=>by simp [hBl]
 have lo3:∀ (a b c:AObj),Low (h.length+1) HB (HB++[a]++[b]++[c]):=fun a b c=>by rw [List.append_assoc,List.append_assoc]; exact Low.app _ _ _
 have stC:∀ (E':Env) (H:AHeap) (K':Env -> AHeap -> Prop) (P':APost),E'.get 33=some (aM g) -> (∀ M,LensR g M -> LenOk g M -> K' (E'.put 34 (.mp H.length)) (H++[.amap (aS iv (lmap g M))])) ->
   bG ⟨PP,Gl,75,ann_16,h.length,none⟩ ⟨some 34,.call (.c (.fn (.func 48) [] [])) [.t 33],none,[2]⟩ E' H K' P':=by
  intro E' H K' P' h33 hk
  simp -implicitDefEqProofs [h33,aM]
  refine be (hlen H) (by simp [aM]) rfl ?_
  rintro r h' ⟨M,m1,m2,rfl,rfl⟩
  simp -implicitDefEqProofs
  exact hk M m1 m2
 have st35:∀ (E':Env) (H:AHeap) (K':Env -> AHeap -> Prop) (P':APost),K' (E'.put 35 (.mp H.length)) (H++[.amap []]) -> bG ⟨PP,Gl,75,ann_16,h.length,none⟩ ⟨some 35,.mkMap,none,[]⟩ E' H K' P':=by
  intro E' H K' P' hk
  simpa -implicitDefEqProofs using hk
 have st36:∀ (E':Env) (H:AHeap) (K':Env -> AHeap -> Prop) (P':APost),K' (E'.put 36 (.mp H.length)) (H++[.amap []]) -> bG ⟨PP,Gl,75,ann_16,h.length,none⟩ ⟨some 36,.mkMap,none,[]⟩ E' H K' P':=by
  intro E' H K' P' hk
  simpa -implicitDefEqProofs using hk
 have ok:∀ a b c:Nat,(a=h.length+1 \/ a=h.length+2 \/ a=h.length+3) -> (b=h.length+1 \/ b=h.length+2 \/ b=h.length+3) -> (c=h.length+1 \/ c=h.length+2 \/ c=h.length+3) -> a ≠ b -> a ≠ c -> b ≠ c -> (⟨h.length+1,a,b,c⟩:IX).Ok:=fun a b c ha hb hc n1 n2 n3=>⟨by simp only; omega,by simp only; omega,by simp only; omega,⟨n1,n2,n3⟩⟩
 refine DA.p3 (stC _ _ _ _ e33 fun M m1 m2=>?_) (st35 _ _ _ _ ?_) (st36 _ _ _ _ ?_)
 .refine DA.p2 (st35 _ _ _ _ (DA.loud (st36 _ _ _ _ ?_))) (st36 _ _ _ _ (DA.p2n (st35 _ _ _ _ ?_) rfl))
  .exact fin M _ _ _ _ _ m1 m2 (ok _ _ _ (by simp [hBl]) (by simp [hBl]) (by simp [hBl]) (by simp [hBl]) (by simp [hBl]) (by simp [hBl])) (l3 _ _ _) (lo3 _ _ _) (g1 _ _ _ _) (g2 _ _ _ _) (g3 _ _ _ _) (by simp [e1]) (by simp [e3]) (by simp [e9]) (by simp [e31]) (by simp [e32]) (by simp) (by simp) (by simp) (by simp [dslot] at ed ⊢; exact ed)
  .exact fin M _ _ _ _ _ m1 m2 (ok _ _ _ (by simp [hBl]) (by simp [hBl]) (by simp [hBl]) (by simp [hBl]) (by simp [hBl]) (by simp [hBl])) (l3 _ _ _) (lo3 _ _ _) (g1 _ _ _ _) (g3 _ _ _ _) (g2 _ _ _ _) (by simp [e1]) (by simp [e3]) (by simp [e9]) (by simp [e31]) (by simp [e32]) (by simp) (by simp) (by simp) (by simp [dslot] at ed ⊢; exact ed)
 .refine DA.p2 (stC _ _ _ _ (by simp [e33]) fun M m1 m2=>DA.loud (st36 _ _ _ _ ?_)) (st36 _ _ _ _ (DA.p2n (stC _ _ _ _ (by simp [e33]) fun M m1 m2=>?_) rfl))
  .exact fin M _ _ _ _ _ m1 m2 (ok _ _ _ (by simp [hBl]) (by simp [hBl]) (by simp [hBl]) (by simp [hBl]) (by simp [hBl]) (by simp [hBl])) (l3 _ _ _) (lo3 _ _ _) (g2 _ _ _ _) (g1 _ _ _ _) (g3 _ _ _ _) (by simp [e1]) (by simp [e3]) (by simp [e9]) (by simp [e31]) (by simp [e32]) (by simp) (by simp) (by simp) (by simp [dslot] at ed ⊢; exact ed)
  .exact fin M _ _ _ _ _ m1 m2 (ok _ _ _ (by simp [hBl]) (by simp [hBl]) (by simp [hBl]) (by simp [hBl]) (by simp [hBl]) (by simp [hBl])) (l3 _ _ _) (lo3 _ _ _) (g3 _ _ _ _) (g1 _ _ _ _) (g2 _ _ _ _) (by simp [e1]) (by simp [e3]) (by simp [e9]) (by simp [e31]) (by simp [e32]) (by simp) (by simp) (by simp) (by simp [dslot] at ed ⊢; exact ed)
 .refine DA.p3n (stC _ _ _ _ (by simp [e33]) fun M m1 m2=>DA.p2n (st35 _ _ _ _ ?_) rfl) (st35 _ _ _ _ (DA.p2n (stC _ _ _ _ (by simp [e33]) fun M m1 m2=>?_) rfl)) rfl
  .exact fin M _ _ _ _ _ m1 m2 (ok _ _ _ (by simp [hBl]) (by simp [hBl]) (by simp [hBl]) (by simp [hBl]) (by simp [hBl]) (by simp [hBl])) (l3 _ _ _) (lo3 _ _ _) (g2 _ _ _ _) (g3 _ _ _ _) (g1 _ _ _ _) (by simp [e1]) (by simp [e3]) (by simp [e9]) (by simp [e31]) (by simp [e32]) (by simp) (by simp) (by simp) (by simp [dslot] at ed ⊢; exact ed)
  .exact fin M _ _ _ _ _ m1 m2 (ok _ _ _ (by simp [hBl]) (by simp [hBl]) (by simp [hBl]) (by simp [hBl]) (by simp [hBl]) (by simp [hBl])) (l3 _ _ _) (lo3 _ _ _) (g3 _ _ _ _) (g2 _ _ _ _) (g1 _ _ _ _) (by simp [e1]) (by simp [e3]) (by simp [e9]) (by simp [e31]) (by simp [e32]) (by simp) (by simp) (by simp) (by simp [dslot] at ed ⊢; exact ed)
def SentR (g:Gr) (s:ByteArray) (most:Int) (h:AHeap) (r:AEnd) (h':AHeap):Prop:=h'=h /\
 ((aU g s ≠ 0 /\ r=.ret (.tup [.sl 0 [] .nil,i64 (aU g s)])) \/
 (aU g s=0 /\ (most < 0 \/ 12 < most) /\ r=.ret (.tup [.sl 0 [] .nil,i64 3])) \/
 (aU g s=0 /\ 0 <= most /\ most <= 12 /\ SentO g s most (r=.ret (.tup [.sl 0 [] .nil,i64 15])) fun l'=>r=.ret (.tup [aW 1 (l'.map encW),i64 0])))
theorem sent0_c (g:Gr) (s:ByteArray) (most:Int) {h:AHeap} (hin:aO g=0 -> bA g /\ SymsOk g /\ g.sorts.Nodup) (hs:g.sorts.length <= 32) (hr:g.rules.length <= 1000) (hp:∀ R ∈ g.rules,R.parts.length <= 1000) (hc:AEx PP Gl 23 [aM g] h (.ret (i64 (aO g))) h) :
  ACalls PP Gl 16 [aM g,.sc (.string s),i64 most] h (SentR0 g s most h):=by
 have hargs:[aM g,.sc (.string s),i64 most].length <= 75:=by simp
 refine aC Tryz.func16 body_16 comp_16 resc_16 hargs (Nat.le_trans hargs (by decide)) ?_
 refine AWp.go (a:=cp0_16) (b:=tl1_16) rfl ?_
 simp -implicitDefEqProofs [cp0_16,aM]
 refine AWp.go (a:=cp1_16) (b:=tl2_16) rfl ?_
 simp -implicitDefEqProofs [cp1_16]
 refine aP (sorted_c g s (by omega) hc) (by simp [aM]) rfl ?_
 by_cases h1:aU g s=0
 case neg =>
  simp -implicitDefEqProofs [h1,res_16]
  exact bx (v:=.tup [.sl 0 [] .nil,i64 (aU g s)]) (by simp [deferred,dslot]) (by simp [aN,aK]) ⟨.refl _ _,.inl ⟨h1,rfl⟩⟩
 have hck:aO g=0:=by
  unfold aU at h1
  by_cases e:aO g=0
  .exact e
  .rw [if_pos e] at h1; exact (e h1).elim
 obtain ⟨hin,hsy,hnd⟩:=hin hck
 simp -implicitDefEqProofs [h1]
 refine AWp.go (a:=cp2_16) (b:=tl3_16) rfl ?_
 by_cases h2:most < 0
 .simp -implicitDefEqProofs [cp2_16,h2,res_16]
  exact bx (v:=.tup [.sl 0 [] .nil,i64 3]) (by simp [deferred,dslot]) (by simp [aN,aK]) ⟨.refl _ _,.inr (.inl ⟨h1,.inl h2,rfl⟩)⟩
 by_cases h3:12 < most
 .simp -implicitDefEqProofs [cp2_16,h2,h3,res_16]
  exact bx (v:=.tup [.sl 0 [] .nil,i64 3]) (by simp [deferred,dslot]) (by simp [aN,aK]) ⟨.refl _ _,.inr (.inl ⟨h1,.inr h3,rfl⟩)⟩
 simp -implicitDefEqProofs [cp2_16,h2,h3]
 refine AWp.go (a:=cp3_16) (b:=tl4_16) rfl ?_
 simp -implicitDefEqProofs [cp3_16]
 refine be (contClosure_c g hin (by omega) (fun R hR=>by have:=hp R hR; omega) s) (by simp [aM,sv]) rfl ?_
 rintro r h' ⟨S,hS,rfl,rfl⟩
 simp -implicitDefEqProofs
 refine AWp.weaken (sent_mk g s most S hin hnd hs hr hp fun M ix H hM1 hM2 hok hnb hSS=>?_) (aI (by simp [dslot,aM,sv]))
 exact sent_loop g s most S M ix hok (by omega) (by simp) (Low.app _ _ _) hSS hin hsy hs hr hp h1 ⟨by omega,by omega⟩ hS ⟨hM1,hM2⟩
theorem rows_encW:∀ l:List W,rows 1 l.length (l.map encW)=l.map encW
 | []=>rfl
 | x :: l=>by simp [rows,rows_encW l]
theorem inb_encW (n:Nat) (l:W):(encW l).inb n=true:=by
 unfold encW aW
 split
 .rename_i e; rw [e]; rfl
 .simp only [AV.inb,inb_sv]; rfl
theorem inb_encWs (n:Nat):∀ l:List W,inbL n (l.map encW)=true
 | []=>rfl
 | x :: l=>by simp [inbL,inb_encW,inb_encWs n l]
theorem inb_grownW (n:Nat) (l:List W):(aW 1 (l.map encW)).inb n=true:=by
 unfold aW
 split
 .rename_i e; rw [e]; rfl
 .simp only [AV.inb,inb_encWs]; rfl
theorem Sentences_c (g:Gr) (s:ByteArray) (most:Int) {h:AHeap} (hin:aO g=0 -> bA g /\ SymsOk g /\ g.sorts.Nodup) (hs:g.sorts.length <= 32) (hr:g.rules.length <= 1000) (hp:∀ R ∈ g.rules,R.parts.length <= 1000) (hc:AEx PP Gl 23 [aM g] h (.ret (i64 (aO g))) h) :
  ACalls PP Gl 16 [aM g,.sc (.string s),i64 most] h (SentR g s most h):=by
 have h0:=(sent0_c g s most hin hs hr hp hc).freezeO (R':=fun r H=>Low h.length h H /\ ∃ v,r=.ret v /\ v.inb h.length=true /\ SentR g s most h r h) ?_
 .exact h0.dropR fun r H ⟨hl,v,e,hb,hR⟩=>⟨v,e,hb,hl,by rw [<- e]; exact hR⟩
 rintro r H ⟨hl,hR⟩
 rcases hR with ⟨a,rfl⟩ | ⟨a,b,rfl⟩ | ⟨a,b,c,S,M,q1,q2,q3,hO⟩
 .exact .inl ⟨hl,_,rfl,rfl,rfl,.inl ⟨a,rfl⟩⟩
 .exact .inl ⟨hl,_,rfl,rfl,rfl,.inr (.inl ⟨a,b,rfl⟩)⟩
 .rcases hO with ⟨k,e1,e2,rfl⟩ | ⟨k,l',e1,e2,e3,e4,e5⟩
  .exact .inl ⟨hl,_,rfl,rfl,rfl,.inr (.inr ⟨a,b,c,S,M,q1,q2,q3,.inl ⟨k,e1,e2,rfl⟩⟩)⟩
  .rcases e5 with ⟨rfl,rfl⟩ | ⟨hne,o,ho,hcs,rfl⟩
   .exact .inl ⟨hl,_,rfl,rfl,rfl,.inr (.inr ⟨a,b,c,S,M,q1,q2,q3,.inr ⟨k,[],e1,e2,e3,e4,rfl⟩⟩)⟩
   .right
    have hfr:(AV.tup [.rf o 0 0 l'.length (.own 1),i64 0]).frz o 0 1 (l'.map encW)=.tup [aW 1 (l'.map encW),i64 0]:=by
     have hne2:l'.map encW ≠ []:=by simpa using hne
     simp only [AV.frz,frzL,frz1,aW,if_neg hne2]
     simp only [List.drop_zero,rows_encW]
     rw [if_pos (by simp)]
    refine ⟨_,o,0,1,l'.map encW,rfl,hcs,hl.trans (Low.set ho),_,rfl,?_,rfl,?_⟩
    .rw [hfr]
     simp only [AV.inb,inbL,inb_grownW]; rfl
    .rw [hfr]
     exact .inr (.inr ⟨a,b,c,S,M,q1,q2,q3,.inr ⟨k,l',e1,e2,e3,e4,rfl⟩⟩)
end Go.Apx
end
