/- Walk: the law GrammarSets. -/
import Derived.Test.YtdiemjjfkoccfaaGreatDoorUD
import Derived.Test.YtdiemjjfkoccfaaGreatDoorYD
import Derived.Test.YtdiemjjfkoccfaaGreatDoorGC
import Derived.Test.YtdiemjjfkoccfaaGreatDoorZC
set_option linter.unusedVariables false
set_option linter.unusedSimpArgs false
set_option linter.unnecessarySimpa false
section
namespace Go.Apx
open Go.Proofs
set_option maxRecDepth 4000
theorem find1_c (r:Rl) (s:ByteArray) {h:AHeap}:AEx PP Gl 66 [ab r,.ip (sv s)] h (.ret (bl (decide (r.label=s)))) h:=by
 refine enter_66 (by simp) ?_
 by_cases e:r.label=s
 .simp -implicitDefEqProofs [code_66,res_66,ann_66,ab,sv,e]
  exact aZ (by simp [deferred,dslot]) rfl (by simp) rfl
 .simp -implicitDefEqProofs [code_66,res_66,ann_66,ab,sv,e]
  exact aZ (by simp [deferred,dslot]) rfl (by simp) rfl
theorem find_c (g:Gr) (s:ByteArray) (hr:g.rules.length <= 2 ^ 31) {h:AHeap}:AEx PP Gl 26 [aM g,.sc (.string s)] h (.ret (i64 (findF g s))) h:=by
 refine enter_26 (by simp) ?_
 simp -implicitDefEqProofs [code_26,res_26,ann_26,aM]
 refine aP (indexR_c g.rules g.rc 66 [] [.ip (sv s)] (fun r=>decide (r.label=s)) hr (fun e _=>by simpa using find1_c e s)) rfl rfl ?_
 simp -implicitDefEqProofs
 exact aZ (by simp [deferred,dslot]) rfl (by simp [findF]) rfl
theorem find_conv (g:Gr) (s:ByteArray):findF (bK g) s=findF g s:=by
 unfold findF placeF bK
 simp only [List.findIdx?_map]
 rfl
def Res (l:List ByteArray) (e:Int) (h:AHeap) (r:AEnd) (h':AHeap):Prop:=h'=h /\ r=.ret (.tup [aW 1 (l.map sv),i64 e])
abbrev gsEnv (g:Gr) (s lb:ByteArray):Env:=[(1,sv s),(2,sv lb),(3,.ip (aM g)),(7,.ip (convS g))]
set_option maxHeartbeats 2000000 in
theorem sets_null (g:Gr) (s lb:ByteArray) {h:AHeap} {Q:APost} {P1 P2:List ByteArray -> Int -> Prop} (hc1:ACalls PP Gl 19 [aM g] h (fun r h'=>∃ l e,P1 l e /\ Res l e h r h')) (hc2:ACalls PP Gl 28 [convS g] h (fun r h'=>∃ l e,P2 l e /\ Res l e h r h'))
  (heq:∀ l e l' e',P1 l e -> P2 l' e' -> l=l' /\ e=e' /\ l.length <= 2 ^ 31) (hnext:AWp ⟨PP,Gl,122,ann_7,h.length,none⟩ tl7_7 Q (gsEnv g s lb) h) :
  AWp ⟨PP,Gl,122,ann_7,h.length,none⟩ tl4_7 Q (gsEnv g s lb) h:=by
 refine AWp.go (a:=cp4_7) (b:=tl5_7) rfl ?_
 simp -implicitDefEqProofs [cp4_7,aM,sv]
 refine be hc1 (by simp [aM]) rfl ?_
 rintro r h' ⟨l,e,p1,rfl,rfl⟩
 simp -implicitDefEqProofs
 refine AWp.go (a:=cp5_7) (b:=tl6_7) rfl ?_
 simp -implicitDefEqProofs [cp5_7,convS]
 refine be hc2 (by simp [convS]) rfl ?_
 rintro r h' ⟨l',e',p2,rfl,rfl⟩
 obtain ⟨rfl,rfl,hl⟩:=heq _ _ _ _ p1 p2
 simp -implicitDefEqProofs
 refine AWp.go (a:=cp6_7) (b:=tl7_7) rfl ?_
 simp -implicitDefEqProofs [cp6_7]
 refine aP (sameG_c l hl) rfl rfl ?_
 simp -implicitDefEqProofs
 exact hnext.weaken (aI (by simp [dslot,aM,convS,sv]))
set_option maxHeartbeats 2000000 in
theorem sets_prod (g:Gr) (s lb:ByteArray) {h:AHeap} {Q:APost} {P1 P2:List ByteArray -> Int -> Prop} (hc1:ACalls PP Gl 20 [aM g] h (fun r h'=>∃ l e,P1 l e /\ Res l e h r h')) (hc2:ACalls PP Gl 29 [convS g] h (fun r h'=>∃ l e,P2 l e /\ Res l e h r h'))
  (heq:∀ l e l' e',P1 l e -> P2 l' e' -> l=l' /\ e=e' /\ l.length <= 2 ^ 31) (hnext:AWp ⟨PP,Gl,122,ann_7,h.length,none⟩ tl10_7 Q (gsEnv g s lb) h) :
  AWp ⟨PP,Gl,122,ann_7,h.length,none⟩ tl7_7 Q (gsEnv g s lb) h:=by
 refine AWp.go (a:=cp7_7) (b:=tl8_7) rfl ?_
 simp -implicitDefEqProofs [cp7_7,aM,sv]
 refine be hc1 (by simp [aM]) rfl ?_
 rintro r h' ⟨l,e,p1,rfl,rfl⟩
 simp -implicitDefEqProofs
 refine AWp.go (a:=cp8_7) (b:=tl9_7) rfl ?_
 simp -implicitDefEqProofs [cp8_7,convS]
 refine be hc2 (by simp [convS]) rfl ?_
 rintro r h' ⟨l',e',p2,rfl,rfl⟩
 obtain ⟨rfl,rfl,hl⟩:=heq _ _ _ _ p1 p2
 simp -implicitDefEqProofs
 refine AWp.go (a:=cp9_7) (b:=tl10_7) rfl ?_
 simp -implicitDefEqProofs [cp9_7]
 refine aP (sameG_c l hl) rfl rfl ?_
 simp -implicitDefEqProofs
 exact hnext.weaken (aI (by simp [dslot,aM,convS,sv]))
set_option maxHeartbeats 2000000 in
theorem sets_reach (g:Gr) (s lb:ByteArray) {h:AHeap} {Q:APost} {P1 P2:List ByteArray -> Int -> Prop} (hc1:ACalls PP Gl 21 [aM g,.sc (.string s)] h (fun r h'=>∃ l e,P1 l e /\ Res l e h r h')) (hc2:ACalls PP Gl 30 [convS g,.sc (.string s)] h (fun r h'=>∃ l e,P2 l e /\ Res l e h r h'))
  (heq:∀ l e l' e',P1 l e -> P2 l' e' -> l=l' /\ e=e' /\ l.length <= 2 ^ 31) (hnext:AWp ⟨PP,Gl,122,ann_7,h.length,none⟩ tl13_7 Q (gsEnv g s lb) h) :
  AWp ⟨PP,Gl,122,ann_7,h.length,none⟩ tl10_7 Q (gsEnv g s lb) h:=by
 refine AWp.go (a:=cp10_7) (b:=tl11_7) rfl ?_
 simp -implicitDefEqProofs [cp10_7,aM,sv]
 refine be hc1 (by simp [aM]) rfl ?_
 rintro r h' ⟨l,e,p1,rfl,rfl⟩
 simp -implicitDefEqProofs
 refine AWp.go (a:=cp11_7) (b:=tl12_7) rfl ?_
 simp -implicitDefEqProofs [cp11_7,convS]
 refine be hc2 (by simp [convS]) rfl ?_
 rintro r h' ⟨l',e',p2,rfl,rfl⟩
 obtain ⟨rfl,rfl,hl⟩:=heq _ _ _ _ p1 p2
 simp -implicitDefEqProofs
 refine AWp.go (a:=cp12_7) (b:=tl13_7) rfl ?_
 simp -implicitDefEqProofs [cp12_7]
 refine aP (sameG_c l hl) rfl rfl ?_
 simp -implicitDefEqProofs
 exact hnext.weaken (aI (by simp [dslot,aM,convS,sv]))
set_option maxHeartbeats 2000000 in
theorem sets_cyc (g:Gr) (s lb:ByteArray) {h:AHeap} {P1 P2:List ByteArray -> Int -> Prop} (hc1:ACalls PP Gl 31 [aM g] h (fun r h'=>∃ l e,P1 l e /\ Res l e h r h')) (hc2:ACalls PP Gl 32 [convS g] h (fun r h'=>∃ l e,P2 l e /\ Res l e h r h'))
  (heq:∀ l e l' e',P1 l e -> P2 l' e' -> l=l' /\ e=e' /\ l.length <= 2 ^ 31) :
  AWp ⟨PP,Gl,122,ann_7,h.length,none⟩ tl13_7 (bw PP Gl h res_7 (fun r h'=>r=.ret (bl true) /\ h'=h)) (gsEnv g s lb) h:=by
 refine AWp.go (a:=cp13_7) (b:=tl14_7) rfl ?_
 simp -implicitDefEqProofs [cp13_7,aM,sv]
 refine be hc1 (by simp [aM]) rfl ?_
 rintro r h' ⟨l,e,p1,rfl,rfl⟩
 simp -implicitDefEqProofs
 refine AWp.go (a:=cp14_7) (b:=tl15_7) rfl ?_
 simp -implicitDefEqProofs [cp14_7,convS]
 refine be hc2 (by simp [convS]) rfl ?_
 rintro r h' ⟨l',e',p2,rfl,rfl⟩
 obtain ⟨rfl,rfl,hl⟩:=heq _ _ _ _ p1 p2
 simp -implicitDefEqProofs
 refine AWp.go (a:=cp15_7) (b:=tl16_7) rfl ?_
 simp -implicitDefEqProofs [cp15_7]
 refine aP (sameG_c l hl) rfl rfl ?_
 simp -implicitDefEqProofs
 refine aP awake_c rfl rfl ?_
 simp -implicitDefEqProofs
 refine AWp.ret ?_
 exact bx (v:=bl true) (by simp [deferred,dslot]) (by simp [aN,aK,res_7]) ⟨rfl,rfl⟩
end Go.Apx
end
section
namespace Go.Apx
open Go.Proofs
set_option maxRecDepth 4000
theorem filter_len {g:Gr} (hs:g.sorts.length <= 2 ^ 31) (c:ByteArray -> Bool):(g.sorts.filter c).length <= 2 ^ 31:=Nat.le_trans (List.length_filter_le _ _) hs
def SetP (g:Gr) (e0:Int) (C:ByteArray -> Prop) (l:List ByteArray) (e:Int):Prop:=(e0 ≠ 0 /\ l=[] /\ e=e0) \/ (e0=0 /\ e=0 /\ ∃ c:ByteArray -> Bool,(∀ x ∈ g.sorts,(c x=true ↔ C x)) /\ l=g.sorts.filter c)
theorem SetP.eq {g:Gr} {e0:Int} {C:ByteArray -> Prop} (hs:g.sorts.length <= 2 ^ 31):∀ l e l' e',SetP g e0 C l e -> SetP g e0 C l' e' -> l=l' /\ e=e' /\ l.length <= 2 ^ 31:=by
 rintro l e l' e' (⟨h1,rfl,rfl⟩ | ⟨h1,rfl,c,hc,rfl⟩) (⟨h2,rfl,rfl⟩ | ⟨h2,rfl,d,hd,rfl⟩)
 .exact ⟨rfl,rfl,by simp⟩
 .exact (h1 h2).elim
 .exact (h2 h1).elim
 .refine ⟨List.filter_congr fun x hx=>?_,rfl,filter_len hs _⟩
  have a:=hc x hx
  have b:=hd x hx
  cases e1:c x with
  | true=>rw [(b.2 (a.1 e1))]
  | false =>
   cases e2:d x with
   | true=>rw [a.2 (b.1 e2)] at e1; cases e1
   | false=>rfl
section
variable {g:Gr} {h:AHeap}
theorem null_p (hs:g.sorts.length <= 2 ^ 31) (hr:g.rules.length <= 2 ^ 31) (hp:∀ R ∈ g.rules,R.parts.length <= 2 ^ 31) (hc:AEx PP Gl 23 [aM g] h (.ret (i64 (aO g))) h) :
  ACalls PP Gl 19 [aM g] h (fun r h'=>∃ l e,SetP g (aO g) (fun x=>Gn g x []) l e /\ Res l e h r h'):=by
 refine (Nullable_c g hs hr hp hc).mono ?_
 rintro r h' ⟨rfl,⟨h1,rfl⟩ | ⟨h1,S,hS,rfl⟩⟩
 .exact ⟨[],_,.inl ⟨h1,rfl,rfl⟩,rfl,rfl⟩
 .exact ⟨_,0,.inr ⟨h1,rfl,_,fun x _=>by rw [decide_eq_true_eq]; exact null_iff hS x,rfl⟩,rfl,rfl⟩
theorem prod_p (hs:g.sorts.length <= 2 ^ 31) (hr:g.rules.length <= 2 ^ 31) (hp:∀ R ∈ g.rules,R.parts.length <= 2 ^ 31) (hc:AEx PP Gl 23 [aM g] h (.ret (i64 (aO g))) h) :
  ACalls PP Gl 20 [aM g] h (fun r h'=>∃ l e,SetP g (aO g) (fun x=>∃ w,Gn g x w) l e /\ Res l e h r h'):=by
 refine (Productive_c g hs hr hp hc).mono ?_
 rintro r h' ⟨rfl,⟨h1,rfl⟩ | ⟨h1,S,hS,rfl⟩⟩
 .exact ⟨[],_,.inl ⟨h1,rfl,rfl⟩,rfl,rfl⟩
 .exact ⟨_,0,.inr ⟨h1,rfl,_,fun x _=>by rw [decide_eq_true_eq]; exact full_iff hS x,rfl⟩,rfl,rfl⟩
end
theorem rnull_p (g:Gr) {h:AHeap} (hs:g.sorts.length <= 2 ^ 31) (hr:g.rules.length <= 2 ^ 31) (hp:∀ R ∈ g.rules,R.parts.length <= 2 ^ 31) :
  ACalls PP Gl 28 [convS g] h (fun r h'=>∃ l e,SetP g (aO g) (fun x=>Gn g x []) l e /\ Res l e h r h'):=by
 have hcl:(bK g).rules.length=g.rules.length:=by simp [bK]
 refine ((rNullable_c (bK g) (fun e=>(gok e).nd) (fun e=>(gok e).inn) hs (by rw [hcl]; exact hr) (fun R hR=>by obtain ⟨Q,hQ,rfl⟩:=List.mem_map.1 hR; exact hp Q hQ)).args (.cons (conv_le g) (.refl _))).mono ?_
 rintro r h' ⟨rfl,⟨h1,rfl⟩ | ⟨h1,X,hX,rfl⟩⟩
 .rw [conv_check] at h1 ⊢
  exact ⟨[],_,.inl ⟨h1,rfl,rfl⟩,rfl,rfl⟩
 .have G':=gok h1
  rw [conv_check] at h1
  have hgw:GrowS (bK g) (fun _=>false) (bY (bK g) X):=⟨closed_marked G'.inn (hX.fix rfl),hX.snd⟩
  refine ⟨_,0,.inr ⟨h1,rfl,mkF (bK g) X,fun x hx=>?_,rfl⟩,rfl,rfl⟩
  show _ ↔ Gn g x []
  rw [<- gn_conv,<- null_iff hgw]
  unfold bY
  rw [List.mem_filter]
  exact ⟨fun h=>⟨hx,h⟩,fun h=>h.2⟩
theorem rprod_p (g:Gr) {h:AHeap} (hs:g.sorts.length <= 2 ^ 31) (hr:g.rules.length <= 2 ^ 31) (hp:∀ R ∈ g.rules,R.parts.length <= 2 ^ 31) :
  ACalls PP Gl 29 [convS g] h (fun r h'=>∃ l e,SetP g (aO g) (fun x=>∃ w,Gn g x w) l e /\ Res l e h r h'):=by
 have hcl:(bK g).rules.length=g.rules.length:=by simp [bK]
 refine ((rProductive_c (bK g) (fun e=>(gok e).nd) (fun e=>(gok e).inn) hs (by rw [hcl]; exact hr) (fun R hR=>by obtain ⟨Q,hQ,rfl⟩:=List.mem_map.1 hR; exact hp Q hQ)).args (.cons (conv_le g) (.refl _))).mono ?_
 rintro r h' ⟨rfl,⟨h1,rfl⟩ | ⟨h1,X,hX,rfl⟩⟩
 .rw [conv_check] at h1 ⊢
  exact ⟨[],_,.inl ⟨h1,rfl,rfl⟩,rfl,rfl⟩
 .have G':=gok h1
  rw [conv_check] at h1
  have hgw:GrowS (bK g) (fun _=>true) (bY (bK g) X):=⟨closed_marked G'.inn (hX.fix rfl),hX.snd⟩
  refine ⟨_,0,.inr ⟨h1,rfl,mkF (bK g) X,fun x hx=>?_,rfl⟩,rfl,rfl⟩
  have e:(∃ w,Gn g x w) ↔ ∃ w,Gn (bK g) x w:=⟨fun ⟨w,hw⟩=>⟨w,gn_conv.2 hw⟩,fun ⟨w,hw⟩=>⟨w,gn_conv.1 hw⟩⟩
  show _ ↔ ∃ w,Gn g x w
  rw [e,<- full_iff hgw]
  unfold bY
  rw [List.mem_filter]
  exact ⟨fun h=>⟨hx,h⟩,fun h=>h.2⟩
theorem reachS_rch {g:Gr} {s:ByteArray} {S:List ByteArray} (hS:ReachS g s S) (y:ByteArray):y ∈ S ↔ Rch g s y:=by
 obtain ⟨h1,h2⟩:=reach_cl hS
 constructor
 .intro h C c1 c2
  obtain ⟨b,hb,rfl⟩:=hS
  have key:∀ z y,C z -> (true,y) ∈ contE g z -> C y:=fun z y hz hy=>by
   obtain ⟨R,hR,e,p,hp,hne,e2⟩:=contE_mem.1 hy
   rw [<- e2]
   exact c2 R hR (by rw [e]; exact hz) p hp hne
  exact hb.snd C (fun _=>c1) (fun y hy=>key s y c1 hy) (fun z hz y hy=>key z y hz hy) y h
 .intro h
  exact h (fun z=>z ∈ S) h1 h2
theorem reach_p (g:Gr) (s:ByteArray) {h:AHeap} (hs:g.sorts.length <= 2 ^ 31) (hr:g.rules.length <= 2 ^ 31) (hp:∀ R ∈ g.rules,R.parts.length <= 2 ^ 31) (hc:AEx PP Gl 23 [aM g] h (.ret (i64 (aO g))) h) :
  ACalls PP Gl 21 [aM g,.sc (.string s)] h (fun r h'=>∃ l e,SetP g (aU g s) (fun x=>Rch g s x) l e /\ Res l e h r h'):=by
 refine (Reachable_c g s (fun e=>(gok e).inn) hs hr hp hc).mono ?_
 rintro r h' ⟨rfl,⟨h1,rfl⟩ | ⟨h1,S,hS,rfl⟩⟩
 .exact ⟨[],_,.inl ⟨h1,rfl,rfl⟩,rfl,rfl⟩
 .refine ⟨_,0,.inr ⟨h1,rfl,_,fun x _=>?_,rfl⟩,rfl,rfl⟩
  rw [decide_eq_true_eq]
  exact reachS_rch hS x
theorem rreach_p (g:Gr) (s:ByteArray) {h:AHeap} (hs:g.sorts.length <= 2 ^ 31) (hr:g.rules.length <= 2 ^ 31) :
  ACalls PP Gl 30 [convS g,.sc (.string s)] h (fun r h'=>∃ l e,SetP g (aU g s) (fun x=>Rch g s x) l e /\ Res l e h r h'):=by
 have hcl:(bK g).rules.length=g.rules.length:=by simp [bK]
 refine ((rReachable_c (bK g) s hs (by rw [hcl]; exact hr)).args (.cons (conv_le g) (.refl _))).mono ?_
 rintro r h' ⟨rfl,⟨h1,rfl⟩ | ⟨h1,X,hX,hF,rfl⟩⟩
 .rw [sorted_conv] at h1 ⊢
  exact ⟨[],_,.inl ⟨h1,rfl,rfl⟩,rfl,rfl⟩
 .rw [sorted_conv] at h1
  obtain ⟨hck,hhs⟩:=sorted_mem h1
  have G:=gok hck
  refine ⟨_,0,.inr ⟨h1,rfl,mkF (bK g) X,fun x hx=>?_,rfl⟩,rfl,rfl⟩
  exact ⟨fun h=>(rInv_conv hX).snd x (mem_has hx) h,fun h=>h (fun z=>mkF g X z=true) (rInv_conv hX).me (fun R hR hm p hp hne=>fixR_conv hF R hR hm p hp hne)⟩
theorem cyc_p (g:Gr) {h:AHeap} (hs:g.sorts.length <= 2 ^ 31) (hr:g.rules.length <= 2 ^ 31) (hp:∀ R ∈ g.rules,R.parts.length <= 2 ^ 31) (hcap:∀ R ∈ g.rules,R.parts ≠ [] -> R.cap ≠ .nil) (hc:AEx PP Gl 23 [aM g] h (.ret (i64 (aO g))) h) :
  ACalls PP Gl 31 [aM g] h (fun r h'=>∃ l e,SetP g (aO g) (fun x=>TcG g x x) l e /\ Res l e h r h'):=by
 refine (Cyclic_c g (fun e=>(gok e).inn) (fun e=>(gok e).nd) hs hr hp hcap hc).mono ?_
 rintro r h' ⟨rfl,⟨h1,rfl⟩ | ⟨h1,N,F,hN,hF,rfl⟩⟩
 .exact ⟨[],_,.inl ⟨h1,rfl,rfl⟩,rfl,rfl⟩
 .exact ⟨_,0,.inr ⟨h1,rfl,_,fun x _=>cyB_tc hN hF,rfl⟩,rfl,rfl⟩
theorem rcyc_p (g:Gr) {h:AHeap} (hs:g.sorts.length <= 2 ^ 31) (hr:g.rules.length <= 2 ^ 31) :
  ACalls PP Gl 32 [convS g] h (fun r h'=>∃ l e,SetP g (aO g) (fun x=>TcG g x x) l e /\ Res l e h r h'):=by
 have hcl:(bK g).rules.length=g.rules.length:=by simp [bK]
 refine ((rCyclic_c (bK g) hs (by rw [hcl]; exact hr)).args (.cons (conv_le g) (.refl _))).mono ?_
 rintro r h' ⟨rfl,⟨h1,rfl⟩ | ⟨h1,D,hD,rfl⟩⟩
 .rw [conv_check] at h1 ⊢
  exact ⟨[],_,.inl ⟨h1,rfl,rfl⟩,rfl,rfl⟩
 .rw [conv_check] at h1
  refine ⟨_,0,.inr ⟨h1,rfl,mkF (bK g) D,fun x hx=>?_,rfl⟩,rfl,rfl⟩
  rw [hD x (mem_has hx),tcG_conv]
set_option maxHeartbeats 4000000 in
theorem sets_law_c (g:Gr) (s lb:ByteArray) (hsl:g.sorts.length <= 2 ^ 31) (hrl:g.rules.length <= 2 ^ 31) (hpl:∀ R ∈ g.rules,R.parts.length <= 2 ^ 31) (hsc:g.sc.strip=g.sc) (hcap:∀ R ∈ g.rules,R.parts ≠ [] -> R.cap ≠ .nil) {h:AHeap}:AEx PP Gl 7 [aM g,.sc (.string s),.sc (.string lb)] h (.ret (bl true)) h:=by
 refine aC Tryz.func7 body_7 comp_7 resc_7 (by simp) (Nat.le_trans (m:=3) (by simp) (by decide)) ?_
 refine AWp.go (a:=cp0_7) (b:=tl1_7) rfl ?_
 simp -implicitDefEqProofs [cp0_7,aM]
 refine AWp.go (a:=cp1_7) (b:=tl2_7) rfl ?_
 simp -implicitDefEqProofs [cp1_7]
 refine aP (small_c g 30 8 hsl hrl) (by simp [aM]) rfl ?_
 by_cases h1:smallF g 30 8=true
 case neg =>
  simp -implicitDefEqProofs [h1]
  refine aP awake_c rfl rfl ?_
  simp -implicitDefEqProofs [res_7]
  exact bx (v:=bl true) (by simp [deferred,dslot]) (by simp [aN,aK]) ⟨rfl,rfl⟩
 by_cases h2:(300:Int) < s.size
 .simp -implicitDefEqProofs [h1,h2]
  refine aP awake_c rfl rfl ?_
  simp -implicitDefEqProofs [res_7]
  exact bx (v:=bl true) (by simp [deferred,dslot]) (by simp [aN,aK]) ⟨rfl,rfl⟩
 by_cases h3:(300:Int) < lb.size
 .simp -implicitDefEqProofs [h1,h2,h3]
  refine aP awake_c rfl rfl ?_
  simp -implicitDefEqProofs [res_7]
  exact bx (v:=bl true) (by simp [deferred,dslot]) (by simp [aN,aK]) ⟨rfl,rfl⟩
 obtain ⟨b1,b2,b3⟩:=small_bounds h1 (by omega)
 have hc:AEx PP Gl 23 [aM g] h (.ret (i64 (aO g))) h:=check_c g b3 hsl hrl
 have hcl:(bK g).rules.length=g.rules.length:=by simp [bK]
 have hrc:AEx PP Gl 25 [convS g] h (.ret (i64 (aO g))) h:=by
  have:=(rcheck_c (bK g) hsl (by rw [hcl]; exact hrl) (h:=h)).args (.cons (conv_le g) (.refl _))
  rwa [conv_check] at this
 have hrf:AEx PP Gl 27 [convS g,.sc (.string lb)] h (.ret (.sc (.int .i64 (findF g lb)))) h:=by
  have:=(rfind_c (bK g) lb (by rw [hcl]; exact hrl) (h:=h)).args (.cons (conv_le g) (.refl _))
  rwa [find_conv] at this
 simp -implicitDefEqProofs [h1,h2,h3]
 refine AWp.go (a:=cp2_7) (b:=tl3_7) rfl ?_
 simp -implicitDefEqProofs [cp2_7]
 refine aP (conv_c g hrl hpl hsc) (by simp [aM]) rfl ?_
 simp -implicitDefEqProofs [convS]
 refine AWp.go (a:=cp3_7) (b:=tl4_7) rfl ?_
 simp -implicitDefEqProofs [cp3_7]
 refine aP hc (by simp [aM]) rfl ?_
 simp -implicitDefEqProofs
 refine aP hrc (by simp [convS]) rfl ?_
 simp -implicitDefEqProofs
 refine aP (find_c g lb hrl) (by simp [aM]) rfl ?_
 simp -implicitDefEqProofs
 refine aP hrf (by simp [convS]) rfl ?_
 simp -implicitDefEqProofs
 have e4:=sets_cyc g s lb (cyc_p g hsl hrl hpl hcap hc) (rcyc_p g hsl hrl) (SetP.eq hsl)
 have e3:=sets_reach g s lb (reach_p g s hsl hrl hpl hc) (rreach_p g s hsl hrl) (SetP.eq hsl) e4
 have e2:=sets_prod g s lb (prod_p hsl hrl hpl hc) (rprod_p g hsl hrl hpl) (SetP.eq hsl) e3
 have e1:=sets_null g s lb (null_p hsl hrl hpl hc) (rnull_p g hsl hrl hpl) (SetP.eq hsl) e2
 exact e1.weaken (aI (by simp [dslot,aM,convS,sv]))
end Go.Apx
end
section
namespace Go.Apx
open Go.Proofs
theorem cap_ok {I:Imm} {m:aQ} {g:Gr} {v:Value} (h:AVRel I m (aM g) v):∀ R ∈ g.rules,R.parts ≠ [] -> R.cap ≠ .nil:=by
 intro R hR hne hc
 have h1:∃ x,AVRel I m (.sl 4 (g.rules.map ab) g.rc) x:=by
  unfold aM at h
  cases h with
  | agg _ vs hl h1 h =>
   have h3:(1:Nat) < vs.length:=by rw [<- hl]; simp
   exact ⟨vs[1],h 1 _ vs[1] rfl (by simp [h3])⟩
 obtain ⟨x,hx⟩:=h1
 generalize he:g.rules.map ab=es at hx
 generalize g.rc=rc at hx
 cases hx with
 | slnil =>
  rw [List.map_eq_nil_iff] at he
  rw [he] at hR
  simp at hR
 | sl _ _ _ a cap vs h0 hle hk hw h1 hl h =>
  have hm:AV.sl 3 (R.parts.map encP) R.cap ∈ es.flatMap AV.cells:=by
   rw [<- he]
   exact List.mem_flatMap.2 ⟨ab R,List.mem_map.2 ⟨R,hR,rfl⟩,by simp [ab,AV.cells]⟩
  obtain ⟨i,hi,e⟩:=List.mem_iff_getElem.1 hm
  have hr:=h i _ (vs[i]'(by rw [<- hl]; exact hi)) (by rw [List.getElem?_eq_getElem hi,e]) (List.getElem?_eq_getElem (by rw [<- hl]; exact hi))
  rw [hc] at hr
  generalize hps:R.parts.map encP=ps at hr
  generalize vs[i]'(by rw [<- hl]; exact hi)=y at hr
  cases hr with
  | slnil=>rw [List.map_eq_nil_iff] at hps; exact hne hps
  | sl _ _ _ _ _ _ h0=>exact h0 rfl
end Go.Apx
end
