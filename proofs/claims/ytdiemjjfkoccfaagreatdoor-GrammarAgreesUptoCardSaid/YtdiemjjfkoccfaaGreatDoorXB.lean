/- Walk: the law GrammarAgrees. -/
import Derived.Test.YtdiemjjfkoccfaaGreatDoorXA
namespace Go.Apx
open Go.Proofs
set_option linter.unusedVariables false
set_option linter.unusedSimpArgs false
set_option linter.unnecessarySimpa false
set_option maxRecDepth 4000
theorem sts_len {g : Gr} {s : ByteArray} {most : Int} {S : List ByteArray} {l : List W} (hs : s ∈ S) (ho : ¬ Over g S most) (h : Sts g s most l) : l.length ≤ 2000:=by
 by_cases e : l.length ≤ 2000
 ·exact e
 ·exact (ho ⟨s,hs,l,h.nd,by omega,fun w hw=>(h.mem w).1 hw⟩).elim
set_option maxHeartbeats 4000000 in
theorem agrees_tl11 (g : Gr) (s : ByteArray) (most : Int) (G : GrOk g) (hhs : hasF g.sorts s = true) {h : AHeap} (hc : AEx PP Gl 23 [encG g] h (.ret (i64 (checkF g))) h) (hmo : 1 ≤ most ∧ most ≤ 4) (S : List ByteArray) (l : List W) (lA : List ByteArray) (hS : ReachS g s S) (hov : ¬ Over g S most) (hl : Sts g s most l)
  (hA : ∀ x,x ∈ lA ↔ ∃ w,Gn g s (x :: w)) (lAl : lA.length ≤ 2 ^ 31) (hll : l.length ≤ 2 ^ 31) :
  AWp ⟨PP,Gl,253,ann_law13_GrammarAgrees,h.length,none⟩ tl11_law13_GrammarAgrees (retPost PP Gl h res_law13_GrammarAgrees (fun r h'=>r = .ret (bl true) ∧ h' = h)) [(1,sv s),(2,i64 most),(3,.ip (encG g)),(7,grown 1 (l.map encW)),(15,grown 1 (lA.map sv))] h:=by
 obtain ⟨kL,cL,eL,hkL⟩:=grown_sl (l.map encW)
 obtain ⟨kA,cA,eA,hkA⟩:=grown_sl (lA.map sv)
 rw [eL,eA]
 refine AWp.go (a:=cp11_law13_GrammarAgrees) (b:=tl12_law13_GrammarAgrees) rfl ?_
 have wm : IntKind.i64.wrap (most - 1) = most - 1:=IntWalk.i64_in _ (by omega)
 simp -implicitDefEqProofs [cp11_law13_GrammarAgrees,encG,wm]
 refine callr (sentP_c (most:=most - 1) G hhs hc ⟨by omega,by omega⟩) (by simp [encG]) rfl ?_
 rintro r h' ⟨rfl,⟨S',h1,h2,rfl⟩ | ⟨S',m,_,_,hm,rfl⟩⟩
 ·exact (hov (h2.mono (reach_sub h1 hS) (by omega))).elim
 obtain ⟨kM,cM,eM,hkM⟩:=grown_sl (m.map encW)
 rw [eM]
 simp -implicitDefEqProofs
 refine AWp.go (a:=cp12_law13_GrammarAgrees) (b:=tl13_law13_GrammarAgrees) rfl ?_
 obtain ⟨r,e1,e2,e3⟩:=hl.front hm
 have hlen : ¬ (l.length : Int) < m.length:=by rw [e1]; simp; omega
 simp -implicitDefEqProofs [cp12_law13_GrammarAgrees,hlen]
 refine (agrees_loop most [] [] lA l m kL kA kM cL cA cM hmo (fun e=>hkL (by simpa using e)) (fun e=>hkA (by simpa using e)) (fun e=>hkM (by simpa using e)) hll lAl r e1 e2 e3 hl.srt hl.nd (fun x w hx=>(hA x).2 ⟨w,((hl.mem _).1 hx).1⟩)).weaken (le_of (by simp [dslot]))
set_option maxHeartbeats 4000000 in
theorem agrees_c (g : Gr) (s : ByteArray) (most : Int) (hsl : g.sorts.length ≤ 2 ^ 31) (hrl : g.rules.length ≤ 2 ^ 31) {h : AHeap} : AEx PP Gl 5 [encG g,.sc (.string s),i64 most] h (.ret (bl true)) h:=by
 refine acalls_of_code Tryz.func5 body_law13_GrammarAgrees comp_law13_GrammarAgrees resc_law13_GrammarAgrees (by simp) (Nat.le_trans (m:=3) (by simp) (by decide)) ?_
 refine AWp.go (a:=cp0_law13_GrammarAgrees) (b:=tl1_law13_GrammarAgrees) rfl ?_
 simp -implicitDefEqProofs [cp0_law13_GrammarAgrees,encG]
 refine AWp.go (a:=cp1_law13_GrammarAgrees) (b:=tl2_law13_GrammarAgrees) rfl ?_
 simp -implicitDefEqProofs [cp1_law13_GrammarAgrees]
 refine callk (small_c g 10 5 hsl hrl) (by simp [encG]) rfl ?_
 by_cases h1 : smallF g 10 5 = true
 case neg =>
  simp -implicitDefEqProofs [h1]
  refine callk awake_c rfl rfl ?_
  simp -implicitDefEqProofs [res_law13_GrammarAgrees]
  exact ret1 (v:=bl true) (by simp [deferred,dslot]) (by simp [evalRes,evalRes1]) ⟨rfl,rfl⟩
 by_cases h2 : (300 : Int) < s.size
 ·simp -implicitDefEqProofs [h1,h2]
  refine callk awake_c rfl rfl ?_
  simp -implicitDefEqProofs [res_law13_GrammarAgrees]
  exact ret1 (v:=bl true) (by simp [deferred,dslot]) (by simp [evalRes,evalRes1]) ⟨rfl,rfl⟩
 by_cases h3 : most < 1
 ·simp -implicitDefEqProofs [h1,h2,h3]
  refine callk awake_c rfl rfl ?_
  simp -implicitDefEqProofs [res_law13_GrammarAgrees]
  exact ret1 (v:=bl true) (by simp [deferred,dslot]) (by simp [evalRes,evalRes1]) ⟨rfl,rfl⟩
 by_cases h4 : 4 < most
 ·simp -implicitDefEqProofs [h1,h2,h3,h4]
  refine callk awake_c rfl rfl ?_
  simp -implicitDefEqProofs [res_law13_GrammarAgrees]
  exact ret1 (v:=bl true) (by simp [deferred,dslot]) (by simp [evalRes,evalRes1]) ⟨rfl,rfl⟩
 obtain ⟨b1,b2,b3⟩:=small_bounds h1 (by omega)
 have hc : AEx PP Gl 23 [encG g] h (.ret (i64 (checkF g))) h:=check_c g b3 hsl hrl
 simp -implicitDefEqProofs [h1,h2,h3,h4]
 refine AWp.go (a:=cp2_law13_GrammarAgrees) (b:=tl3_law13_GrammarAgrees) rfl ?_
 simp -implicitDefEqProofs [cp2_law13_GrammarAgrees]
 by_cases h5 : sortedF g s = 0
 case neg =>
  refine callk (sentBad_c g s most h5 hsl hc) (by simp [encG]) rfl ?_
  simp -implicitDefEqProofs
  refine AWp.go (a:=cp3_law13_GrammarAgrees) (b:=tl4_law13_GrammarAgrees) rfl ?_
  simp -implicitDefEqProofs [cp3_law13_GrammarAgrees,h5]
  refine callk awake_c rfl rfl ?_
  simp -implicitDefEqProofs [res_law13_GrammarAgrees]
  exact ret1 (v:=bl true) (by simp [deferred,dslot]) (by simp [evalRes,evalRes1]) ⟨rfl,rfl⟩
 obtain ⟨hck,hhs⟩:=sorted_mem h5
 have G:=gok hck
 refine callr (sentP_c (most:=most) G hhs hc ⟨by omega,by omega⟩) (by simp [encG]) rfl ?_
 rintro r h' ⟨rfl,⟨S,_,_,rfl⟩ | ⟨S,l,hS,hov,hl,rfl⟩⟩
 ·simp -implicitDefEqProofs
  refine AWp.go (a:=cp3_law13_GrammarAgrees) (b:=tl4_law13_GrammarAgrees) rfl ?_
  simp -implicitDefEqProofs [cp3_law13_GrammarAgrees]
  refine callk awake_c rfl rfl ?_
  simp -implicitDefEqProofs [res_law13_GrammarAgrees]
  exact ret1 (v:=bl true) (by simp [deferred,dslot]) (by simp [evalRes,evalRes1]) ⟨rfl,rfl⟩
 simp -implicitDefEqProofs
 refine AWp.go (a:=cp3_law13_GrammarAgrees) (b:=tl4_law13_GrammarAgrees) rfl ?_
 simp -implicitDefEqProofs [cp3_law13_GrammarAgrees]
 refine AWp.go (a:=cp4_law13_GrammarAgrees) (b:=tl5_law13_GrammarAgrees) rfl ?_
 simp -implicitDefEqProofs [cp4_law13_GrammarAgrees]
 refine callr (nullP_c G hc) (by simp [encG]) rfl ?_
 rintro r h' ⟨rfl,lN,hN,lNl,rfl⟩
 simp -implicitDefEqProofs
 refine AWp.go (a:=cp5_law13_GrammarAgrees) (b:=tl6_law13_GrammarAgrees) rfl ?_
 simp -implicitDefEqProofs [cp5_law13_GrammarAgrees]
 refine callr (prodP_c G hc) (by simp [encG]) rfl ?_
 rintro r h' ⟨rfl,lF,hF,lFl,rfl⟩
 simp -implicitDefEqProofs
 refine AWp.go (a:=cp6_law13_GrammarAgrees) (b:=tl7_law13_GrammarAgrees) rfl ?_
 simp -implicitDefEqProofs [cp6_law13_GrammarAgrees]
 refine callr (reachP_c G hhs hc) (by simp [encG]) rfl ?_
 rintro r h' ⟨rfl,T,hT,rfl⟩
 simp -implicitDefEqProofs
 refine AWp.go (a:=cp7_law13_GrammarAgrees) (b:=tl8_law13_GrammarAgrees) rfl ?_
 simp -implicitDefEqProofs [cp7_law13_GrammarAgrees]
 refine callr (firstP_c G hhs hc) (by simp [encG]) rfl ?_
 rintro r h' ⟨rfl,lA,hA,lAl,rfl⟩
 simp -implicitDefEqProofs
 refine AWp.go (a:=cp8_law13_GrammarAgrees) (b:=tl9_law13_GrammarAgrees) rfl ?_
 simp -implicitDefEqProofs [cp8_law13_GrammarAgrees]
 refine callr (leastP_c G hhs hc) (by simp [encG]) rfl ?_
 rintro r h' ⟨rfl,n,f,hnf,rfl⟩
 simp -implicitDefEqProofs
 have hmem:=has_mem hhs
 have hTs : s ∈ pickS g T:=by
  obtain ⟨b,hb,rfl⟩:=hT
  simp [pickS,hmem,hb.me rfl]
 have hTl : (pickS g T).length ≤ 2 ^ 31:=Nat.le_trans (List.length_filter_le _ _) (by have:=G.sorts; omega)
 cases l with
 | nil =>
  have hno : ∀ w,Gn g s w → most < (w.length : Int):=fun w hw=>by
   by_cases e : (w.length : Int) ≤ most
   ·have:=(hl.mem w).2 ⟨hw,e⟩; simp at this
   ·omega
  have eN : decide (s ∈ lN) = false:=by
   simp only [decide_eq_false_iff_not,hN]
   rintro ⟨_,h0⟩
   have:=hno [] h0
   simp at this; omega
  have eF : decide (s ∈ lF) = !decide (f = 5):=by
   rcases hnf with ⟨rfl,h0⟩ | ⟨rfl,h0,_⟩ | ⟨rfl,_,⟨w,hw,_⟩,_⟩
   ·simp [hF,h0]
   ·simp [hF,h0,hmem]
   ·have : ∃ w,Gn g s w:=⟨w,hw⟩
    simp [hF,this,hmem]
  have c1 : AEx PP Gl 22 [grown 1 (lN.map sv),.sc (.string s)] h' (.ret (bl false)) h':=by rw [← eN]; exact hasG_c lN s (by omega)
  have c2 : AEx PP Gl 22 [grown 1 ((pickS g T).map sv),.sc (.string s)] h' (.ret (bl true)) h':=by
   have:=hasG_c (pickS g T) s hTl (h:=h')
   rwa [decide_eq_true hTs] at this
  have c3 : AEx PP Gl 22 [grown 1 (lF.map sv),.sc (.string s)] h' (.ret (bl (!decide (f = 5)))) h':=by rw [← eF]; exact hasG_c lF s (by omega)
  simp -implicitDefEqProofs only [List.map_nil,gnilW]
  refine AWp.go (a:=cp9_law13_GrammarAgrees) (b:=tl10_law13_GrammarAgrees) rfl ?_
  simp -implicitDefEqProofs [cp9_law13_GrammarAgrees]
  refine callk c1 rfl rfl ?_
  simp -implicitDefEqProofs
  refine callk c2 rfl rfl ?_
  simp -implicitDefEqProofs
  refine callk c3 rfl rfl ?_
  simp -implicitDefEqProofs
  refine AWp.go (a:=cp10_law13_GrammarAgrees) (b:=tl11_law13_GrammarAgrees) rfl ?_
  have fin : ∀ (x9 x11 x13 : AV),True:=fun _ _ _=>trivial
  by_cases e0 : f = 0
  ·subst e0
   have hnm : ¬ n ≤ most:=by
    rcases hnf with ⟨h,_⟩ | ⟨h,_⟩ | ⟨_,_,⟨w,hw,h7⟩,_⟩
    ·omega
    ·omega
    ·have:=hno w hw; omega
   simp -implicitDefEqProofs [cp10_law13_GrammarAgrees,hnm]
   exact (agrees_tl11 g s most G hhs hc ⟨by omega,by omega⟩ S [] lA hS hov hl hA lAl (by simp)).weaken (le_of (by simp [dslot,encG,gnilW]))
  ·simp -implicitDefEqProofs [cp10_law13_GrammarAgrees,e0]
   exact (agrees_tl11 g s most G hhs hc ⟨by omega,by omega⟩ S [] lA hS hov hl hA lAl (by simp)).weaken (le_of (by simp [dslot,encG,gnilW]))
 | cons w l =>
  have hw:=(hl.mem w).1 (by simp)
  have hmin : ∀ v,Gn g s v → (w.length : Int) ≤ v.length:=fun v hv=>by
   by_cases e : (v.length : Int) ≤ most
   ·have h1:=(hl.mem v).2 ⟨hv,e⟩
    rcases List.mem_cons.1 h1 with rfl | h1
    ·omega
    ·have:=(List.pairwise_cons.1 (sortedW_len hl.srt)).1 v h1; omega
   ·have:=hw.2; omega
  have eN : decide (s ∈ lN) = decide (w = []):=by
   rw [decide_eq_decide,hN]
   constructor
   ·rintro ⟨_,h0⟩
    have:=hmin [] h0
    have h9 : ([] : W).length = 0:=rfl
    exact List.length_eq_zero_iff.1 (by omega)
   ·rintro rfl; exact ⟨hmem,hw.1⟩
  have eF : s ∈ lF:=(hF s).2 ⟨hmem,w,hw.1⟩
  obtain ⟨rfl,rfl⟩ : f = 0 ∧ n = (w.length : Int):=by
   rcases hnf with ⟨_,h0⟩ | ⟨_,_,h0⟩ | ⟨h0,_,⟨v,hv,h7⟩,h8⟩
   ·exact (h0 ⟨w,hw.1⟩).elim
   ·have:=h0 w hw.1; omega
   ·have:=h8 w hw.1
    have:=hmin v hv
    exact ⟨h0,by omega⟩
  have c1 : AEx PP Gl 22 [grown 1 (lN.map sv),.sc (.string s)] h' (.ret (bl (decide (w = [])))) h':=by rw [← eN]; exact hasG_c lN s (by omega)
  have c2 : AEx PP Gl 22 [grown 1 ((pickS g T).map sv),.sc (.string s)] h' (.ret (bl true)) h':=by
   have:=hasG_c (pickS g T) s hTl (h:=h')
   rwa [decide_eq_true hTs] at this
  have c3 : AEx PP Gl 22 [grown 1 (lF.map sv),.sc (.string s)] h' (.ret (bl true)) h':=by
   have:=hasG_c lF s (by omega) (h:=h')
   rwa [decide_eq_true eF] at this
  have hll : (w :: l).length ≤ 2 ^ 31:=by have:=sts_len (reach_cl hS).1 hov hl; omega
  obtain ⟨kw,cw,ew,hkw⟩:=encW_sl w
  have lp : (0 : Int) < (l.length : Int) + 1:=by omega
  have hwm : (w.length : Int) ≤ most:=hw.2
  have lz : ((w.length : Int) = 0) ↔ w = []:=by rw [← List.length_eq_zero_iff]; omega
  simp -implicitDefEqProofs only [List.map_cons,gconsW]
  refine AWp.go (a:=cp9_law13_GrammarAgrees) (b:=tl10_law13_GrammarAgrees) rfl ?_
  simp -implicitDefEqProofs [cp9_law13_GrammarAgrees]
  refine callk c1 rfl rfl ?_
  simp -implicitDefEqProofs [lp,ew]
  refine callk c2 rfl rfl ?_
  simp -implicitDefEqProofs [lp,ew]
  refine callk c3 rfl rfl ?_
  simp -implicitDefEqProofs [lp,ew]
  refine callk c3 rfl rfl ?_
  simp -implicitDefEqProofs [lp,ew]
  refine AWp.go (a:=cp10_law13_GrammarAgrees) (b:=tl11_law13_GrammarAgrees) rfl ?_
  simp -implicitDefEqProofs [cp10_law13_GrammarAgrees,lp,ew,hwm]
  exact (agrees_tl11 g s most G hhs hc ⟨by omega,by omega⟩ S (w :: l) lA hS hov hl hA lAl hll).weaken (le_of (by simp [dslot,encG,gconsW,ew]))
end Go.Apx
