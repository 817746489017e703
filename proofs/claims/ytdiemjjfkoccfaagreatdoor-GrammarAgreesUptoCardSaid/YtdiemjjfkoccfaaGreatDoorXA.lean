/- Walk: the law GrammarAgrees. -/
import Derived.Test.YtdiemjjfkoccfaaGreatDoorJB
section
namespace Go.Apx
open Go.Proofs
set_option linter.unusedVariables false
set_option linter.unusedSimpArgs false
set_option linter.unnecessarySimpa false
set_option maxRecDepth 4000
theorem mem_srtS {l : List ByteArray} {x : ByteArray} : x ∈ srtS l ↔ x ∈ l:=by
 unfold srtS
 simp only [List.mem_map,List.mem_mergeSort]
 constructor
 ·rintro ⟨a,⟨b,hb,rfl⟩,rfl⟩; rw [strL_bytesL]; exact hb
 ·intro h; exact ⟨_,⟨x,h,rfl⟩,strL_bytesL x⟩
def SentP (g : Gr) (s : ByteArray) (most : Int) (h : AHeap) (r : AEnd) (h' : AHeap) : Prop:=h' = h ∧
 ((∃ S,ReachS g s S ∧ Over g S most ∧ r = .ret (.tup [.sl 0 [] .nil,i64 15])) ∨ (∃ S l,ReachS g s S ∧ ¬ Over g S most ∧ Sts g s most l ∧ r = .ret (.tup [grown 1 (l.map encW),i64 0])))
def LstP (g : Gr) (s : ByteArray) (n f : Int) : Prop:=(f = 5 ∧ ¬ ∃ w,Gn g s w) ∨ (f = 15 ∧ (∃ w,Gn g s w) ∧ ∀ w,Gn g s w → 1000001 ≤ (w.length : Int)) ∨ (f = 0 ∧ n < 1000001 ∧ (∃ w,Gn g s w ∧ (w.length : Int) = n) ∧ ∀ w,Gn g s w → n ≤ w.length)
section
variable {g : Gr} (G : GrOk g) {s : ByteArray} (hs : hasF g.sorts s = true) {h : AHeap} (hc : AEx PP Gl 23 [encG g] h (.ret (i64 (checkF g))) h)
include G
theorem GrOk.srt (hs : hasF g.sorts s = true) : sortedF g s = 0:=by
 unfold sortedF
 rw [if_neg (by simp [G.ck]),if_pos hs]
theorem GrOk.pl : ∀ R ∈ g.rules,R.parts.length ≤ 2 ^ 31:=fun R hR=>by have:=G.parts R hR; omega
include hs hc
theorem sentP_c {most : Int} (hmo : 0 ≤ most ∧ most ≤ 12) : ACalls PP Gl 16 [encG g,.sc (.string s),i64 most] h (SentP g s most h):=by
 refine (Sentences_c g s most (fun _=>⟨G.inn,G.syms,G.nd⟩) G.sorts (by have:=G.rules; omega) (fun R hR=>by have:=G.parts R hR; omega) hc).mono ?_
 rintro r h' ⟨rfl,⟨h1,_⟩ | ⟨_,h1,_⟩ | ⟨_,_,_,hO⟩⟩
 ·exact (h1 (G.srt hs)).elim
 ·omega
 ·obtain ⟨S,hS,⟨ho,e⟩ | ⟨ho,l',q1,q2,q3,e⟩⟩:=hO.plain G.syms hmo.2
  ·exact ⟨rfl,.inl ⟨S,hS,ho,e⟩⟩
  ·exact ⟨rfl,.inr ⟨S,l',hS,ho,⟨q1,q2,q3⟩,e⟩⟩
omit hs in
theorem nullP_c : ACalls PP Gl 19 [encG g] h (fun r h'=>h' = h ∧ ∃ l : List ByteArray,(∀ x,x ∈ l ↔ x ∈ g.sorts ∧ Gn g x []) ∧ l.length ≤ 32 ∧ r = .ret (.tup [grown 1 (l.map sv),i64 0])):=by
 refine (Nullable_c g (by have:=G.sorts; omega) (by have:=G.rules; omega) G.pl hc).mono ?_
 rintro r h' ⟨rfl,⟨h1,_⟩ | ⟨_,S,hS,rfl⟩⟩
 ·exact (h1 G.ck).elim
 ·exact ⟨rfl,_,fun x=>by simp [pickS,null_iff hS],Nat.le_trans (List.length_filter_le _ _) G.sorts,rfl⟩
omit hs in
theorem prodP_c : ACalls PP Gl 20 [encG g] h (fun r h'=>h' = h ∧ ∃ l : List ByteArray,(∀ x,x ∈ l ↔ x ∈ g.sorts ∧ ∃ w,Gn g x w) ∧ l.length ≤ 32 ∧ r = .ret (.tup [grown 1 (l.map sv),i64 0])):=by
 refine (Productive_c g (by have:=G.sorts; omega) (by have:=G.rules; omega) G.pl hc).mono ?_
 rintro r h' ⟨rfl,⟨h1,_⟩ | ⟨_,S,hS,rfl⟩⟩
 ·exact (h1 G.ck).elim
 ·exact ⟨rfl,_,fun x=>by simp [pickS,full_iff hS],Nat.le_trans (List.length_filter_le _ _) G.sorts,rfl⟩
theorem reachP_c : ACalls PP Gl 21 [encG g,.sc (.string s)] h (fun r h'=>h' = h ∧ ∃ S,ReachS g s S ∧ r = .ret (.tup [grown 1 ((pickS g S).map sv),i64 0])):=by
 refine (Reachable_c g s (fun _=>G.inn) (by have:=G.sorts; omega) (by have:=G.rules; omega) G.pl hc).mono ?_
 rintro r h' ⟨rfl,⟨h1,_⟩ | ⟨_,S,hS,rfl⟩⟩
 ·exact (h1 (G.srt hs)).elim
 ·exact ⟨rfl,S,hS,rfl⟩
theorem firstP_c : ACalls PP Gl 11 [encG g,.sc (.string s)] h (fun r h'=>h' = h ∧ ∃ l : List ByteArray,(∀ x,x ∈ l ↔ ∃ w,Gn g s (x :: w)) ∧ l.length ≤ 2 ^ 31 ∧ r = .ret (.tup [grown 1 (l.map sv),i64 0])):=by
 refine (First_c g s (fun _=>G.inn) (by have:=G.sorts; omega) (by have:=G.rules; omega) (fun R hR=>by have:=G.parts R hR; omega) hc).mono ?_
 rintro r h' ⟨rfl,⟨h1,_⟩ | ⟨_,N,F,b,hN,hF,hb,rfl⟩⟩
 ·exact (h1 (G.srt hs)).elim
 ·refine ⟨rfl,_,fun x=>by rw [mem_srtS,first_iff hN hF hb],?_,rfl⟩
  rw [srtS_length]
  have h1:=nodup_le (hb.und (by simp)) (b:=symsG g) (fun y hy=>by
   obtain ⟨z,_,hz⟩:=hb.usnd y hy (by simp)
   exact begE_note hz)
  have:=symsG_len (g:=g) (by have:=G.rules; omega) (fun R hR=>by have:=G.parts R hR; omega)
  omega
theorem leastP_c : ACalls PP Gl 14 [encG g,.sc (.string s)] h (fun r h'=>h' = h ∧ ∃ n f,LstP g s n f ∧ r = .ret (.tup [i64 n,i64 f])):=by
 refine (Least_c g s G.nd (fun _=>G.inn) (by have:=G.sorts; omega) (by have:=G.rules; omega) G.pl hc).mono ?_
 rintro r h' ⟨rfl,⟨h1,_⟩ | ⟨_,S,hS,⟨hm,rfl⟩ | ⟨hm,M,hM,hok,rfl⟩⟩⟩
 ·exact (h1 (G.srt hs)).elim
 ·exact ⟨rfl,0,5,.inl ⟨rfl,fun he=>hm ((full_iff hS s).2 he)⟩,rfl⟩
 ·refine ⟨rfl,?_⟩
  unfold leastV
  split
  ·rename_i e
   exact ⟨0,15,.inr (.inl ⟨rfl,(full_iff hS s).1 hm,fun w hw=>by have:=hw.low hM; rw [e] at this; exact this⟩),rfl⟩
  ·rename_i e
   have h2:=(lenAt_ok hok s).2
   refine ⟨lenAt g M s,0,.inr (.inr ⟨rfl,?_,lens_att G.inn hM hs (by omega),fun w hw=>hw.low hM⟩),rfl⟩
   unfold farI at h2 e
   omega
end
end Go.Apx
end
section
namespace Go.Apx
open Go.Proofs
set_option linter.unusedVariables false
set_option linter.unusedSimpArgs false
set_option linter.unnecessarySimpa false
set_option maxRecDepth 4000
theorem gnilW : grown 1 ([] : List AV) = .sl 0 [] .nil:=rfl
theorem gconsW (a : AV) (l : List AV) : grown 1 (a :: l) = .sl 1 (a :: l) .any:=rfl
theorem encW_sl (x : W) : ∃ k c,encW x = .sl k (x.map sv) c ∧ (x ≠ [] → k = 1):=by
 cases x with
 | nil=>exact ⟨0,.nil,rfl,fun h=>(h rfl).elim⟩
 | cons a r=>exact ⟨1,.any,rfl,fun _=>rfl⟩
theorem grown_sl (l : List AV) : ∃ k c,grown 1 l = .sl k l c ∧ (l ≠ [] → k = 1):=by
 cases l with
 | nil=>exact ⟨0,.nil,rfl,fun h=>(h rfl).elim⟩
 | cons a r=>exact ⟨1,.any,rfl,fun _=>rfl⟩
set_option maxHeartbeats 8000000 in
theorem agrees_loop (most : Int) (l m lA : List ByteArray) (L Mm : List W) (kL kA kM : Nat) (cL cA cM : Cap) {h : AHeap} (hmo : 1 ≤ most ∧ most ≤ 4)
  (hkL : L ≠ [] → kL = 1) (hkA : lA ≠ [] → kA = 1) (hkM : Mm ≠ [] → kM = 1) (hLl : L.length ≤ 2 ^ 31) (hAl : lA.length ≤ 2 ^ 31)
  (r : List W) (hr : L = Mm ++ r) (hm1 : ∀ w ∈ Mm,(w.length : Int) < most) (hm2 : ∀ w ∈ r,(w.length : Int) = most) (hst : SortedW L) (hnd : L.Nodup) (hf : ∀ x w,x :: w ∈ L → x ∈ lA) :
  AWp ⟨PP,Gl,253,ann_law13_GrammarAgrees,h.length,none⟩ tl13_law13_GrammarAgrees (retPost PP Gl h res_law13_GrammarAgrees (fun r h'=>r = .ret (bl true) ∧ h' = h)) [(2,i64 most),(7,.sl kL (L.map encW) cL),(15,.sl kA (lA.map sv) cA),(19,.sl kM (Mm.map encW) cM)] h:=by
 refine AWp.go (a:=cp13_law13_GrammarAgrees) (b:=tl14_law13_GrammarAgrees) rfl ?_
 simp -implicitDefEqProofs [cp13_law13_GrammarAgrees]
 refine AWp.cnt L.length [2,7,15,19] (fun i=>[(20,i64 i)]) (fun _=>h) (fun i=>True) mixed trivial (le_of (by simp [dslot])) rfl (fun i hi hz=>?_) fun hz=>?_
 ·obtain ⟨x,hx⟩ : ∃ x,L[i]? = some x:=⟨L[i],by simp [hi]⟩
  have hlt : (i : Int) < L.length:=by omega
  have hne : L ≠ []:=by intro e; rw [e] at hi; simp at hi
  have k1:=hkL hne
  subst k1
  have wi : IntKind.i64.wrap ((i : Int) + 1) = (i : Int) + 1:=IntWalk.i64_in _ (by omega)
  obtain ⟨kx,cx,ex,hkx⟩:=encW_sl x
  have hxm : (x.length : Int) ≤ most:=by
   have:=List.mem_of_getElem? hx
   rw [hr] at this
   rcases List.mem_append.1 this with h1 | h1
   ·have:=hm1 x h1; omega
   ·have:=hm2 x h1; omega
  have hng : ¬ most < (x.length : Int):=by omega
  have hsame : AEx PP Gl 13 [.sl kx (x.map sv) cx,.sl kx (x.map sv) cx] h (.ret (bl true)) h:=by
   simpa using same_c kx kx x x cx cx hkx hkx (by omega) (h:=h)
  have hmx : ∀ him : i < Mm.length,Mm[i]? = some x ∧ (x.length : Int) < most:=fun him=>by
   have h1 : Mm[i]? = some x:=by rw [hr,List.getElem?_append_left him] at hx; exact hx
   exact ⟨h1,hm1 x (List.mem_of_getElem? h1)⟩
  have hmy : ∀ him : ¬ i < Mm.length,¬ (x.length : Int) < most:=fun him=>by
   have h1 : r[i - Mm.length]? = some x:=by rw [hr,List.getElem?_append_right (by omega)] at hx; exact hx
   have:=hm2 x (List.mem_of_getElem? h1)
   omega
  have hpv : 0 < i → ∃ j : Nat,(i : Int) - 1 = (j : Int) ∧ ∃ z kz cz,L[j]? = some z ∧ encW z = .sl kz (z.map sv) cz ∧ ¬ x.length < z.length ∧ z ≠ x ∧ AEx PP Gl 13 [.sl kz (z.map sv) cz,.sl kx (x.map sv) cx] h (.ret (bl false)) h:=fun h0=>by
   obtain ⟨z,hz⟩ : ∃ z,L[i - 1]? = some z:=⟨L[i - 1]'(by omega),by simp [show i - 1 < L.length by omega]⟩
   obtain ⟨kz,cz,ez,hkz⟩:=encW_sl z
   have e1 : L[i - 1]'(by omega) = z:=(List.getElem?_eq_some_iff.1 hz).2
   have e2 : L[i] = x:=(List.getElem?_eq_some_iff.1 hx).2
   have h1:=List.pairwise_iff_getElem.1 (sortedW_len hst) (i - 1) i (by omega) hi (by omega)
   have h2:=List.pairwise_iff_getElem.1 (List.nodup_iff_pairwise_ne.1 hnd) (i - 1) i (by omega) hi (by omega)
   rw [e1,e2] at h1 h2
   refine ⟨i - 1,by omega,z,kz,cz,hz,ez,by omega,h2,?_⟩
   have:=same_c kz kx z x cz cx hkz hkx (by omega) (h:=h)
   rwa [decide_eq_false h2] at this
  have wj : ∀ j : Nat,(i : Int) - 1 = (j : Int) → IntKind.i64.wrap (j : Int) = (j : Int):=fun j hj=>IntWalk.i64_in _ (by omega)
  have hxy : ∀ y v,x = y :: v → AEx PP Gl 22 [.sl kA (lA.map sv) cA,.sc (.string y)] h (.ret (bl true)) h:=fun y v e=>by
   have:=has_c kA lA cA y hkA hAl (h:=h)
   rwa [decide_eq_true (hf y v (by rw [← e]; exact List.mem_of_getElem? hx))] at this
  have hil : (i : Int) < Mm.length ↔ i < Mm.length:=by omega
  have h0i : (0 : Int) < i ↔ 0 < i:=by omega
  cases x with
  | nil =>
   have n1 : ¬ most < (0 : Int):=by simpa using hng
   by_cases him : i < Mm.length
   ·obtain ⟨m1,m2⟩:=hmx him
    have hmyy : (0 : Int) < most:=by simpa using m2
    have m1e : Mm[i]'him = _:=(List.getElem?_eq_some_iff.1 m1).2
    have k3 : kM = 1:=hkM (by intro e; rw [e] at him; simp at him)
    subst k3
    by_cases h0 : 0 < i
    ·obtain ⟨j,hj,z,kz,cz,hz2,ez,hzl,hzn,hps⟩:=hpv h0
     exact (hzn (by simpa using hzl)).elim
    ·simp -implicitDefEqProofs [lp0_law13_GrammarAgrees,hlt,hne,hx,ex,n1,hmyy,him,m1,h0]
     refine callk hsame (by simp [m1e,ex]) rfl ?_
     simp -implicitDefEqProofs [n1,hmyy,him,m1,h0,hx,ex,hne]
     rw [wi]
     exact le_of (by simp [dslot])
   ·have hmyy : ¬ (0 : Int) < most:=by simpa using hmy him
    by_cases h0 : 0 < i
    ·obtain ⟨j,hj,z,kz,cz,hz2,ez,hzl,hzn,hps⟩:=hpv h0
     exact (hzn (by simpa using hzl)).elim
    ·simp -implicitDefEqProofs [lp0_law13_GrammarAgrees,hlt,hne,hx,ex,n1,hmyy,him,h0]
     rw [wi]
     exact le_of (by simp [dslot])
  | cons y v =>
   have k2:=hkx (by simp)
   subst k2
   have n1 : ¬ most < (v.length : Int) + 1:=by simpa using hng
   have n2 : (0 : Int) < (v.length : Int) + 1:=by omega
   by_cases him : i < Mm.length
   ·obtain ⟨m1,m2⟩:=hmx him
    have hmyy : (v.length : Int) + 1 < most:=by simpa using m2
    have m1e : Mm[i]'him = _:=(List.getElem?_eq_some_iff.1 m1).2
    have k3 : kM = 1:=hkM (by intro e; rw [e] at him; simp at him)
    subst k3
    by_cases h0 : 0 < i
    ·obtain ⟨j,hj,z,kz,cz,hz2,ez,hzl,hzn,hps⟩:=hpv h0
     have wj:=wj j hj
     have z1 : ¬ ((v.length : Int) + 1 : Int) < z.length:=by simp at hzl ⊢; omega
     simp -implicitDefEqProofs [lp0_law13_GrammarAgrees,hlt,hne,hx,ex,n1,n2,hmyy,him,m1,h0,hj,wj,hz2,ez,z1]
     refine callk (hxy y v rfl) rfl rfl ?_
     simp -implicitDefEqProofs [n1,n2,hmyy,him,m1,h0,hx,ex,hne,hj,wj,hz2,ez,z1]
     refine callk hsame (by simp [m1e,ex]) rfl ?_
     simp -implicitDefEqProofs [n1,n2,hmyy,him,m1,h0,hx,ex,hne,hj,wj,hz2,ez,z1]
     refine callk hps (by simp) rfl ?_
     simp -implicitDefEqProofs [n1,n2,hmyy,him,m1,h0,hx,ex,hne,hj,wj,hz2,ez,z1]
     rw [wi]
     exact le_of (by simp [dslot])
    ·simp -implicitDefEqProofs [lp0_law13_GrammarAgrees,hlt,hne,hx,ex,n1,n2,hmyy,him,m1,h0]
     refine callk (hxy y v rfl) rfl rfl ?_
     simp -implicitDefEqProofs [n1,n2,hmyy,him,m1,h0,hx,ex,hne]
     refine callk hsame (by simp [m1e,ex]) rfl ?_
     simp -implicitDefEqProofs [n1,n2,hmyy,him,m1,h0,hx,ex,hne]
     rw [wi]
     exact le_of (by simp [dslot])
   ·have hmyy : ¬ (v.length : Int) + 1 < most:=by simpa using hmy him
    by_cases h0 : 0 < i
    ·obtain ⟨j,hj,z,kz,cz,hz2,ez,hzl,hzn,hps⟩:=hpv h0
     have wj:=wj j hj
     have z1 : ¬ ((v.length : Int) + 1 : Int) < z.length:=by simp at hzl ⊢; omega
     simp -implicitDefEqProofs [lp0_law13_GrammarAgrees,hlt,hne,hx,ex,n1,n2,hmyy,him,h0,hj,wj,hz2,ez,z1]
     refine callk (hxy y v rfl) rfl rfl ?_
     simp -implicitDefEqProofs [n1,n2,hmyy,him,h0,hx,ex,hne,hj,wj,hz2,ez,z1]
     refine callk hps (by simp) rfl ?_
     simp -implicitDefEqProofs [n1,n2,hmyy,him,h0,hx,ex,hne,hj,wj,hz2,ez,z1]
     rw [wi]
     exact le_of (by simp [dslot])
    ·simp -implicitDefEqProofs [lp0_law13_GrammarAgrees,hlt,hne,hx,ex,n1,n2,hmyy,him,h0]
     refine callk (hxy y v rfl) rfl rfl ?_
     simp -implicitDefEqProofs [n1,n2,hmyy,him,h0,hx,ex,hne]
     rw [wi]
     exact le_of (by simp [dslot])
 ·simp -implicitDefEqProofs [lp0_law13_GrammarAgrees]
  refine AWp.go (a:=cp14_law13_GrammarAgrees) (b:=tl15_law13_GrammarAgrees) rfl ?_
  simp -implicitDefEqProofs [cp14_law13_GrammarAgrees]
  refine callk awake_c rfl rfl ?_
  simp -implicitDefEqProofs
  refine codeWp_sound mixed ?_
  simp -implicitDefEqProofs [tl15_law13_GrammarAgrees,res_law13_GrammarAgrees]
  exact ret1 (v:=bl true) (by simp [deferred,dslot]) (by simp [evalRes,evalRes1]) ⟨rfl,rfl⟩
end Go.Apx
end
