/- Walk: the law GrammarAgrees. -/
import Derived.Test.YtdiemjjfkoccfaaGreatDoorJB
section
namespace Go.Apx
open Go.Proofs
set_option linter.unusedVariables false
set_option linter.unusedSimpArgs false
set_option linter.unnecessarySimpa false
set_option maxRecDepth 4000
theorem mem_srtS {l : List ByteArray} {x : ByteArray} : x ∈ srtS l ↔ x ∈ l:=by
 unfold srtS
 simp only [List.mem_map,List.mem_mergeSort]
 constructor
 ·rintro ⟨a,⟨b,hb,rfl⟩,rfl⟩; rw [strL_bytesL]; exact hb
 ·intro h; exact ⟨_,⟨x,h,rfl⟩,strL_bytesL x⟩
def SentP (g : Gr) (s : ByteArray) (most : Int) (h : AHeap) (r : AEnd) (h' : AHeap) : Prop:=h' = h ∧
 ((∃ S,ReachS g s S ∧ Over g S most ∧ r = .ret (.tup [.sl 0 [] .nil,i64 15])) ∨ (∃ S l,ReachS g s S ∧ ¬ Over g S most ∧ Sts g s most l ∧ r = .ret (.tup [grown 1 (l.map encW),i64 0])))
def LstP (g : Gr) (s : ByteArray) (n f : Int) : Prop:=(f = 5 ∧ ¬ ∃ w,Gn g s w) ∨ (f = 15 ∧ (∃ w,Gn g s w) ∧ ∀ w,Gn g s w → 1000001 ≤ (w.length : Int)) ∨ (f = 0 ∧ n < 1000001 ∧ (∃ w,Gn g s w ∧ (w.length : Int) = n) ∧ ∀ w,Gn g s w → n ≤ w.length)
section
variable {g : Gr} (G : GrOk g) {s : ByteArray} (hs : hasF g.sorts s = true) {h : AHeap} (hc : AEx PP Gl 23 [encG g] h (.ret (i64 (checkF g))) h)
include G
theorem GrOk.srt (hs : hasF g.sorts s = true) : sortedF g s = 0:=by
 unfold sortedF
 rw [if_neg (by simp [G.ck]),if_pos hs]
theorem GrOk.pl : ∀ R ∈ g.rules,R.parts.length ≤ 2 ^ 31:=fun R hR=>by have:=G.parts R hR; omega
include hs hc
theorem sentP_c {most : Int} (hmo : 0 ≤ most ∧ most ≤ 12) : ACalls PP Gl 16 [encG g,.sc (.string s),i64 most] h (SentP g s most h):=by
 refine (Sentences_c g s most (fun _=>⟨G.inn,G.syms,G.nd⟩) G.sorts (by have:=G.rules; omega) (fun R hR=>by have:=G.parts R hR; omega) hc).mono ?_
 rintro r h' ⟨rfl,⟨h1,_⟩ | ⟨_,h1,_⟩ | ⟨_,_,_,hO⟩⟩
 ·exact (h1 (G.srt hs)).elim
 ·omega
 ·obtain ⟨S,hS,⟨ho,e⟩ | ⟨ho,l',q1,q2,q3,e⟩⟩:=hO.plain G.syms hmo.2
  ·exact ⟨rfl,.inl ⟨S,hS,ho,e⟩⟩
  ·exact ⟨rfl,.inr ⟨S,l',hS,ho,⟨q1,q2,q3⟩,e⟩⟩
omit hs in
theorem nullP_c : ACalls PP Gl 19 [encG g] h (fun r h'=>h' = h ∧ ∃ l : List ByteArray,(∀ x,x ∈ l ↔ x ∈ g.sorts ∧ Gn g x []) ∧ l.length ≤ 32 ∧ r = .ret (.tup [grown 1 (l.map sv),i64 0])):=by
 refine (Nullable_c g (by have:=G.sorts; omega) (by have:=G.rules; omega) G.pl hc).mono ?_
 rintro r h' ⟨rfl,⟨h1,_⟩ | ⟨_,S,hS,rfl⟩⟩
 ·exact (h1 G.ck).elim
 ·exact ⟨rfl,_,fun x=>by simp [pickS,null_iff hS],Nat.le_trans (List.length_filter_le _ _) G.sorts,rfl⟩
omit hs in
theorem prodP_c : ACalls PP Gl 20 [encG g] h (fun r h'=>h' = h ∧ ∃ l : List ByteArray,(∀ x,x ∈ l ↔ x ∈ g.sorts ∧ ∃ w,Gn g x w) ∧ l.length ≤ 32 ∧ r = .ret (.tup [grown 1 (l.map sv),i64 0])):=by
 refine (Productive_c g (by have:=G.sorts; omega) (by have:=G.rules; omega) G.pl hc).mono ?_
 rintro r h' ⟨rfl,⟨h1,_⟩ | ⟨_,S,hS,rfl⟩⟩
 ·exact (h1 G.ck).elim
 ·exact ⟨rfl,_,fun x=>by simp [pickS,full_iff hS],Nat.le_trans (List.length_filter_le _ _) G.sorts,rfl⟩
theorem firstP_c : ACalls PP Gl 11 [encG g,.sc (.string s)] h (fun r h'=>h' = h ∧ ∃ l : List ByteArray,(∀ x,x ∈ l ↔ ∃ w,Gn g s (x :: w)) ∧ l.length ≤ 2 ^ 31 ∧ r = .ret (.tup [grown 1 (l.map sv),i64 0])):=by
 refine (First_c g s (fun _=>G.inn) (by have:=G.sorts; omega) (by have:=G.rules; omega) (fun R hR=>by have:=G.parts R hR; omega) hc).mono ?_
 rintro r h' ⟨rfl,⟨h1,_⟩ | ⟨_,N,F,b,hN,hF,hb,rfl⟩⟩
 ·exact (h1 (G.srt hs)).elim
 ·refine ⟨rfl,_,fun x=>by rw [mem_srtS,first_iff hN hF hb],?_,rfl⟩
  rw [srtS_length]
  have h1:=nodup_le (hb.und (by simp)) (b:=symsG g) (fun y hy=>by
   obtain ⟨z,_,hz⟩:=hb.usnd y hy (by simp)
   exact begE_note hz)
  have:=symsG_len (g:=g) (by have:=G.rules; omega) (fun R hR=>by have:=G.parts R hR; omega)
  omega
theorem leastP_c : ACalls PP Gl 14 [encG g,.sc (.string s)] h (fun r h'=>h' = h ∧ ∃ n f,LstP g s n f ∧ r = .ret (.tup [i64 n,i64 f])):=by
 refine (Least_c g s G.nd (fun _=>G.inn) (by have:=G.sorts; omega) (by have:=G.rules; omega) G.pl hc).mono ?_
 rintro r h' ⟨rfl,⟨h1,_⟩ | ⟨_,S,hS,⟨hm,rfl⟩ | ⟨hm,M,hM,hok,rfl⟩⟩⟩
 ·exact (h1 (G.srt hs)).elim
 ·exact ⟨rfl,0,5,.inl ⟨rfl,fun he=>hm ((full_iff hS s).2 he)⟩,rfl⟩
 ·refine ⟨rfl,?_⟩
  unfold leastV
  split
  ·rename_i e
   exact ⟨0,15,.inr (.inl ⟨rfl,(full_iff hS s).1 hm,fun w hw=>by have:=hw.low hM; rw [e] at this; exact this⟩),rfl⟩
  ·rename_i e
   have h2:=(lenAt_ok hok s).2
   refine ⟨lenAt g M s,0,.inr (.inr ⟨rfl,?_,lens_att G.inn hM hs (by omega),fun w hw=>hw.low hM⟩),rfl⟩
   unfold farI at h2 e
   omega
end
end Go.Apx
end
section
namespace Go.Apx
open Go.Proofs
set_option linter.unusedVariables false
set_option linter.unusedSimpArgs false
set_option linter.unnecessarySimpa false
set_option maxRecDepth 4000
theorem encW_sl (x : W) : ∃ k c,encW x = .sl k (x.map sv) c ∧ (x ≠ [] → k = 1):=by
 cases x with
 | nil=>exact ⟨0,.nil,rfl,fun h=>(h rfl).elim⟩
 | cons a r=>exact ⟨1,.any,rfl,fun _=>rfl⟩
theorem grown_sl (l : List AV) : ∃ k c,grown 1 l = .sl k l c ∧ (l ≠ [] → k = 1):=by
 cases l with
 | nil=>exact ⟨0,.nil,rfl,fun h=>(h rfl).elim⟩
 | cons a r=>exact ⟨1,.any,rfl,fun _=>rfl⟩
end Go.Apx
end
section
namespace Go.Apx
open Go.Proofs
set_option linter.unusedVariables false
set_option linter.unusedSimpArgs false
set_option linter.unnecessarySimpa false
set_option maxRecDepth 4000
theorem sts_len {g : Gr} {s : ByteArray} {most : Int} {S : List ByteArray} {l : List W} (hs : s ∈ S) (ho : ¬ Over g S most) (h : Sts g s most l) : l.length ≤ 2000:=by
 by_cases e : l.length ≤ 2000
 ·exact e
 ·exact (ho ⟨s,hs,l,h.nd,by omega,fun w hw=>(h.mem w).1 hw⟩).elim
end Go.Apx
end
