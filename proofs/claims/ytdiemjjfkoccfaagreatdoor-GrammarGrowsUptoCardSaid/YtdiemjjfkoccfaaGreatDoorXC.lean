/- Plain law: a grammar with one rule less. -/
import Derived.Test.YtdiemjjfkoccfaaGreatDoorXA
section
namespace Go.Apx
open Go.Proofs
set_option linter.unusedVariables false
set_option linter.unusedSimpArgs false
def minG (g : Gr) (d : Nat) (c : Cap) : Gr:={ sorts:=g.sorts,rules:=g.rules.eraseIdx d,sc:=g.sc,rc:=c }
theorem erase_step {α : Type} {l : List α} {i d : Nat} {x : α} (h : l[i]? = some x) : (l.take (i + 1)).eraseIdx d = (l.take i).eraseIdx d ++ (if i = d then [] else [x]):=by
 have hi:=lt_of h
 have hl : (l.take i).length = i:=by rw [List.length_take]; omega
 rw [List.take_add_one,h]
 show (l.take i ++ [x]).eraseIdx d = _
 rw [List.eraseIdx_append]
 by_cases h1 : d < i
 ·rw [if_pos (by omega),if_neg (by omega)]
 ·rw [if_neg (by omega),hl,List.eraseIdx_of_length_le (l:=l.take i) (by omega)]
  by_cases h2 : i = d
  ·subst h2; simp
  ·rw [if_neg h2,List.eraseIdx_of_length_le (by simp; omega)]
theorem minG_sub {g : Gr} {d : Nat} {c : Cap} : ∀ R ∈ (minG g d c).rules,R ∈ g.rules:=fun R h=>List.mem_of_mem_eraseIdx h
theorem labels_nodup {g : Gr} (h : ∀ (i : Nat) R,g.rules[i]? = some R → findF g R.label = i) : (g.rules.map (·.label)).Nodup:=by
 rw [List.nodup_iff_pairwise_ne,List.pairwise_iff_getElem]
 intro i j hi hj hij e
 simp only [List.length_map] at hi hj
 simp only [List.getElem_map] at e
 have h2:=h j g.rules[j] (by simp [hj])
 have h3:=h i g.rules[i] (by simp [hi])
 rw [e] at h3
 omega
theorem nodup_label {x : Gr} (h : (x.rules.map (·.label)).Nodup) {i : Nat} {R : Rl} (hi : x.rules[i]? = some R) : findF x R.label = i:=by
 unfold findF
 refine placeF_some hi (by simp) fun y hy=>?_
 simp only [decide_eq_false_iff_not]
 intro e
 obtain ⟨j,hj⟩:=List.getElem?_of_mem hy
 have hlt:=lt_of hj
 rw [List.length_take] at hlt
 rw [List.getElem?_take,if_pos (by omega)] at hj
 have hil:=lt_of hi
 have h1:=List.pairwise_iff_getElem.1 (List.nodup_iff_pairwise_ne.1 h) j i (by simp; omega) (by simp; omega) (by omega)
 simp only [List.getElem_map] at h1
 have e1 : x.rules[j] = y:=(List.getElem?_eq_some_iff.1 hj).2
 have e2 : x.rules[i] = R:=(List.getElem?_eq_some_iff.1 hi).2
 rw [e1,e2] at h1
 exact h1 e
theorem minG_check {g : Gr} {d : Nat} {c : Cap} (h : checkF g = 0) : checkF (minG g d c) = 0:=by
 have hG:=gok h
 unfold checkF at h
 split at h
 ·omega
 ·rename_i c1
  split at h
  ·omega
  ·rename_i c2
   split at h
   ·rename_i c3
    split at h
    ·rename_i c4
     have hlb:=labels_nodup fun i R hi=>by
      have:=allIdx_get c4 hi
      simp only [ruleOkF,Bool.and_eq_true,decide_eq_true_eq] at this
      exact this.2
     have hlen : (minG g d c).rules.length ≤ g.rules.length:=List.length_eraseIdx_le _ _
     have hns : (minG g d c).sorts = g.sorts:=rfl
     unfold checkF
     rw [if_neg (by rw [hns]; omega),if_neg,if_pos,if_pos]
     ·refine allIdx_true fun i R hi=>?_
      simp only [ruleOkF,Bool.and_eq_true,decide_eq_true_eq]
      refine ⟨?_,nodup_label ?_ hi⟩
      ·obtain ⟨j,hj⟩:=List.getElem?_of_mem (minG_sub R (List.mem_of_getElem? hi))
       have:=allIdx_get c4 hj
       simp only [ruleOkF,Bool.and_eq_true] at this
       exact this.1
      ·show ((g.rules.eraseIdx d).map _).Nodup
       exact hlb.sublist ((List.eraseIdx_sublist _ _).map _)
     ·exact c3
     ·intro h3
      obtain ⟨R,hR,h4⟩:=List.any_eq_true.1 h3
      exact c2 (List.any_eq_true.2 ⟨R,minG_sub R hR,h4⟩)
    ·omega
   ·omega
section
variable {x g : Gr} (hsub : ∀ R ∈ x.rules,R ∈ g.rules)
include hsub
theorem gnP_mono {l : List Pt} {w : W} (h : GnP x l w) : GnP g l w:=by
 induction h with
 | nil=>exact .nil
 | sym p r w hp _ ih=>exact .sym p r w hp ih
 | srt p r R u w hp hR e _ _ ih1 ih=>exact .srt p r R u w hp (hsub R hR) e ih1 ih
theorem gn_mono {s : ByteArray} {w : W} (h : Gn x s w) : Gn g s w:=by
 obtain ⟨R,hR,e,h1⟩:=h
 exact ⟨R,hsub R hR,e,gnP_mono hsub h1⟩
theorem reach_mono {s : ByteArray} {S T : List ByteArray} (h : ReachS x s S) (h' : ReachS g s T) : ∀ y ∈ S,y ∈ T:=by
 have hm : ∀ z y,(true,y) ∈ contE x z → (true,y) ∈ contE g z:=fun z y hy=>by
  unfold contE contL at hy ⊢
  obtain ⟨R,hR,h2⟩:=List.mem_flatMap.1 hy
  obtain ⟨h3,h4⟩:=List.mem_filter.1 hR
  exact List.mem_flatMap.2 ⟨R,List.mem_filter.2 ⟨hsub R h3,h4⟩,h2⟩
 obtain ⟨b,hb,rfl⟩:=h
 obtain ⟨c,hc,rfl⟩:=h'
 exact hb.snd (fun y=>y ∈ c.S) (fun _=>hc.me rfl) (fun y hy=>hc.cl s (.inr rfl) y (hm _ _ hy)) (fun z hz y hy=>hc.cl z (.inl hz) y (hm _ _ hy))
theorem lst_mono {s : ByteArray} {n f m e : Int} (h : LstP x s n f) (h' : LstP g s m e) (hf : f = 0) : e = 0 ∧ m ≤ n:=by
 rcases h with ⟨h1,_⟩ | ⟨h1,_⟩ | ⟨_,hn,⟨w,hw,hl⟩,_⟩
 ·omega
 ·omega
 ·have hg:=gn_mono hsub hw
  rcases h' with ⟨_,h0⟩ | ⟨_,_,h0⟩ | ⟨h0,_,_,h2⟩
  ·exact (h0 ⟨w,hg⟩).elim
  ·have:=h0 w hg; omega
  ·have:=h2 w hg
   exact ⟨h0,by omega⟩
theorem sts_next {s : ByteArray} {most : Int} {l k : List W} (hl : Sts x s most l) (hk : Sts g s most k) {i a : Nat} (hi : i < l.length) (ha : (i = 0 ∧ a = 0) ∨ (0 < i ∧ k[a]? = l[i - 1]?)) :
  ∃ j,k[j]? = l[i]? ∧ a ≤ j ∧ j < k.length ∧ ∀ b w,a ≤ b → b < j → k[b]? = some w → some w ≠ l[i]?:=by
 have hx : l[i]? = some l[i]:=by simp [hi]
 have hm:=(hl.mem l[i]).1 (List.mem_of_getElem? hx)
 obtain ⟨j,hj⟩:=List.getElem?_of_mem ((hk.mem l[i]).2 ⟨gn_mono hsub hm.1,hm.2⟩)
 have hjl:=lt_of hj
 have hne : ∀ b c (hb : b < k.length) (hc : c < k.length),b < c → k[b] ≠ k[c]:=fun b c hb hc hbc=>List.pairwise_iff_getElem.1 (List.nodup_iff_pairwise_ne.1 hk.nd) b c hb hc hbc
 have ej : k[j] = l[i]:=(List.getElem?_eq_some_iff.1 hj).2
 refine ⟨j,by rw [hj,hx],?_,hjl,fun b w hab hbj hb e=>?_⟩
 ·rcases ha with ⟨_,rfl⟩ | ⟨h0,h1⟩
  ·exact Nat.zero_le _
  ·by_cases hlt : a ≤ j
   ·exact hlt
   ·exfalso
    have hp : l[i - 1]? = some l[i - 1]:=by simp [show i - 1 < l.length by omega]
    rw [hp] at h1
    have hal:=lt_of h1
    have ea : k[a] = l[i - 1]:=(List.getElem?_eq_some_iff.1 h1).2
    have h2:=List.pairwise_iff_getElem.1 hk.srt j a hjl hal (by omega)
    have h3:=List.pairwise_iff_getElem.1 hl.srt (i - 1) i (by omega) hi (by omega)
    have h4:=hne j a hjl hal (by omega)
    rw [ej,ea] at h2 h4
    have h5 : ¬ 0 < cmpW l[i - 1] l[i]:=fun hc=>h3 ((cmpW_anti _ _).2 hc)
    have h6 : cmpW l[i - 1] l[i] = 0:=by omega
    exact h4 (cmpW_zero h6).symm
 ·rw [hx] at e
  have hbl:=lt_of hb
  have eb : k[b] = w:=(List.getElem?_eq_some_iff.1 hb).2
  exact hne b j hbl hjl hbj (by rw [eb,ej]; exact Option.some.inj e)
end
end Go.Apx
end
section
namespace Go.Apx
open Go.Proofs
set_option linter.unusedVariables false
set_option linter.unusedSimpArgs false
set_option linter.unnecessarySimpa false
set_option maxRecDepth 4000
theorem within_c (k k2 : Nat) (a b : List ByteArray) (c c2 : Cap) (hk : a ≠ [] → k = 1) (hk2 : b ≠ [] → k2 = 1) (hl : a.length ≤ 2 ^ 31) (hl2 : b.length ≤ 2 ^ 31) (hw : ∀ x ∈ a,x ∈ b) {h : AHeap} : AEx PP Gl 24 [.sl k (a.map sv) c,.sl k2 (b.map sv) c2] h (.ret (bl true)) h:=by
 refine enter_law13_within (by simp) ?_
 simp [code_law13_within,res_law13_within,ann_law13_within]
 refine AWp.cnt a.length [0,1] (fun i=>[(5,i64 i)]) (fun _=>h) (fun i=>True) mixed trivial (le_of (by simp [dslot])) rfl ?_ ?_
 ·intro i hi hz
  obtain ⟨x,hx⟩ : ∃ x,a[i]? = some x:=⟨a[i],by simp [hi]⟩
  have hlt : (i : Int) < a.length:=by omega
  have hne : a ≠ []:=by intro e; rw [e] at hi; simp at hi
  have hc:=has_c k2 b c2 x hk2 hl2 (h:=h)
  rw [decide_eq_true (hw x (List.mem_of_getElem? hx))] at hc
  simp [lp0_law13_within,hlt,hx,hk hne,sv]
  refine callk hc rfl rfl ?_
  simp
  rw [IntWalk.i64_in ((i : Int) + 1) (by omega)]
  exact le_of (by simp [dslot,hk hne])
 ·intro hz
  simp [lp0_law13_within]
  exact retE (by simp [deferred,dslot]) rfl rfl rfl
theorem withinG_c (a b : List ByteArray) (hl : a.length ≤ 2 ^ 31) (hl2 : b.length ≤ 2 ^ 31) (hw : ∀ x ∈ a,x ∈ b) {h : AHeap} : AEx PP Gl 24 [grown 1 (a.map sv),grown 1 (b.map sv)] h (.ret (bl true)) h:=by
 obtain ⟨k,c,e,hk⟩:=grown_sl (a.map sv)
 obtain ⟨k2,c2,e2,hk2⟩:=grown_sl (b.map sv)
 rw [e,e2]
 exact within_c k k2 a b c c2 (fun h=>hk (by simpa using h)) (fun h=>hk2 (by simpa using h)) hl hl2 hw
theorem GrOk.srtN {g : Gr} (G : GrOk g) {s : ByteArray} (hs : hasF g.sorts s = false) : sortedF g s = 5:=by
 unfold sortedF
 rw [if_neg (by simp [G.ck]),if_neg (by simp [hs])]
section
variable {g : Gr} (G : GrOk g) {s : ByteArray} {h : AHeap} (hc : AEx PP Gl 23 [encG g] h (.ret (i64 (checkF g))) h)
include G hc
theorem reachB_c : ACalls PP Gl 21 [encG g,.sc (.string s)] h (fun r h'=>h' = h ∧ ∃ l : List ByteArray,l.length ≤ 2 ^ 31 ∧ ((hasF g.sorts s = true ∧ ∃ S,ReachS g s S ∧ l = pickS g S) ∨ (hasF g.sorts s = false ∧ l = [])) ∧ r = .ret (.tup [grown 1 (l.map sv),i64 (sortedF g s)])):=by
 refine (Reachable_c g s (fun _=>G.inn) (by have:=G.sorts; omega) (by have:=G.rules; omega) G.pl hc).mono ?_
 cases hs : hasF g.sorts s with
 | true =>
  rintro r h' ⟨rfl,⟨h1,_⟩ | ⟨_,S,hS,rfl⟩⟩
  ·exact (h1 (G.srt hs)).elim
  ·exact ⟨rfl,pickS g S,Nat.le_trans (List.length_filter_le _ _) (by have:=G.sorts; omega),.inl ⟨rfl,S,hS,rfl⟩,by rw [G.srt hs]⟩
 | false =>
  rintro r h' ⟨rfl,⟨h1,rfl⟩ | ⟨h1,_⟩⟩
  ·exact ⟨rfl,[],by simp,.inr ⟨rfl,rfl⟩,rfl⟩
  ·rw [G.srtN hs] at h1; omega
theorem firstB_c : ACalls PP Gl 11 [encG g,.sc (.string s)] h (fun r h'=>h' = h ∧ ∃ l : List ByteArray,l.length ≤ 2 ^ 31 ∧ ((hasF g.sorts s = true ∧ ∀ x,x ∈ l ↔ ∃ w,Gn g s (x :: w)) ∨ (hasF g.sorts s = false ∧ l = [])) ∧ r = .ret (.tup [grown 1 (l.map sv),i64 (sortedF g s)])):=by
 cases hs : hasF g.sorts s with
 | true =>
  refine (firstP_c G hs hc).mono ?_
  rintro r h' ⟨rfl,l,h1,h2,rfl⟩
  exact ⟨rfl,l,h2,.inl ⟨rfl,h1⟩,by rw [G.srt hs]⟩
 | false =>
  refine (First_c g s (fun _=>G.inn) (by have:=G.sorts; omega) (by have:=G.rules; omega) (fun R hR=>by have:=G.parts R hR; omega) hc).mono ?_
  rintro r h' ⟨rfl,⟨h1,rfl⟩ | ⟨h1,_⟩⟩
  ·exact ⟨rfl,[],by simp,.inr ⟨rfl,rfl⟩,rfl⟩
  ·rw [G.srtN hs] at h1; omega
theorem leastB_c : ACalls PP Gl 14 [encG g,.sc (.string s)] h (fun r h'=>h' = h ∧ ∃ n f,((hasF g.sorts s = true ∧ LstP g s n f) ∨ (hasF g.sorts s = false ∧ f = 5)) ∧ r = .ret (.tup [i64 n,i64 f])):=by
 cases hs : hasF g.sorts s with
 | true =>
  refine (leastP_c G hs hc).mono ?_
  rintro r h' ⟨rfl,n,f,h1,rfl⟩
  exact ⟨rfl,n,f,.inl ⟨rfl,h1⟩,rfl⟩
 | false =>
  refine (Least_c g s G.nd (fun _=>G.inn) (by have:=G.sorts; omega) (by have:=G.rules; omega) G.pl hc).mono ?_
  rintro r h' ⟨rfl,⟨h1,rfl⟩ | ⟨h1,_⟩⟩
  ·exact ⟨rfl,0,_,.inr ⟨rfl,G.srtN hs⟩,rfl⟩
  ·rw [G.srtN hs] at h1; omega
theorem sentB_c {most : Int} (hmo : 0 ≤ most ∧ most ≤ 12) : ACalls PP Gl 16 [encG g,.sc (.string s),i64 most] h (fun r h'=>h' = h ∧ ∃ (l : List W) (e : Int),l.length ≤ 2 ^ 31 ∧ (e = 0 → Sts g s most l) ∧ r = .ret (.tup [grown 1 (l.map encW),i64 e])):=by
 cases hs : hasF g.sorts s with
 | true =>
  refine (sentP_c G hs hc hmo).mono ?_
  rintro r h' ⟨rfl,⟨S,_,_,rfl⟩ | ⟨S,l,hS,hov,hl,rfl⟩⟩
  ·exact ⟨rfl,[],15,by simp,by omega,rfl⟩
  ·exact ⟨rfl,l,0,by have:=sts_len (reach_cl hS).1 hov hl; omega,fun _=>hl,rfl⟩
 | false =>
  refine (sentBad_c g s most (by rw [G.srtN hs]; omega) (by have:=G.sorts; omega) hc).mono ?_
  rintro r h' ⟨rfl,rfl⟩
  exact ⟨rfl,[],_,by simp,fun e=>by rw [G.srtN hs] at e; omega,rfl⟩
end
end Go.Apx
end
section
namespace Go.Apx
open Go.Proofs
set_option linter.unusedVariables false
set_option linter.unusedSimpArgs false
set_option linter.unnecessarySimpa false
set_option maxRecDepth 4000
structure LS where
 i : Nat
 a : Nat
set_option maxHeartbeats 8000000 in
theorem grows_loop (x g : Gr) (hsub : ∀ R ∈ x.rules,R ∈ g.rules) {s : ByteArray} {most : Int} (L K : List W) (hL : Sts x s most L) (hK : Sts g s most K) (kL kK : Nat) (cL cK : Cap) {h H : AHeap} (hlow : Low h.length h H) (hkL : L ≠ [] → kL = 1) (hkK : K ≠ [] → kK = 1) (hLl : L.length ≤ 2 ^ 31) (hKl : K.length ≤ 2 ^ 31) (hwl : ∀ w ∈ K,w.length ≤ 2 ^ 31) :
  AWp ⟨PP,Gl,223,ann_law13_GrammarGrows,h.length,none⟩ tl23_law13_GrammarGrows (retPost PP Gl h res_law13_GrammarGrows (fun r h'=>r = .ret (bl true) ∧ h' = h)) [(15,.sl kL (L.map encW) cL),(16,.sl kK (K.map encW) cK)] H:=by
 refine AWp.go (a:=cp23_law13_GrammarGrows) (b:=tl24_law13_GrammarGrows) rfl ?_
 simp -implicitDefEqProofs [cp23_law13_GrammarGrows]
 refine AWp.go (a:=cp24_law13_GrammarGrows) (b:=tl25_law13_GrammarGrows) rfl ?_
 simp -implicitDefEqProofs [cp24_law13_GrammarGrows]
 refine AWp.till (S:=LS) ⟨0,0⟩ (fun s=>L.length - s.i) [15,16] (fun s=>[(17,i64 s.a),(18,i64 s.i)]) (fun _=>H) (fun s=>s.i ≤ L.length ∧ ((s.i = 0 ∧ s.a = 0) ∨ (0 < s.i ∧ K[s.a]? = L[s.i - 1]?))) mixed ⟨by simp,.inl ⟨rfl,rfl⟩⟩ (le_of (by simp [dslot])) rfl ?_
 rintro ⟨i,a⟩ ⟨z1,z2⟩
 simp only at z1 z2
 by_cases hi : i < L.length
 ·obtain ⟨j,j1,j2,j3,j4⟩:=sts_next hsub hL hK hi z2
  obtain ⟨w,hw⟩ : ∃ w,L[i]? = some w:=⟨L[i],by simp [hi]⟩
  have hlt : (i : Int) < L.length:=by omega
  have hne : L ≠ []:=by intro e; rw [e] at hi; simp at hi
  have hneK : K ≠ []:=by intro e; rw [e] at j3; simp at j3
  have k1:=hkL hne
  have k2:=hkK hneK
  subst k1 k2
  have wi : IntKind.i64.wrap ((i : Int) + 1) = (i : Int) + 1:=IntWalk.i64_in _ (by omega)
  obtain ⟨kw,cw,ew,hkw⟩:=encW_sl w
  rw [hw] at j1 j4
  have hsm : ∀ b y,K[b]? = some y → ∃ ky cy,encW y = .sl ky (y.map sv) cy ∧ AEx PP Gl 13 [.sl ky (y.map sv) cy,.sl kw (w.map sv) cw] H (.ret (bl (decide (y = w)))) H:=fun b y hy=>by
   obtain ⟨ky,cy,ey,hky⟩:=encW_sl y
   exact ⟨ky,cy,ey,same_c ky kw y w cy cw hky hkw (hwl y (List.mem_of_getElem? hy))⟩
  simp -implicitDefEqProofs [lp1_law13_GrammarGrows,hlt]
  refine AWp.cnt (j - a) [15,16,18] (fun t=>[(17,i64 ((a + t : Nat) : Int))]) (fun _=>H) (fun _=>True) mixed trivial (le_of (by simp [dslot])) rfl (fun t ht _=>?_) fun _=>?_
  ·obtain ⟨y,hy⟩ : ∃ y,K[a + t]? = some y:=⟨K[a + t]'(by omega),by simp [show a + t < K.length by omega]⟩
   obtain ⟨ky,cy,ey,hsc⟩:=hsm _ _ hy
   have hyw : y ≠ w:=fun e=>j4 (a + t) y (by omega) (by omega) hy (by rw [e])
   rw [decide_eq_false hyw] at hsc
   have hkl : ((a + t : Nat) : Int) < K.length:=by omega
   have wa : IntKind.i64.wrap (((a + t : Nat) : Int) + 1) = ((a + (t + 1) : Nat) : Int):=by rw [IntWalk.i64_in _ (by omega)]; omega
   generalize hat : a + t = at' at *
   simp -implicitDefEqProofs [lp2_law13_GrammarGrows,hkl,hy,hw,ey,ew,hne,hneK]
   refine callk hsc rfl rfl ?_
   simp -implicitDefEqProofs [wa]
   exact le_of (by simp [dslot])
  ·obtain ⟨ky,cy,ey,hsc⟩:=hsm j w j1
   rw [decide_eq_true rfl] at hsc
   have hkl : (j : Int) < K.length:=by omega
   have hje : ((a + (j - a) : Nat) : Int) = (j : Int):=by omega
   have hjn : ¬ (j : Int) = K.length:=by omega
   have hjm : ¬ j = K.length:=by omega
   rw [hje]
   simp -implicitDefEqProofs [lp2_law13_GrammarGrows,hkl,j1,hw,ey,hne,hneK]
   rw [ew] at ey
   refine callk hsc (by simp at ey; simp [ey]) rfl ?_
   simp -implicitDefEqProofs [hjn,hjm,wi]
   exact ⟨⟨i + 1,j⟩,by simp only; omega,⟨by simp only; omega,.inr ⟨by simp,by simp [j1,hw]⟩⟩,le_of (by simp [dslot])⟩
 ·have hie : i = L.length:=by omega
  subst hie
  simp -implicitDefEqProofs [lp1_law13_GrammarGrows]
  refine AWp.go (a:=cp25_law13_GrammarGrows) (b:=tl26_law13_GrammarGrows) rfl ?_
  simp -implicitDefEqProofs [cp25_law13_GrammarGrows]
  refine callk awake_c rfl rfl ?_
  simp -implicitDefEqProofs
  refine codeWp_sound mixed ?_
  simp -implicitDefEqProofs [tl26_law13_GrammarGrows,res_law13_GrammarGrows]
  exact retCut (v:=bl true) h.length (by simp [deferred,dslot]) (by simp [evalRes,evalRes1]) (Nat.le_refl _) hlow.len rfl hlow.cl ⟨rfl,hlow.take⟩
end Go.Apx
end
