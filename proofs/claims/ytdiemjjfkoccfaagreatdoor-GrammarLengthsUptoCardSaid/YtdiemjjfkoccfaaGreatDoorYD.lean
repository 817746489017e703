/- Grammars of the reference: values that may stand for others. -/
import Derived.Test.YtdiemjjfkoccfaaGreatDoorEB
import Derived.Test.YtdiemjjfkoccfaaGreatDoorYC
import Derived.Test.YtdiemjjfkoccfaaGreatDoorXC
set_option linter.unusedVariables false
set_option linter.unusedSimpArgs false
set_option linter.unnecessarySimpa false
section
namespace Go.Apx
open Go.Proofs
set_option maxRecDepth 4000
theorem AVLe.agg {cs ds:List AV} (hl:cs.length=ds.length) (h1:∀ d ∈ ds,d.one=true) (h:∀ (i:Nat) (a b:AV),cs[i]?=some a -> ds[i]?=some b -> AVLe a b):AVLe (.agg cs) (.agg ds):=fun I m x hx=>by
 cases hx with
 | agg _ vs hl' h1' hr =>
  refine .agg ds vs (by omega) h1 fun i b x hb hx=>?_
  have hi:i < cs.length:=by rw [hl]; exact (List.getElem?_eq_some_iff.1 hb).1
  exact h i _ b (List.getElem?_eq_getElem hi) hb I m x (hr i _ x (List.getElem?_eq_getElem hi) hx)
def PW (cs ds:List AV):Prop:=cs.length=ds.length /\ ∀ (i:Nat) (a b:AV),cs[i]?=some a -> ds[i]?=some b -> AVLe a b
theorem PW.append {a b c d:List AV} (h:PW a b) (h':PW c d):PW (a++c) (b++d):=by
 refine ⟨by simp [h.1,h'.1],fun i x y hx hy=>?_⟩
 rcases Nat.lt_or_ge i a.length with h1 | h1
 .rw [List.getElem?_append_left h1] at hx
  rw [List.getElem?_append_left (by rw [<- h.1]; exact h1)] at hy
  exact h.2 i x y hx hy
 .rw [List.getElem?_append_right h1] at hx
  rw [List.getElem?_append_right (by rw [<- h.1]; exact h1),<- h.1] at hy
  exact h'.2 _ x y hx hy
theorem PW.flat {α:Type} {f g:α -> AV}:∀ (l:List α),(∀ a ∈ l,PW (f a).cells (g a).cells) -> PW ((l.map f).flatMap AV.cells) ((l.map g).flatMap AV.cells)
 | [],_=>⟨rfl,fun i a b ha=>by simp at ha⟩
 | a :: l,h=>by
  simp only [List.map_cons,List.flatMap_cons]
  exact (h a (by simp)).append (PW.flat l fun b hb=>h b (by simp [hb]))
theorem AVLe.slMap {α:Type} {k:Nat} (l:List α) (f g:α -> AV) (c:Cap) (h:∀ a ∈ l,PW (f a).cells (g a).cells) (h1:∀ a ∈ l,∀ d ∈ (g a).cells,d.one=true):AVLe (.sl k (l.map f) c) (.sl k (l.map g) c):=fun I m x hx=>by
 have hpw:=PW.flat l h
 cases l with
 | nil=>exact hx
 | cons a0 l0 =>
 generalize hl0:a0 :: l0=l at *
 have hne:l.map f ≠ []:=by rw [<- hl0]; simp
 generalize hm:l.map f=lf at *
 cases hx with
 | slnil=>exact (hne rfl).elim
 | sl _ _ _ a cap vs hc hle hk hw h1' hl hr hI hs hcap =>
  subst hm
  have e:(l.map f).length=(l.map g).length:=by simp
  rw [e]
  refine .sl k (l.map g) c a cap vs hc (by rw [<- e]; exact hle) hk (fun v hv=>?_) (fun d hd=>?_) (by rw [<- hpw.1]; exact hl) (fun i u x hu hx=>?_) hI (fun hne=>hs fun e2=>hne ?_) (by rw [<- e]; exact hcap)
  .obtain ⟨b,hb,rfl⟩:=List.mem_map.1 hv
   rw [<- (h b hb).1]
   exact hw _ (List.mem_map.2 ⟨b,hb,rfl⟩)
  .obtain ⟨v,hv,hd2⟩:=List.mem_flatMap.1 hd
   obtain ⟨b,hb,rfl⟩:=List.mem_map.1 hv
   exact h1 b hb d hd2
  .have hi:i < ((l.map f).flatMap AV.cells).length:=by rw [hpw.1]; exact (List.getElem?_eq_some_iff.1 hu).1
   exact hpw.2 i _ u (List.getElem?_eq_getElem hi) hu I m x (hr i _ x (List.getElem?_eq_getElem hi) hx)
  .have:l=[]:=by simpa using e2
   subst this; rfl
def convR (r:Rl):Rl:={ r with cap:=if r.parts=[] then .nil else .any }
def convG (g:Gr):Gr:={ sorts:=g.sorts,rules:=g.rules.map convR,sc:=g.sc,rc:=if g.rules=[] then .nil else .any }
theorem conv_le (g:Gr):AVLe (convS g) (encG (convG g)):=by
 unfold convS encG
 refine AVLe.agg rfl (by simp) fun i a b ha hb=>?_
 match i,ha,hb with
 | 0,ha,hb =>
  simp at ha hb; subst ha hb
  exact .refl _
 | 1,ha,hb =>
  simp only [List.getElem?_cons_succ,List.getElem?_cons_zero,Option.some.injEq] at ha hb
  subst ha hb
  simp only [convG,List.map_map]
  by_cases hr:g.rules=[]
  .simp only [hr,if_true,List.map_nil]
   exact .nil 0 4
  .simp only [if_neg hr]
   refine AVLe.slMap g.rules convV (encR ∘ convR) .any (fun r _=>?_) (fun r _ d hd=>?_)
   .refine ⟨rfl,fun i a b ha hb=>?_⟩
    match i,ha,hb with
    | 0,ha,hb=>simp [convV,encR,convR,AV.cells] at ha hb; subst ha hb; exact .refl _
    | 1,ha,hb=>simp [convV,encR,convR,AV.cells] at ha hb; subst ha hb; exact .refl _
    | 2,ha,hb =>
     simp [convV,encR,convR,AV.cells] at ha hb; subst ha hb
     by_cases hp:r.parts=[]
     .simp only [hp,if_true,List.map_nil]; exact .nil _ 3
     .simp only [if_neg hp,apdK,List.map_eq_nil_iff]
      exact .refl _
    | 3,ha,hb=>simp [convV,encR,convR,AV.cells] at ha hb; subst ha hb; exact .refl _
    | n+4,ha,hb=>simp [convV,AV.cells] at ha
   .simp [encR,AV.cells] at hd
    rcases hd with rfl | rfl | rfl | rfl <;> rfl
 | n+2,ha,hb=>simp at ha
theorem placeF_map {α β:Type} (p:β -> Bool) (f:α -> β) (l:List α):placeF p (l.map f)=placeF (fun a=>p (f a)) l:=by
 unfold placeF
 rw [List.findIdx?_map]
 rfl
theorem conv_find (g:Gr) (s:ByteArray):findF (convG g) s=findF g s:=by
 unfold findF
 rw [show (convG g).rules=g.rules.map convR from rfl,placeF_map]
 rfl
theorem allIdx_map {α β:Type} (p:β -> Nat -> Bool) (f:α -> β) (l:List α):allIdx p (l.map f)=allIdx (fun a i=>p (f a) i) l:=by
 unfold allIdx
 rw [List.length_map]
 congr 1
 funext i
 rw [List.getElem?_map]
 cases l[i]? <;> rfl
theorem conv_check (g:Gr):checkF (convG g)=checkF g:=by
 have h1:(convG g).rules.length=g.rules.length:=by simp [convG]
 have h2:(convG g).rules.any longF=g.rules.any longF:=by
  show (g.rules.map convR).any longF=_
  rw [List.any_map]; rfl
 have h3:allIdx (ruleOkF (convG g)) (convG g).rules=allIdx (ruleOkF g) g.rules:=by
  show allIdx _ (g.rules.map convR)=_
  rw [allIdx_map]
  congr 1
  funext r i
  unfold ruleOkF
  rw [conv_find]
  rfl
 unfold checkF
 rw [h1,h2,h3]
 rfl
end Go.Apx
end
section
namespace Go.Apx
open Go.Proofs
set_option maxRecDepth 4000
theorem firstBad_c (g:Gr) (s:ByteArray) {h:AHeap} (h1:sortedF g s ≠ 0) (hs:g.sorts.length <= 2 ^ 31) (hc:AEx PP Gl 23 [encG g] h (.ret (i64 (checkF g))) h) :
  AEx PP Gl 11 [encG g,.sc (.string s)] h (.ret (.tup [.sl 0 [] .nil,i64 (sortedF g s)])) h:=by
 refine enter_11 (by simp) ?_
 simp -implicitDefEqProofs [code_11,res_11,ann_11,encG]
 refine callk (sorted_c g s hs hc) (by simp [encG]) rfl ?_
 simp -implicitDefEqProofs [h1]
 exact ret1 (v:=.tup [.sl 0 [] .nil,i64 (sortedF g s)]) (by simp [deferred,dslot]) (by simp [evalRes,evalRes1]) ⟨rfl,rfl⟩
theorem leastBad_c (g:Gr) (s:ByteArray) {h:AHeap} (h1:sortedF g s ≠ 0) (hs:g.sorts.length <= 2 ^ 31) (hc:AEx PP Gl 23 [encG g] h (.ret (i64 (checkF g))) h) :
  AEx PP Gl 14 [encG g,.sc (.string s)] h (.ret (.tup [i64 0,i64 (sortedF g s)])) h:=by
 refine enter_14 (by simp) ?_
 simp -implicitDefEqProofs [code_14,res_14,ann_14,encG]
 refine callk (sorted_c g s hs hc) (by simp [encG]) rfl ?_
 simp -implicitDefEqProofs [h1]
 exact ret1 (v:=.tup [i64 0,i64 (sortedF g s)]) (by simp [deferred,dslot]) (by simp [evalRes,evalRes1]) ⟨rfl,rfl⟩
theorem gnP_conv {g:Gr} {l:List Pt} {w:W}:GnP (convG g) l w ↔ GnP g l w:=by
 constructor
 .intro h
  induction h with
  | nil=>exact .nil
  | sym p r w hp _ ih=>exact .sym p r w hp ih
  | srt p r R u w hp hR e _ _ ih1 ih =>
   obtain ⟨Q,hQ,rfl⟩:=List.mem_map.1 hR
   exact .srt p r Q u w hp hQ e ih1 ih
 .intro h
  induction h with
  | nil=>exact .nil
  | sym p r w hp _ ih=>exact .sym p r w hp ih
  | srt p r R u w hp hR e _ _ ih1 ih=>exact .srt p r (convR R) u w hp (List.mem_map.2 ⟨R,hR,rfl⟩) e ih1 ih
theorem gn_conv {g:Gr} {s:ByteArray} {w:W}:Gn (convG g) s w ↔ Gn g s w:=by
 constructor
 .rintro ⟨R,hR,e,h⟩
  obtain ⟨Q,hQ,rfl⟩:=List.mem_map.1 hR
  exact ⟨Q,hQ,e,gnP_conv.1 h⟩
 .rintro ⟨R,hR,e,h⟩
  exact ⟨convR R,List.mem_map.2 ⟨R,hR,rfl⟩,e,gnP_conv.2 h⟩
theorem sorted_conv (g:Gr) (s:ByteArray):sortedF (convG g) s=sortedF g s:=by
 unfold sortedF
 rw [conv_check]
 rfl
def LstQ (g:Gr) (s:ByteArray) (n f:Int):Prop:=LstP g s n f /\ (f ≠ 0 -> n=0)
theorem lstQ_of {g:Gr} (G:GrOk g) {s:ByteArray} (hs:hasF g.sorts s=true) {h h':AHeap} {r:AEnd} (hL:LeastR g s h r h'):h'=h /\ ∃ n f,LstQ g s n f /\ r=.ret (.tup [i64 n,i64 f]):=by
 obtain ⟨rfl,⟨h1,_⟩ | ⟨_,S,hS,⟨hm,rfl⟩ | ⟨hm,M,hM,hok,rfl⟩⟩⟩:=hL
 .exact (h1 (G.srt hs)).elim
 .exact ⟨rfl,0,5,⟨.inl ⟨rfl,fun he=>hm ((full_iff hS s).2 he)⟩,fun _=>rfl⟩,rfl⟩
 .refine ⟨rfl,?_⟩
  unfold leastV
  split
  .rename_i e
   exact ⟨0,15,⟨.inr (.inl ⟨rfl,(full_iff hS s).1 hm,fun w hw=>by have:=hw.low hM; rw [e] at this; exact this⟩),fun _=>rfl⟩,rfl⟩
  .rename_i e
   have h2:=(lenAt_ok hok s).2
   refine ⟨lenAt g M s,0,⟨.inr (.inr ⟨rfl,?_,lens_att G.inn hM hs (by omega),fun w hw=>hw.low hM⟩),fun e=>(e rfl).elim⟩,rfl⟩
   unfold farI at h2 e
   omega
theorem LstQ.eq {g k:Gr} {s:ByteArray} (hgk:∀ w,Gn k s w ↔ Gn g s w) {n f m e:Int} (h:LstQ g s n f) (h':LstQ k s m e):n=m /\ f=e:=by
 obtain ⟨h,h0⟩:=h
 obtain ⟨h',h0'⟩:=h'
 rcases h with ⟨rfl,h1⟩ | ⟨rfl,⟨w,h1⟩,h2⟩ | ⟨rfl,hn,⟨w,h1,h3⟩,h2⟩
 .rcases h' with ⟨rfl,_⟩ | ⟨rfl,⟨v,g1⟩,_⟩ | ⟨rfl,_,⟨v,g1,_⟩,_⟩
  .exact ⟨by rw [h0 (by omega),h0' (by omega)],rfl⟩
  .exact (h1 ⟨v,(hgk v).1 g1⟩).elim
  .exact (h1 ⟨v,(hgk v).1 g1⟩).elim
 .rcases h' with ⟨rfl,g1⟩ | ⟨rfl,_,_⟩ | ⟨rfl,hm,⟨v,g1,g3⟩,_⟩
  .exact (g1 ⟨w,(hgk w).2 h1⟩).elim
  .exact ⟨by rw [h0 (by omega),h0' (by omega)],rfl⟩
  .have:=h2 v ((hgk v).1 g1); omega
 .rcases h' with ⟨rfl,g1⟩ | ⟨rfl,_,g2⟩ | ⟨rfl,hm,⟨v,g1,g3⟩,g2⟩
  .exact (g1 ⟨w,(hgk w).2 h1⟩).elim
  .have:=g2 w ((hgk w).2 h1); omega
  .have:=h2 v ((hgk v).1 g1)
   have:=g2 w ((hgk w).2 h1)
   exact ⟨by omega,rfl⟩
end Go.Apx
end
section
namespace Go.Apx
open Go.Proofs
set_option maxRecDepth 4000
theorem sameG_c (a:List ByteArray) (hl:a.length <= 2 ^ 31) {h:AHeap}:AEx PP Gl 13 [grown 1 (a.map sv),grown 1 (a.map sv)] h (.ret (bl true)) h:=by
 obtain ⟨k,c,e,hk⟩:=grown_sl (a.map sv)
 rw [e]
 simpa using same_c k k a a c c (fun h=>hk (by simpa using h)) (fun h=>hk (by simpa using h)) hl (h:=h)
set_option maxHeartbeats 8000000 in
theorem lengths_law_c (g:Gr) (s:ByteArray) (hsl:g.sorts.length <= 2 ^ 31) (hrl:g.rules.length <= 2 ^ 31) (hpl:∀ R ∈ g.rules,R.parts.length <= 2 ^ 31) (hsc:g.sc.strip=g.sc) {h:AHeap}:AEx PP Gl 3 [encG g,.sc (.string s)] h (.ret (bl true)) h:=by
 refine enter_3 (by simp) ?_
 simp -implicitDefEqProofs [code_3,res_3,ann_3,encG]
 refine callk (small_c g 30 8 hsl hrl) (by simp [encG]) rfl ?_
 by_cases h1:smallF g 30 8=true
 case neg =>
  simp -implicitDefEqProofs [h1]
  refine callk awake_c rfl rfl ?_
  simp -implicitDefEqProofs
  exact ret1 (v:=bl true) (by simp [deferred,dslot]) (by simp [evalRes,evalRes1]) ⟨rfl,rfl⟩
 by_cases h2:(300:Int) < s.size
 .simp -implicitDefEqProofs [h1,h2]
  refine callk awake_c rfl rfl ?_
  simp -implicitDefEqProofs
  exact ret1 (v:=bl true) (by simp [deferred,dslot]) (by simp [evalRes,evalRes1]) ⟨rfl,rfl⟩
 obtain ⟨b1,b2,b3⟩:=small_bounds h1 (by omega)
 have hc:AEx PP Gl 23 [encG g] h (.ret (i64 (checkF g))) h:=check_c g b3 hsl hrl
 have hcl:(convG g).rules.length=g.rules.length:=by simp [convG]
 simp -implicitDefEqProofs [h1,h2]
 refine callk (conv_c g hrl hpl hsc) (by simp [encG]) rfl ?_
 obtain ⟨cv,hcv⟩:∃ cv,cv=convS g:=⟨_,rfl⟩
 have hle:=conv_le g
 simp -implicitDefEqProofs [convS]
 by_cases h5:sortedF g s=0
 case neg =>
  refine callk (firstBad_c g s h5 hsl hc) (by simp [encG]) rfl ?_
  simp -implicitDefEqProofs
  refine callr ((rFirst_c (convG g) s hsl (by rw [hcl]; exact hrl)).args (.cons hle (.refl _))) (by simp [convS]) rfl ?_
  rintro r h' ⟨rfl,⟨g1,rfl⟩ | ⟨g1,_⟩⟩
  .rw [sorted_conv]
   simp -implicitDefEqProofs
   refine callk (by simpa [grown] using sameG_c [] (by simp)) rfl rfl ?_
   simp -implicitDefEqProofs
   refine callk (leastBad_c g s h5 hsl hc) (by simp [encG]) rfl ?_
   simp -implicitDefEqProofs
   refine callr ((rLeast_c (convG g) s hsl (by rw [hcl]; exact hrl)).args (.cons hle (.refl _))) (by simp [convS]) rfl ?_
   rintro r h' ⟨rfl,⟨g2,rfl⟩ | ⟨g2,_⟩⟩
   .rw [sorted_conv]
    simp -implicitDefEqProofs
    refine callk awake_c rfl rfl ?_
    simp -implicitDefEqProofs
    exact ret1 (v:=bl true) (by simp [deferred,dslot]) (by simp [evalRes,evalRes1]) ⟨rfl,rfl⟩
   .exact (g1 g2).elim
  .rw [sorted_conv] at g1; exact (h5 g1).elim
 obtain ⟨hck,hhs⟩:=sorted_mem h5
 have G:=gok hck
 have G':=gok (g:=convG g) (by rw [conv_check]; exact hck)
 refine callr (First_c g s (fun _=>G.inn) hsl (by have:=G.rules; omega) (fun R hR=>by have:=G.parts R hR; omega) hc) (by simp [encG]) rfl ?_
 rintro r h' ⟨rfl,⟨g1,_⟩ | ⟨_,N,F,b,hN,hF,hb,rfl⟩⟩
 .exact (g1 h5).elim
 have hbn:b.u.Nodup:=hb.und (by simp)
 have hbm:=first_iff hN hF hb
 have hbl:(srtS b.u).length <= 2 ^ 31:=by
  rw [srtS_length]
  have h1:=nodup_le hbn (b:=symsG g) (fun y hy=>by
   obtain ⟨w,hw⟩:=(hbm y).1 hy
   exact gn_syms hw y (by simp))
  have:=symsG_len (g:=g) (by have:=G.rules; omega) (fun R hR=>by have:=G.parts R hR; omega)
  omega
 simp -implicitDefEqProofs
 refine callr ((rFirst_c (convG g) s hsl (by rw [hcl]; exact hrl)).args (.cons hle (.refl _))) (by simp [convS]) rfl ?_
 rintro r h' ⟨rfl,⟨g1,_⟩ | ⟨_,m,m1,m2,rfl⟩⟩
 .rw [sorted_conv] at g1; exact (g1 h5).elim
 have heq:srtS b.u=m:=strict_eq m1 hbn (fun x=>by
  rw [hbm,m2]
  exact ⟨fun ⟨w,hw⟩=>⟨w,gn_conv.2 hw⟩,fun ⟨w,hw⟩=>⟨w,gn_conv.1 hw⟩⟩)
 rw [heq] at hbl ⊢
 simp -implicitDefEqProofs
 refine callk (sameG_c m hbl) rfl rfl ?_
 simp -implicitDefEqProofs
 refine callr (Least_c g s G.nd (fun _=>G.inn) hsl hrl hpl hc) (by simp [encG]) rfl ?_
 intro r h' hL
 obtain ⟨rfl,n,f,hq1,rfl⟩:=lstQ_of G hhs hL
 simp -implicitDefEqProofs
 refine callr ((rLeast_c (convG g) s hsl (by rw [hcl]; exact hrl)).args (.cons hle (.refl _))) (by simp [convS]) rfl ?_
 intro r h' hL
 obtain ⟨rfl,n2,f2,hq2,rfl⟩:=lstQ_of G' hhs hL
 obtain ⟨rfl,rfl⟩:=LstQ.eq (fun w=>gn_conv) hq1 hq2
 simp -implicitDefEqProofs
 refine callk awake_c rfl rfl ?_
 simp -implicitDefEqProofs
 exact ret1 (v:=bl true) (by simp [deferred,dslot]) (by simp [evalRes,evalRes1]) ⟨rfl,rfl⟩
end Go.Apx
end
