/- Grammars of the reference: values that may stand for others. -/
import Derived.Test.YtdiemjjfkoccfaaGreatDoorEB
import Derived.Test.YtdiemjjfkoccfaaGreatDoorYC
import Derived.Test.YtdiemjjfkoccfaaGreatDoorXC
set_option linter.unusedVariables false
set_option linter.unusedSimpArgs false
set_option linter.unnecessarySimpa false
section
namespace Go.Apx
open Go.Proofs
set_option maxRecDepth 4000
theorem AVLe.agg {cs ds:List AV} (hl:cs.length=ds.length) (h1:∀ d ∈ ds,d.one=true) (h:∀ (i:Nat) (a b:AV),cs[i]?=some a -> ds[i]?=some b -> AVLe a b):AVLe (.agg cs) (.agg ds):=fun I m x hx=>by
 cases hx with
 | agg _ vs hl' h1' hr =>
  refine .agg ds vs (by omega) h1 fun i b x hb hx=>?_
  have hi:i < cs.length:=by rw [hl]; exact (List.getElem?_eq_some_iff.1 hb).1
  exact h i _ b (List.getElem?_eq_getElem hi) hb I m x (hr i _ x (List.getElem?_eq_getElem hi) hx)
def PW (cs ds:List AV):Prop:=cs.length=ds.length /\ ∀ (i:Nat) (a b:AV),cs[i]?=some a -> ds[i]?=some b -> AVLe a b
theorem PW.append {a b c d:List AV} (h:PW a b) (h':PW c d):PW (a++c) (b++d):=by
 refine ⟨by simp [h.1,h'.1],fun i x y hx hy=>?_⟩
 rcases Nat.lt_or_ge i a.length with h1 | h1
 .rw [List.getElem?_append_left h1] at hx
  rw [List.getElem?_append_left (by rw [<- h.1]; exact h1)] at hy
  exact h.2 i x y hx hy
 .rw [List.getElem?_append_right h1] at hx
  rw [List.getElem?_append_right (by rw [<- h.1]; exact h1),<- h.1] at hy
  exact h'.2 _ x y hx hy
theorem PW.flat {α:Type} {f g:α -> AV}:∀ (l:List α),(∀ a ∈ l,PW (f a).cells (g a).cells) -> PW ((l.map f).flatMap AV.cells) ((l.map g).flatMap AV.cells)
 | [],_=>⟨rfl,fun i a b ha=>by simp at ha⟩
 | a :: l,h=>by
  simp only [List.map_cons,List.flatMap_cons]
  exact (h a (by simp)).append (PW.flat l fun b hb=>h b (by simp [hb]))
theorem AVLe.slMap {α:Type} {k:Nat} (l:List α) (f g:α -> AV) (c:Cap) (h:∀ a ∈ l,PW (f a).cells (g a).cells) (h1:∀ a ∈ l,∀ d ∈ (g a).cells,d.one=true):AVLe (.sl k (l.map f) c) (.sl k (l.map g) c):=fun I m x hx=>by
 have hpw:=PW.flat l h
 cases l with
 | nil=>exact hx
 | cons a0 l0 =>
 generalize hl0:a0 :: l0=l at *
 have hne:l.map f ≠ []:=by rw [<- hl0]; simp
 generalize hm:l.map f=lf at *
 cases hx with
 | slnil=>exact (hne rfl).elim
 | sl _ _ _ a cap vs hc hle hk hw h1' hl hr hI hs hcap =>
  subst hm
  have e:(l.map f).length=(l.map g).length:=by simp
  rw [e]
  refine .sl k (l.map g) c a cap vs hc (by rw [<- e]; exact hle) hk (fun v hv=>?_) (fun d hd=>?_) (by rw [<- hpw.1]; exact hl) (fun i u x hu hx=>?_) hI (fun hne=>hs fun e2=>hne ?_) (by rw [<- e]; exact hcap)
  .obtain ⟨b,hb,rfl⟩:=List.mem_map.1 hv
   rw [<- (h b hb).1]
   exact hw _ (List.mem_map.2 ⟨b,hb,rfl⟩)
  .obtain ⟨v,hv,hd2⟩:=List.mem_flatMap.1 hd
   obtain ⟨b,hb,rfl⟩:=List.mem_map.1 hv
   exact h1 b hb d hd2
  .have hi:i < ((l.map f).flatMap AV.cells).length:=by rw [hpw.1]; exact (List.getElem?_eq_some_iff.1 hu).1
   exact hpw.2 i _ u (List.getElem?_eq_getElem hi) hu I m x (hr i _ x (List.getElem?_eq_getElem hi) hx)
  .have:l=[]:=by simpa using e2
   subst this; rfl
def convR (r:Rl):Rl:={ r with cap:=if r.parts=[] then .nil else .any }
def bK (g:Gr):Gr:={ sorts:=g.sorts,rules:=g.rules.map convR,sc:=g.sc,rc:=if g.rules=[] then .nil else .any }
theorem conv_le (g:Gr):AVLe (convS g) (aM (bK g)):=by
 unfold convS aM
 refine AVLe.agg rfl (by simp) fun i a b ha hb=>?_
 match i,ha,hb with
 | 0,ha,hb =>
  simp at ha hb; subst ha hb
  exact .refl _
 | 1,ha,hb =>
  simp only [List.getElem?_cons_succ,List.getElem?_cons_zero,Option.some.injEq] at ha hb
  subst ha hb
  simp only [bK,List.map_map]
  by_cases hr:g.rules=[]
  .simp only [hr,if_true,List.map_nil]
   exact .nil 0 4
  .simp only [if_neg hr]
   refine AVLe.slMap g.rules convV (ab ∘ convR) .any (fun r _=>?_) (fun r _ d hd=>?_)
   .refine ⟨rfl,fun i a b ha hb=>?_⟩
    match i,ha,hb with
    | 0,ha,hb=>simp [convV,ab,convR,AV.cells] at ha hb; subst ha hb; exact .refl _
    | 1,ha,hb=>simp [convV,ab,convR,AV.cells] at ha hb; subst ha hb; exact .refl _
    | 2,ha,hb =>
     simp [convV,ab,convR,AV.cells] at ha hb; subst ha hb
     by_cases hp:r.parts=[]
     .simp only [hp,if_true,List.map_nil]; exact .nil _ 3
     .simp only [if_neg hp,apdK,List.map_eq_nil_iff]
      exact .refl _
    | 3,ha,hb=>simp [convV,ab,convR,AV.cells] at ha hb; subst ha hb; exact .refl _
    | n+4,ha,hb=>simp [convV,AV.cells] at ha
   .simp [ab,AV.cells] at hd
    rcases hd with rfl | rfl | rfl | rfl <;> rfl
 | n+2,ha,hb=>simp at ha
theorem placeF_map {α β:Type} (p:β -> Bool) (f:α -> β) (l:List α):placeF p (l.map f)=placeF (fun a=>p (f a)) l:=by
 unfold placeF
 rw [List.findIdx?_map]
 rfl
theorem conv_find (g:Gr) (s:ByteArray):findF (bK g) s=findF g s:=by
 unfold findF
 rw [show (bK g).rules=g.rules.map convR from rfl,placeF_map]
 rfl
theorem allIdx_map {α β:Type} (p:β -> Nat -> Bool) (f:α -> β) (l:List α):allIdx p (l.map f)=allIdx (fun a i=>p (f a) i) l:=by
 unfold allIdx
 rw [List.length_map]
 congr 1
 funext i
 rw [List.getElem?_map]
 cases l[i]? <;> rfl
theorem conv_check (g:Gr):aO (bK g)=aO g:=by
 have h1:(bK g).rules.length=g.rules.length:=by simp [bK]
 have h2:(bK g).rules.any longF=g.rules.any longF:=by
  show (g.rules.map convR).any longF=_
  rw [List.any_map]; rfl
 have h3:allIdx (ruleOkF (bK g)) (bK g).rules=allIdx (ruleOkF g) g.rules:=by
  show allIdx _ (g.rules.map convR)=_
  rw [allIdx_map]
  congr 1
  funext r i
  unfold ruleOkF
  rw [conv_find]
  rfl
 unfold aO
 rw [h1,h2,h3]
 rfl
end Go.Apx
end
section
namespace Go.Apx
open Go.Proofs
set_option maxRecDepth 4000
theorem gnP_conv {g:Gr} {l:List Pt} {w:W}:GnP (bK g) l w ↔ GnP g l w:=by
 constructor
 .intro h
  induction h with
  | nil=>exact .nil
  | sym p r w hp _ ih=>exact .sym p r w hp ih
  | srt p r R u w hp hR e _ _ ih1 ih =>
   obtain ⟨Q,hQ,rfl⟩:=List.mem_map.1 hR
   exact .srt p r Q u w hp hQ e ih1 ih
 .intro h
  induction h with
  | nil=>exact .nil
  | sym p r w hp _ ih=>exact .sym p r w hp ih
  | srt p r R u w hp hR e _ _ ih1 ih=>exact .srt p r (convR R) u w hp (List.mem_map.2 ⟨R,hR,rfl⟩) e ih1 ih
theorem gn_conv {g:Gr} {s:ByteArray} {w:W}:Gn (bK g) s w ↔ Gn g s w:=by
 constructor
 .rintro ⟨R,hR,e,h⟩
  obtain ⟨Q,hQ,rfl⟩:=List.mem_map.1 hR
  exact ⟨Q,hQ,e,gnP_conv.1 h⟩
 .rintro ⟨R,hR,e,h⟩
  exact ⟨convR R,List.mem_map.2 ⟨R,hR,rfl⟩,e,gnP_conv.2 h⟩
theorem sorted_conv (g:Gr) (s:ByteArray):aU (bK g) s=aU g s:=by
 unfold aU
 rw [conv_check]
 rfl
end Go.Apx
end
section
namespace Go.Apx
open Go.Proofs
set_option maxRecDepth 4000
theorem sameG_c (a:List ByteArray) (hl:a.length <= 2 ^ 31) {h:AHeap}:AEx PP Gl 13 [aW 1 (a.map sv),aW 1 (a.map sv)] h (.ret (bl true)) h:=by
 obtain ⟨k,c,e,hk⟩:=grown_sl (a.map sv)
 rw [e]
 simpa using same_c k k a a c c (fun h=>hk (by simpa using h)) (fun h=>hk (by simpa using h)) hl (h:=h)
end Go.Apx
end
