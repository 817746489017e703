/- Walk: the law ScopeActive. -/
import Derived.Test.YtmgajcmigkcmdaaGreatDoorNN
namespace Go.Apx
open Go.Proofs Go.Shelf
set_option linter.unusedVariables false
set_option linter.unusedSimpArgs false
set_option linter.unnecessarySimpa false
set_option maxRecDepth 4000
def metL (l : List Hy) : List (ByteArray × Bool):=l.foldl (fun m h=>if h.fl = true then sset m h.var true else m) []
theorem metL_snoc (l : List Hy) (h : Hy) : metL (l ++ [h]) = if h.fl = true then sset (metL l) h.var true else metL l:=by simp [metL]
theorem has_metL (l : List Hy) (v : ByteArray) : has (metL l) v = floatR l v:=by
 have : ∀ n,has (metL (l.take n)) v = floatR (l.take n) v:=fun n=>by
  induction n with
  | zero=>simp [metL,floatR,has,sfind]
  | succ n ih =>
   rw [List.take_add_one]
   cases hx : l[n]? with
   | none=>simpa using ih
   | some x =>
    simp only [Option.toList]
    rw [metL_snoc,floatR_app]
    cases e : x.fl with
    | true=>simp only [if_true,has_sset,ih]; simp [floatR,e,eq_comm,Bool.or_comm]
    | false=>simp only [Bool.false_eq_true,if_false,ih]; simp [floatR,e]
 have h2:=this l.length
 rwa [List.take_length] at h2
structure AcS where
 i : Nat
 H : AHeap
structure MeS where
 k : Nat
 M : List (ByteArray × Bool)
set_option maxHeartbeats 16000000 in
theorem active_c (l : List St) (c : Cap) (hcn : c = .nil → l = []) (co : ∀ s ∈ l,CapOk s) (so : ∀ s ∈ l,s.tc = .nil → s.text = []) (hl : l.length ≤ 2 ^ 21) (hn : nF l ≤ 2 ^ 21) (hz : zF l ≤ 2 ^ 21) {h : AHeap} :
  AEx PP Gl 5 [.sl 4 (l.map encSt) c] h (.ret (.sc (.bool true))) h:=by
 refine enter_law04_ScopeActive (by simp) ?_
 simp -implicitDefEqProofs [code_law04_ScopeActive,res_law04_ScopeActive,ann_law04_ScopeActive]
 refine callk (few_c l c so hl hn hz) rfl rfl ?_
 cases hf : fewF l with
 | false =>
  simp -implicitDefEqProofs
  refine callk awake_c rfl rfl ?_
  simp -implicitDefEqProofs
  exact retE (by simp [deferred,dslot]) rfl rfl rfl
 | true =>
 obtain ⟨h60,sm⟩:=few_sm hf
 simp -implicitDefEqProofs
 refine callk (checkR_c l c (by omega) sm so) rfl rfl ?_
 by_cases hc : (checkR l).2 = 0
 case neg =>
  simp -implicitDefEqProofs [hc]
  refine callk awake_c rfl rfl ?_
  simp -implicitDefEqProofs
  exact retE (by simp [deferred,dslot]) rfl rfl rfl
 obtain ⟨r,hr,hro⟩:=check_ok.1 hc
 simp -implicitDefEqProofs [hc]
 refine AWp.till (S:=AcS) ⟨0,h⟩ (fun s=>l.length + 1 - s.i) [0] (fun s=>[(5,i64 (s.i : Int))]) (fun s=>s.H)
  (fun s=>s.i ≤ l.length + 1 ∧ Low h.length h s.H) mixed ⟨by simp,.refl _ _⟩ (le_of (by simp [dslot])) rfl ?_
 rintro ⟨i,H⟩ ⟨z1,z2⟩
 simp only at z1 z2
 by_cases hi : i ≤ l.length
 case neg =>
  have hno : ¬ (i : Int) ≤ l.length:=by omega
  simp -implicitDefEqProofs [lp0_law04_ScopeActive,hno]
  refine callk awake_c rfl rfl ?_
  simp -implicitDefEqProofs
  exact retP (v:=.sc (.bool true)) (v':=.sc (.bool true)) (by simp [deferred,dslot]) rfl rfl rfl z2 rfl rfl
 have hlt : (i : Int) ≤ l.length:=by omega
 have wi : IntKind.i64.wrap ((i : Int) + 1) = (i : Int) + 1:=IntWalk.i64_in _ (by omega)
 obtain ⟨q,hq,_⟩:=run_parts hr i
 obtain ⟨bd,_⟩:=run_bd (fun s hs=>sm s (List.mem_of_mem_take hs)) (by rw [List.length_take]; omega) hq
 obtain ⟨iv,_⟩:=runR_inv hq
 have ia:=iv.now
 simp -implicitDefEqProofs [lp0_law04_ScopeActive,hlt]
 refine callr (atR_c l c i (by omega) hi sm so hq) rfl rfl ?_
 rintro r1 H' ⟨VC,VV,VH,VA,rfl,rfl,⟨jc,cc,rfl,fc,_⟩,⟨jv,cv,rfl,fv,_⟩,⟨jh,ch,rfl,fh,_⟩,⟨ja,ca,rfl,fa,_⟩⟩
 simp only [List.map_eq_nil_iff] at fc fv fh fa
 obtain ⟨A,hA⟩ : ∃ A,A = q.now:=⟨_,rfl⟩
 rw [← hA] at bd ia fc fv fh fa ⊢
 simp -implicitDefEqProofs
 refine AWp.till (S:=MeS) ⟨0,[]⟩ (fun s=>A.hs.length - s.k) [0,5,6,8,44,45] (fun s=>[(46,i64 (s.k : Int))]) (fun s=>H' ++ [.amap (smap bv s.M)])
  (fun s=>s.k ≤ A.hs.length ∧ s.M = metL (A.hs.take s.k)) mixed ⟨by simp,rfl⟩ (le_of (by simp [dslot])) rfl ?_
 rintro ⟨k,M⟩ ⟨y1,y2⟩
 simp only at y1 y2
 by_cases hk : k < A.hs.length
 case neg =>
  have hno : ¬ (k : Int) < A.hs.length:=by omega
  simp -implicitDefEqProofs [lp1_law04_ScopeActive,hno]
  have lowK : Low h.length h (H' ++ [AObj.amap (smap bv M)]):=z2.trans (Low.app _ _ _)
  obtain ⟨K,hK⟩ : ∃ K,K = H' ++ [AObj.amap (smap bv M)]:=⟨_,rfl⟩
  rw [← hK] at lowK ⊢
  refine AWp.cnt A.ap.length [0,5,6,104,105] (fun k=>[(106,i64 (k : Int))]) (fun _=>K) (fun _=>True) mixed trivial (le_of (by simp [dslot])) rfl ?_ ?_
  ·intro j hj _
   obtain ⟨⟨pa,pb⟩,hp⟩ : ∃ p,A.ap[j]? = some p:=⟨A.ap[j],by simp [hj]⟩
   obtain rfl:=fa.resolve_right (by intro e; rw [e] at hp; simp at hp)
   have hp2 : A.ap[j] = (pa,pb):=by simpa [hj] using hp
   have hjl : (j : Int) < A.ap.length:=by omega
   have wj : IntKind.i64.wrap ((j : Int) + 1) = (j : Int) + 1:=IntWalk.i64_in _ (by have:=bd.ap; omega)
   obtain ⟨p1,p2,p3⟩:=ia.ap _ (List.mem_of_getElem? hp)
   simp only at p1 p2 p3
   have d1:=contains_c A.vs pa jv cv fv (by have:=bd.vs; omega) (h:=K)
   rw [decide_eq_true p2] at d1
   have d2:=contains_c A.vs pb jv cv fv (by have:=bd.vs; omega) (h:=K)
   rw [decide_eq_true p3] at d2
   have hge : strV .geq pa pb = some (.bool false):=by
    have : strV .geq pa pb = some (.bool (!(ltB pa pb))):=rfl
    rw [this,p1]; rfl
   simp -implicitDefEqProofs [lp2_law04_ScopeActive,hjl,hj,hp2,encP,hge]
   refine callk d1 rfl rfl ?_
   simp -implicitDefEqProofs
   refine callk d2 rfl rfl ?_
   simp -implicitDefEqProofs [wj]
   exact le_of (by simp [dslot])
  ·intro _
   by_cases c1 : i + 1 < l.length
   case neg =>
    have c1' : ¬ (i : Int) + 1 < l.length:=by omega
    simp -implicitDefEqProofs [lp2_law04_ScopeActive,wi,c1,c1']
    exact ⟨⟨i + 1,K⟩,by simp; omega,⟨by simp; omega,lowK⟩,le_of (by simp [dslot]),rfl⟩
   have c1' : (i : Int) + 1 < l.length:=by omega
   have h01 : (0 : Int) ≤ (i : Int) + 1:=by omega
   have ci : i < l.length:=by omega
   obtain ⟨s,hs⟩ : ∃ s,s = l[i]:=⟨_,rfl⟩
   obtain ⟨t,ht⟩ : ∃ t,t = l[i + 1]:=⟨_,rfl⟩
   have hs2 : l[i]? = some s:=by rw [hs]; simp [ci]
   have ht2 : l[i + 1]? = some t:=by rw [ht]; simp [c1]
   have hmap1 : (l.map encSt)[i + 1]? = some (encSt t):=by rw [List.getElem?_map,ht2]; rfl
   by_cases c2 : s.kind = 2
   case neg =>
    simp -implicitDefEqProofs [lp2_law04_ScopeActive,wi,c1,c1',h01,ci,← hs,← ht,encSt,c2]
    exact ⟨⟨i + 1,K⟩,by simp; omega,⟨by simp; omega,lowK⟩,le_of (by simp [dslot]),rfl⟩
   by_cases c3 : t.kind = 2
   case neg =>
    simp -implicitDefEqProofs [lp2_law04_ScopeActive,wi,c1,c1',h01,ci,← hs,← ht,encSt,c2,c3]
    exact ⟨⟨i + 1,K⟩,by simp; omega,⟨by simp; omega,lowK⟩,le_of (by simp [dslot]),rfl⟩
   by_cases c4 : s.text.length = 1
   case neg =>
    have c4' : ¬ (s.text.length : Int) = 1:=by omega
    simp -implicitDefEqProofs [lp2_law04_ScopeActive,wi,c1,c1',h01,ci,← hs,← ht,encSt,c2,c3,c4,c4']
    exact ⟨⟨i + 1,K⟩,by simp; omega,⟨by simp; omega,lowK⟩,le_of (by simp [dslot]),rfl⟩
   have c4' : (s.text.length : Int) = 1:=by omega
   by_cases c5 : t.text.length = 1
   case neg =>
    have c5' : ¬ (t.text.length : Int) = 1:=by omega
    simp -implicitDefEqProofs [lp2_law04_ScopeActive,wi,c1,c1',h01,ci,← hs,← ht,encSt,c2,c3,c4,c4',c5,c5']
    exact ⟨⟨i + 1,K⟩,by simp; omega,⟨by simp; omega,lowK⟩,le_of (by simp [dslot]),rfl⟩
   have c5' : (t.text.length : Int) = 1:=by omega
   have hcc : c ≠ .nil:=fun e=>by rw [hcn e] at hs2; simp at hs2
   have hcl:=cloneT_c l c hcc (by omega) (h:=K)
   have hne : ¬ l = []:=fun e=>by rw [e] at hs2; simp at hs2
   have hfl : (l.map encSt).flatMap AV.cells = l.flatMap (fun s=>(encSt s).cells):=by rw [List.flatMap_map]
   simp only [cpV,cpH,List.map_eq_nil_iff,if_neg hne,List.length_map,hfl] at hcl
   obtain ⟨v,hv⟩ : ∃ v,s.text = [v]:=by
    match hx : s.text,c4 with
    | [v],_=>exact ⟨v,rfl⟩
   obtain ⟨w,hw⟩ : ∃ w,t.text = [w]:=by
    match hx : t.text,c5 with
    | [w],_=>exact ⟨w,rfl⟩
   have hsw:=swaps hc hs2 ht2 c2 c3 hv hw
   obtain ⟨m,hm⟩ : ∃ m,m = (l.set i t).set (i + 1) s:=⟨_,rfl⟩
   rw [← hm] at hsw
   obtain ⟨F,hF⟩ : ∃ F,F = l.flatMap (fun s=>(encSt s).cells):=⟨_,rfl⟩
   obtain ⟨CT,hCT⟩ : ∃ CT,CT = (encSt t).cells:=⟨_,rfl⟩
   obtain ⟨CS,hCS⟩ : ∃ CS,CS = (encSt s).cells:=⟨_,rfl⟩
   have row4 : ∀ z : St,(encSt z).cells.length = 4:=fun _=>rfl
   have hFl : F.length = l.length * 4:=by rw [hF]; exact rowLen row4 l
   have t4 : CT.length = 4:=by rw [hCT]; rfl
   have s4 : CS.length = 4:=by rw [hCS]; rfl
   have tO : ∀ x ∈ CT,x.one = true:=by rw [hCT]; intro x hx; simp [encSt,AV.cells] at hx; rcases hx with rfl | rfl | rfl | rfl <;> rfl
   have sO : ∀ x ∈ CS,x.one = true:=by rw [hCS]; intro x hx; simp [encSt,AV.cells] at hx; rcases hx with rfl | rfl | rfl | rfl <;> rfl
   have b1 : (i + 1) * 4 + 4 ≤ F.length:=by omega
   have b0 : i * 4 + 4 ≤ F.length:=by omega
   have g1 : List.take 4 (List.drop ((i + 1) * 4) F) = CT:=by rw [hF,hCT]; have:=rowCut row4 l [] (i + 1) t ht2; rwa [List.append_nil] at this
   have g0 : List.take 4 (List.drop (i * 4) F) = CS:=by rw [hF,hCS]; have:=rowCut row4 l [] i s hs2; rwa [List.append_nil] at this
   obtain ⟨F1,hF1⟩ : ∃ F1,F1 = (l.set i t).flatMap (fun s=>(encSt s).cells):=⟨_,rfl⟩
   have k1 : List.take (i * 4) F ++ (CT ++ List.drop (i * 4 + 4) F) = F1:=by rw [hF,hF1,hCT]; have:=rowSet row4 l [] i t ci; simpa only [List.append_nil] using this
   have hF1l : F1.length = l.length * 4:=by rw [hF1,rowLen row4,List.length_set]
   have b1' : (i + 1) * 4 + 4 ≤ F1.length:=by omega
   obtain ⟨F2,hF2⟩ : ∃ F2,F2 = m.flatMap (fun s=>(encSt s).cells):=⟨_,rfl⟩
   have k2 : List.take ((i + 1) * 4) F1 ++ (CS ++ List.drop ((i + 1) * 4 + 4) F1) = F2:=by rw [hF2,hm,hF1,hCS]; have:=rowSet row4 (l.set i t) [] (i + 1) s (by simpa using c1); simpa only [List.append_nil] using this
   rw [← hF] at hcl
   simp -implicitDefEqProofs [lp2_law04_ScopeActive,wi,c1,c1',h01,ci,← hs,← ht,encSt,c2,c3,c4,c4',c5,c5']
   refine callk hcl rfl rfl ?_
   simp -implicitDefEqProofs [wi,c1,c1',h01,ci,b1,b0,g1,g0,t4,s4,k1,b1',k2]
   rw [if_pos tO]
   simp -implicitDefEqProofs [wi,c1,c1',h01,ci,b1,b0,g1,g0,t4,s4,k1,b1',k2]
   rw [if_pos sO]
   simp -implicitDefEqProofs [wi,c1,c1',h01,ci,b1,b0,g1,g0,t4,s4,k1,b1',k2]
   have hmm : ∀ z ∈ m,z ∈ l:=fun z hz=>by
    rw [hm] at hz
    rcases List.mem_or_eq_of_mem_set hz with hz | rfl
    ·rcases List.mem_or_eq_of_mem_set hz with hz | rfl
     ·exact hz
     ·exact List.mem_of_getElem? ht2
    ·exact List.mem_of_getElem? hs2
   have hml : m.length = l.length:=by rw [hm]; simp
   have hck:=checkLend m K.length 0 (.own 4) F2 [] (h:=K ++ [.cells 0 F2]) (by simp) (by rw [hF2]; exact CLe.refl _) (by rw [hF2]; exact inb_flatS fun z hz=>co z (hmm z hz)) (by omega) (fun z hz=>sm z (hmm z hz)) (fun z hz=>so z (hmm z hz))
   rw [hsw,hml] at hck
   refine callk hck rfl rfl ?_
   simp -implicitDefEqProofs [wi]
   exact ⟨⟨i + 1,K ++ [.cells 0 F2]⟩,by simp; omega,⟨by simp; omega,lowK.trans (Low.app _ _ _)⟩,le_of (by simp [dslot]),rfl⟩
 have hkl : (k : Int) < A.hs.length:=by omega
 have wk : IntKind.i64.wrap ((k : Int) + 1) = (k : Int) + 1:=IntWalk.i64_in _ (by have:=bd.hs; omega)
 obtain ⟨x,hx⟩ : ∃ x,A.hs[k]? = some x:=⟨A.hs[k],by simp [hk]⟩
 obtain rfl:=fh.resolve_right (by intro e; rw [e] at hx; simp at hx)
 have hx2 : A.hs[k] = x:=by simpa [hk] using hx
 have hxm:=List.mem_of_getElem? hx
 have hlab:=ia.hl x hxm
 have nvs : x.label ∉ A.vs:=fun hm=>iv.dl _ (ia.vd _ hm) hlab
 have ncs : x.label ∉ A.cs:=fun hm=>iv.dl _ (ia.cd _ hm) hlab
 have hsnoc : metL (A.hs.take (k + 1)) = if x.fl = true then sset (metL (A.hs.take k)) x.var true else metL (A.hs.take k):=by rw [List.take_add_one,hx]; exact metL_snoc _ _
 simp -implicitDefEqProofs [lp1_law04_ScopeActive,hkl,hk,hx2]
 have b1:=bd.cs
 have b2:=bd.vs
 have d1:=contains_c A.vs x.label jv cv fv (by omega) (h:=H' ++ [.amap (smap bv M)])
 rw [decide_eq_false nvs] at d1
 have d2:=contains_c A.cs x.label jc cc fc (by omega) (h:=H' ++ [.amap (smap bv M)])
 rw [decide_eq_false ncs] at d2
 refine callk d1 rfl rfl ?_
 simp -implicitDefEqProofs
 refine callk d2 rfl rfl ?_
 cases hfl : x.fl with
 | false =>
  rw [hfl] at hsnoc
  simp -implicitDefEqProofs [wk,hfl]
  exact ⟨⟨k + 1,M⟩,by simp; omega,⟨by simp; omega,by rw [hsnoc,y2]; rfl⟩,le_of (by simp [dslot]),rfl⟩
 | true =>
  rw [hfl] at hsnoc
  obtain ⟨tc,tv,htx,htc,htv⟩:=ia.ft x hxm hfl
  have hvar : x.var = tv:=by unfold Hy.var; rw [htx]; rfl
  have hnew : has M tv = false:=by
   rw [y2,has_metL]
   cases e : floatR (A.hs.take k) tv with
   | false=>rfl
   | true =>
    have hn:=ia.fn
    rw [← List.take_append_drop k A.hs,List.filter_append,List.map_append,List.nodup_append] at hn
    have hm2 : tv ∈ ((A.hs.drop k).filter Hy.fl).map Hy.var:=List.mem_map.2 ⟨x,List.mem_filter.2 ⟨by rw [List.drop_eq_getElem_cons hk,hx2]; simp,hfl⟩,hvar⟩
    exact (hn.2.2 tv (floatR_iff.1 e) tv hm2 rfl).elim
  have d3:=contains_c A.vs tv jv cv fv (by omega) (h:=H' ++ [.amap (smap bv M)])
  rw [decide_eq_true htv] at d3
  have d4:=contains_c A.cs tc jc cc fc (by omega) (h:=H' ++ [.amap (smap bv M)])
  rw [decide_eq_true htc] at d4
  have hget : ((sfind M tv).getD false) = false:=hnew
  simp -implicitDefEqProofs [wk,hfl,htx,hget]
  refine callk d3 rfl rfl ?_
  simp -implicitDefEqProofs [htx]
  refine callk d4 rfl rfl ?_
  simp -implicitDefEqProofs [htx,wk]
  exact ⟨⟨k + 1,sset M tv true⟩,by simp; omega,⟨by simp; omega,by rw [hsnoc,if_pos rfl,hvar,y2]⟩,le_of (by simp [dslot]),rfl⟩
end Go.Apx
