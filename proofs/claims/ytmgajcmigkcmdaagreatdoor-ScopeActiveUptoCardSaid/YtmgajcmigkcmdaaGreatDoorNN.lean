/- Walk: the law ScopeWraps. -/
import Derived.Test.YtmgajcmigkcmdaaGreatDoorQB
import Derived.Test.YtmgajcmigkcmdaaGreatDoorND
import Derived.Test.YtmgajcmigkcmdaaGreatDoorAmD
section
namespace Go.Apx
open Go.Proofs Go.Shelf
set_option linter.unusedVariables false
set_option linter.unusedSimpArgs false
set_option linter.unnecessarySimpa false
set_option maxRecDepth 4000
inductive CLe : List AV → List AV → Prop
 | nil : CLe [] []
 | cons {a b : AV} {l l' : List AV} (h : AVLe a b) (t : CLe l l') : CLe (a :: l) (b :: l')
theorem CLe.refl : ∀ l : List AV,CLe l l
 | []=>.nil
 | a :: l=>.cons (AVLe.refl a) (CLe.refl l)
theorem CLe.app {a b c d : List AV} (h : CLe a b) (k : CLe c d) : CLe (a ++ c) (b ++ d):=by
 induction h with
 | nil=>exact k
 | cons h _ ih=>exact .cons h ih
theorem CLe.len {a b : List AV} (h : CLe a b) : a.length = b.length:=by
 induction h with
 | nil=>rfl
 | cons _ _ ih=>simp [ih]
theorem CLe.get {a b : List AV} (h : CLe a b) : ∀ (i : Nat) (e : AV),b[i]? = some e → ∃ d,a[i]? = some d ∧ AVLe d e:=by
 induction h with
 | nil=>intro i e he; simp at he
 | cons h _ ih =>
  intro i e he
  match i with
  | 0=>simp at he; subst he; exact ⟨_,rfl,h⟩
  | i + 1=>simp at he; simpa using ih i e he
theorem lend_rfg {h : AHeap} {o g len k : Nat} {rc : RCap} {es ds z : List AV} (ho : h[o]? = some (.cells g (ds ++ z))) (hds : CLe ds (es.flatMap AV.cells)) (hlen : es.length = len) (hk : 0 < k) (hw : ∀ e ∈ es,e.cells.length = k) (hone : ∀ c ∈ es.flatMap AV.cells,c.one = true) (hb : ∀ c ∈ ds,c.inb 0 = true) :
  ∀ (G : Globs) (I : Imm) (m : Locs) (w : World) (x : Value),Go.Apx.Inv G I m h w → AVRel I m (.rf o g 0 len rc) x → AVRel (I0 w) [] (.sl k es .any) x:=fun G I m w x hi hx=>by
 cases hx with
 | rf _ _ _ _ _ a cap ho' hle hf hp =>
  have hlt : o < m.length:=ho'
  obtain ⟨b,lo,n,vs,hl,hn,hr,h1,hc,hall⟩:=hi.obj o _ m[o] ho (by simp [hlt])
  have hm : m[o]? = some (.cells g b lo n):=by rw [← hl]; simp [hlt]
  obtain ⟨N,hN⟩ : ∃ N,N = (es.flatMap AV.cells).length:=⟨_,rfl⟩
  have hdl : ds.length = N:=by rw [hds.len,hN]
  have hvl : N ≤ vs.length:=by rw [← hr.1,List.length_append]; omega
  have hrel : ∀ (i : Nat) (c : AV) (y : Value),(es.flatMap AV.cells)[i]? = some c → (vs.take N)[i]? = some y → AVRel (I0 w) [] c y:=fun i c y hci hyi=>by
   have hiN : i < N:=by rw [hN]; exact (List.getElem?_eq_some_iff.1 hci).1
   rw [List.getElem?_take,if_pos hiN] at hyi
   obtain ⟨d,hd,hle⟩:=hds.get i c hci
   exact hle _ _ _ (lend_same (hb d (List.mem_of_getElem? hd)) G I m w y hi (hr.2 i d y (by rw [List.getElem?_append_left (by omega)]; exact hd) hyi))
  subst hlen
  by_cases h0 : es.length = 0
  ·have he : es = []:=List.eq_nil_of_length_eq_zero h0
   subst he
   exact .sl k [] .any a cap [] (by intro e; cases e) hle hk (by simp) (by simp) rfl (by simp) (fun i y hy=>by simp at hy) (fun h=>absurd rfl h) trivial
  ·obtain ⟨_,ha⟩:=hp h0 g b lo n hm
   have ha:=ha rfl
   subst ha
   refine .sl k es .any _ cap (vs.take N) (by intro e; cases e) hle hk hw hone (by rw [List.length_take,← hN]; omega) hrel (fun i y hy=>?_) (fun _=>rfl) trivial
   show w.cell? _ = _
   have hiN : i < N:=by have:=(List.getElem?_eq_some_iff.1 hy).1; rw [List.length_take] at this; omega
   rw [List.getElem?_take,if_pos hiN] at hy
   have:=hc i y hy
   simpa using this
set_option maxHeartbeats 4000000 in
theorem cloneT_c (l : List St) (c : Cap) (hc : c ≠ .nil) (hl : l.length ≤ 2 ^ 31) {h : AHeap} :
  AEx PP Gl 20 [.sl 4 (l.map encSt) c] h (.ret (cpV 4 h (l.map encSt))) (cpH h (l.map encSt)):=by
 have hm : l.length ≤ 4294967296:=by omega
 refine enter_slices_Clone_api_Statement_api_Statement (by simp) ?_
 by_cases hl0 : l = []
 ·subst hl0
  simp -implicitDefEqProofs [code_slices_Clone_api_Statement_api_Statement,res_slices_Clone_api_Statement_api_Statement,ann_slices_Clone_api_Statement_api_Statement,hc]
  exact retE (v:=.sl 4 [] .full) (by simp [deferred,dslot]) rfl rfl rfl
 ·have h1 : ¬ (l.map encSt = []):=by simpa using hl0
  unfold cpV cpH
  rw [if_neg h1,if_neg h1]
  simp -implicitDefEqProofs [code_slices_Clone_api_Statement_api_Statement,res_slices_Clone_api_Statement_api_Statement,ann_slices_Clone_api_Statement_api_Statement,hc,hl0,maxLenA,hm]
  exact retE (v:=.rf h.length 0 0 l.length (.own 4)) (by simp [deferred,dslot]) rfl rfl rfl
theorem inb_encSt (s : St) (ht : s.tc ≠ .any → s.tc = .nil) (hp : s.pc ≠ .any → s.pc = .nil) : ∀ c ∈ (encSt s).cells,c.one = true ∧ c.inb 0 = true:=by
 intro c hc
 have e1 : ∀ l : List ByteArray,inbL 0 (l.map sv) = true:=fun l=>by
  induction l with
  | nil=>rfl
  | cons a l ih=>simp [inbL,AV.inb,ih]
 have e2 : ∀ c : Cap,(c ≠ .any → c = .nil) → c.inb 0 = true:=fun c hc=>by
  by_cases e : c = .any
  ·subst e; rfl
  ·rw [hc e]; rfl
 simp [encSt,AV.cells] at hc
 rcases hc with rfl | rfl | rfl | rfl
 ·exact ⟨rfl,rfl⟩
 ·exact ⟨rfl,rfl⟩
 ·exact ⟨rfl,by simp [AV.inb,e1,e2 _ ht]⟩
 ·exact ⟨rfl,by simp [AV.inb,e1,e2 _ hp]⟩
def CapOk (s : St) : Prop:=(s.tc ≠ .any → s.tc = .nil) ∧ (s.pc ≠ .any → s.pc = .nil)
theorem checkLend (l : List St) (o g : Nat) (rc : RCap) (ds z : List AV) {h : AHeap} (ho : h[o]? = some (.cells g (ds ++ z))) (hds : CLe ds (l.flatMap fun s=>(encSt s).cells)) (hb : ∀ c ∈ ds,c.inb 0 = true) (hl : l.length ≤ 100) (sm : ∀ s ∈ l,Sm s) (so : ∀ s ∈ l,s.tc = .nil → s.text = []) :
  AEx PP Gl 16 [.rf o g 0 l.length rc] h (.ret (.tup [i64 (checkR l).1,i64 (checkR l).2])) h:=by
 have hfl : (l.map encSt).flatMap AV.cells = l.flatMap (fun s=>(encSt s).cells):=by rw [List.flatMap_map]
 refine lend (checkR_c l .any hl sm so) (by simp [flatV]) (.cons (lend_rfg (es:=l.map encSt) (ds:=ds) (z:=z) ho (by rw [hfl]; exact hds) (by simp) (by decide) (fun e he=>?_) (fun c hc=>?_) hb) .nil)
 ·obtain ⟨s,_,rfl⟩:=List.mem_map.1 he; rfl
 ·rw [hfl] at hc
  obtain ⟨s,hs,hc⟩:=List.mem_flatMap.1 hc
  simp [encSt,AV.cells] at hc
  rcases hc with rfl | rfl | rfl | rfl <;> rfl
theorem inb_flatS {l : List St} (co : ∀ s ∈ l,CapOk s) : ∀ c ∈ l.flatMap (fun s=>(encSt s).cells),c.inb 0 = true:=by
 intro c hc
 obtain ⟨s,hs,hc⟩:=List.mem_flatMap.1 hc
 exact (inb_encSt s (co s hs).1 (co s hs).2 c hc).2
theorem clone_push (l : List St) (c : Cap) (hc : c ≠ .nil) (hl : l.length ≤ 2 ^ 20) (H : AHeap) (x : AV) (hx : x.cells.length = 4) :
  ∃ V1 H1 V2 H2,AEx PP Gl 20 [.sl 4 (l.map encSt) c] H (.ret V1) H1 ∧ V1.isPend = false ∧ V1.one = true ∧ V1.cells = [V1] ∧
   evalOp Gl [] H1 (.mappend 4 72 (.c V1) (.c (.sl 4 [x] .full))) = some (V2,H2) ∧ Low H.length H H2 ∧ Ow (fun _=>0) H2 H.length 0 4 (l.length + 1) (l.flatMap (fun s=>(encSt s).cells) ++ x.cells) V2:=by
 have hm1 : l.length + 1 ≤ maxLenA:=by unfold maxLenA; omega
 have hfl : (l.map encSt).flatMap AV.cells = l.flatMap (fun s=>(encSt s).cells):=by rw [List.flatMap_map]
 have hrl : (l.flatMap fun s=>(encSt s).cells).length = l.length * 4:=rowLen (k:=4) (fun _=>rfl) l
 have hcl:=cloneT_c l c hc (by omega) (h:=H)
 unfold cpV cpH at hcl
 by_cases hl0 : l = []
 ·subst hl0
  simp only [List.map_nil,if_true] at hcl
  refine ⟨_,_,.rf H.length 0 0 1 (.own 4),H ++ [.cells 0 x.cells],hcl,rfl,rfl,rfl,?_,Low.app _ _ _,by simp [hx],.inr ⟨H.length,0,[],by simp,by simp,Nat.le_refl _,rfl⟩⟩
  simp [evalOp,evalOpd,elems,maxLenA]
 ·have h1 : ¬ (l.map encSt = []):=by simpa using hl0
  rw [if_neg h1,if_neg h1,hfl,List.length_map] at hcl
  refine ⟨_,_,.rf H.length 1 0 (l.length + 1) (.own 4),(H ++ [AObj.cells 0 (l.flatMap fun s=>(encSt s).cells)]).set H.length (AObj.cells 1 ((l.flatMap fun s=>(encSt s).cells) ++ x.cells)),hcl,rfl,rfl,rfl,?_,(Low.app _ _ _).trans (Low.set (Nat.le_refl _)),by rw [List.length_append,hrl,hx,Nat.add_mul],.inr ⟨H.length,1,[],rfl,by simp,Nat.le_refl _,rfl⟩⟩
  have ht : List.take (l.length * 4) (l.flatMap fun s=>(encSt s).cells) = l.flatMap fun s=>(encSt s).cells:=List.take_of_length_le (by omega)
  simp [evalOp,evalOpd,elems,hm1,hrl,ht]
theorem isCon_c (s : St) {h : AHeap} : AEx PP Gl 19 [encSt s] h (.ret (.sc (.bool (decide (s.kind = 1))))) h:=by
 refine enter_law04_ScopeWraps_1 (by simp) ?_
 simp -implicitDefEqProofs [code_law04_ScopeWraps_1,res_law04_ScopeWraps_1,ann_law04_ScopeWraps_1,encSt]
 exact retE (v:=.sc (.bool (decide (s.kind = 1)))) (by simp [deferred,dslot]) rfl rfl rfl
set_option maxHeartbeats 8000000 in
theorem wraps_c (l : List St) (c : Cap) (u : Int) (hcn : c = .nil → l = []) (hu : 0 ≤ u ∧ u ≤ 255) (co : ∀ s ∈ l,CapOk s) (so : ∀ s ∈ l,s.tc = .nil → s.text = []) (hl : l.length ≤ 2 ^ 21) (hn : nF l ≤ 2 ^ 21) (hz : zF l ≤ 2 ^ 21) {h : AHeap} :
  AEx PP Gl 4 [.sl 4 (l.map encSt) c,.sc (.int .u8 u)] h (.ret (.sc (.bool true))) h:=by
 refine enter_law04_ScopeWraps (by simp) ?_
 simp -implicitDefEqProofs [code_law04_ScopeWraps,res_law04_ScopeWraps,ann_law04_ScopeWraps]
 refine callk (few_c l c so hl hn hz) rfl rfl ?_
 cases hf : fewF l with
 | false =>
  simp -implicitDefEqProofs
  refine callk awake_c rfl rfl ?_
  simp -implicitDefEqProofs
  exact retE (by simp [deferred,dslot]) rfl rfl rfl
 | true =>
 obtain ⟨h60,sm⟩:=few_sm hf
 by_cases hl0 : l = []
 ·subst hl0
  simp -implicitDefEqProofs
  refine callk awake_c rfl rfl ?_
  simp -implicitDefEqProofs
  exact retE (by simp [deferred,dslot]) rfl rfl rfl
 have hlen0 : l.length ≠ 0:=fun e=>hl0 (List.eq_nil_of_length_eq_zero e)
 have hlen0' : ¬ (l.length : Int) = 0:=by omega
 simp -implicitDefEqProofs [hl0,hlen0,hlen0']
 refine callk (checkR_c l c (by omega) sm so) rfl rfl ?_
 by_cases hc : (checkR l).2 = 0
 case neg =>
  simp -implicitDefEqProofs [hc]
  refine callk awake_c rfl rfl ?_
  simp -implicitDefEqProofs
  exact retE (by simp [deferred,dslot]) rfl rfl rfl
 obtain ⟨r,hr,hro⟩:=check_ok.1 hc
 obtain ⟨i,hiu,hil⟩ : ∃ i : Nat,(i : Int) = u.tmod l.length ∧ i < l.length:=by
  obtain ⟨n,rfl⟩ : ∃ n : Nat,u = n:=⟨u.toNat,by omega⟩
  exact ⟨n % l.length,by rw [Int.tmod_eq_emod_of_nonneg (by omega)]; rfl,Nat.mod_lt _ (by omega)⟩
 have wu : IntKind.i64.wrap u = u:=IntWalk.i64_in _ (by omega)
 simp -implicitDefEqProofs [hc,hlen0,hlen0',hl0,wu,← hiu]
 obtain ⟨q,hq,_⟩:=run_parts hr i
 have hile : i ≤ l.length:=by omega
 refine callr (atR_c l c i (by omega) hile sm so hq) rfl rfl ?_
 rintro r1 H ⟨VC,VV,VH,VA,rfl,rfl,fc,fv,fh,fa⟩
 by_cases hd : q.now.d = 0
 case neg =>
  have hd' : ¬ (q.now.d : Int) = 0:=by omega
  simp -implicitDefEqProofs [fc.one,fv.one,fh.one,fa.one,hd,hd']
  refine callk awake_c rfl rfl ?_
  simp -implicitDefEqProofs
  exact retE (by simp [deferred,dslot]) rfl rfl rfl
 have hd' : (q.now.d : Int) = 0:=by omega
 simp -implicitDefEqProofs [fc.one,fv.one,fh.one,fa.one,hd,hd',hile]
 have hco:=fun c'=>containsS_c (l.drop i) 19 (fun s=>decide (s.kind = 1)) c' (by rw [List.length_drop]; omega) (h:=H) (fun s _=>isCon_c s)
 have hdt : List.take (l.length - i) (List.drop i (l.map encSt)) = List.drop i (l.map encSt):=List.take_of_length_le (by simp)
 rw [List.map_drop] at hco
 refine callk (hco _) (by rw [hdt]) rfl ?_
 cases hany : (l.drop i).any fun s=>decide (s.kind = 1) with
 | true =>
  simp -implicitDefEqProofs
  refine callk awake_c rfl rfl ?_
  simp -implicitDefEqProofs
  exact retE (by simp [deferred,dslot]) rfl rfl rfl
 | false =>
 have hno : ∀ s ∈ l.drop i,s.kind ≠ 1:=fun s hs=>by simpa using List.any_eq_false.1 hany s hs
 have hw:=wraps hc h60 hile hq hd hno
 have hcl0 : c ≠ .nil:=fun e=>hl0 (hcn e)
 have hil' : ¬ i = l.length:=by omega
 obtain ⟨x,hxe⟩ : ∃ x : AV,x = .agg [i64 8,.sc (.string ⟨#[]⟩),.sl 0 [] .nil,.sl 0 [] .nil]:=⟨_,rfl⟩
 obtain ⟨y,hye⟩ : ∃ y : AV,y = .agg [i64 9,.sc (.string ⟨#[]⟩),.sl 0 [] .nil,.sl 0 [] .nil]:=⟨_,rfl⟩
 obtain ⟨V1,H1,V2,H2,a1,a2,a3,a4,a5,a6,a7⟩:=clone_push (l.take i) (if i = l.length then c else if c = Cap.full ∧ i = l.length then Cap.full else Cap.any) (by rw [if_neg hil']; split <;> simp) (by rw [List.length_take]; omega) H x (by rw [hxe]; rfl)
 rw [List.map_take] at a1
 have hti : (l.take i).length = i:=by rw [List.length_take]; omega
 have hdi : (l.drop i).length = l.length - i:=by rw [List.length_drop]
 have hHl : H.length ≤ H2.length:=a6.len
 obtain ⟨V3,H3,ρ3,b5,b7,b8,b9,b10⟩:=a7.push 72 ((l.drop i).map encSt) (by rw [List.flatMap_map,List.length_map]; exact rowLen (k:=4) (fun _=>rfl) (l.drop i)) hHl (by rw [List.length_map,hti,hdi]; unfold maxLenA; omega)
 obtain ⟨V4,H4,ρ4,c5,c7,c8,c9,c10⟩:=b7.push 72 [y] (by rw [hye]; rfl) (by omega) (by simp only [List.length_map,List.length_singleton,hti,hdi]; unfold maxLenA; omega)
 have e5:=b5 Gl (.sl 4 (List.take (l.length - i) (List.drop i (l.map encSt))) (if i = 0 then c else if c = Cap.full then Cap.full else Cap.any)) (by rw [hdt]; simp [elems,List.map_drop]) rfl
 have e6:=c5 Gl (.sl 4 [y] .full) (by simp [elems]) rfl
 have p2:=a7.pend
 have p3:=b7.pend
 have p4:=c7.pend
 have o2:=a7.one
 have o3:=b7.one
 have o4:=c7.one
 rw [hxe] at a5
 rw [hye] at e6
 simp at a5 e5 e6
 simp -implicitDefEqProofs [hile]
 refine callk a1 rfl rfl ?_
 simp -implicitDefEqProofs [a2,a3,a4,a5,p2,o2,e5,p3,o3,e6,p4,o4,hile]
 have lowA : Low H.length H H4:=(a6.trans (fun z w hz hw=>by rw [b10 z (lt_of hw) (.inl hz)]; exact hw)).trans (fun z w hz hw=>by rw [c10 z (lt_of hw) (.inl hz)]; exact hw)
 obtain ⟨m,hm⟩ : ∃ m,m = l.take i ++ [openS] ++ l.drop i ++ [closeS]:=⟨_,rfl⟩
 rw [← hm] at hw
 have hml : m.length = l.length + 2:=by rw [hm]; simp; omega
 have hmm : ∀ s ∈ m,s ∈ l ∨ s = openS ∨ s = closeS:=fun s hs=>by
  rw [hm] at hs
  simp only [List.mem_append,List.mem_singleton] at hs
  rcases hs with ((h1 | h1) | h1) | h1
  ·exact .inl (List.mem_of_mem_take h1)
  ·exact .inr (.inl h1)
  ·exact .inl (List.mem_of_mem_drop h1)
  ·exact .inr (.inr h1)
 have smm : ∀ s ∈ m,Sm s:=fun s hs=>by
  rcases hmm s hs with h1 | rfl | rfl
  ·exact sm s h1
  ·exact ⟨by decide,by decide,fun w hw=>by cases hw⟩
  ·exact ⟨by decide,by decide,fun w hw=>by cases hw⟩
 have som : ∀ s ∈ m,s.tc = .nil → s.text = []:=fun s hs=>by
  rcases hmm s hs with h1 | rfl | rfl
  ·exact so s h1
  ·exact fun _=>rfl
  ·exact fun _=>rfl
 rcases c7.2 with ⟨n0,_⟩ | ⟨a,g,z,hV,ho,_,_⟩
 ·simp at n0
 have hlen4 : (l.take i).length + 1 + ((l.drop i).map encSt).length + [y].length = m.length:=by rw [hml]; simp; omega
 rw [hlen4] at hV
 have hck:=checkLend m a g (.own 4) _ z ho (by
  rw [hm,List.flatMap_append,List.flatMap_append,List.flatMap_append,List.flatMap_map]
  refine (((CLe.refl _).app ?_).app (CLe.refl _)).app ?_
  ·rw [hxe]; exact .cons (AVLe.refl _) (.cons (AVLe.refl _) (.cons (AVLe.nil 0 1) (.cons (AVLe.nil 0 1) .nil)))
  ·rw [hye]; exact .cons (AVLe.refl _) (.cons (AVLe.refl _) (.cons (AVLe.nil 0 1) (.cons (AVLe.nil 0 1) .nil)))) (fun w hw=>by
  simp only [List.mem_append] at hw
  rcases hw with ((h1 | h1) | h1) | h1
  ·exact inb_flatS (fun s hs=>co s (List.mem_of_mem_take hs)) w h1
  ·rw [hxe] at h1; simp [AV.cells] at h1; rcases h1 with rfl | rfl | rfl | rfl <;> rfl
  ·rw [List.flatMap_map] at h1; exact inb_flatS (fun s hs=>co s (List.mem_of_mem_drop hs)) w h1
  ·rw [hye] at h1; simp [AV.cells] at h1; rcases h1 with rfl | rfl | rfl | rfl <;> rfl) (by omega) smm som
 rw [hw] at hck
 refine callk hck (by rw [hV]) rfl ?_
 simp -implicitDefEqProofs
 refine callk awake_c rfl rfl ?_
 simp -implicitDefEqProofs
 exact retP (v:=.sc (.bool true)) (v':=.sc (.bool true)) (by simp [deferred,dslot]) rfl rfl rfl lowA rfl rfl
end Go.Apx
end
section
namespace Go.Apx
open Go.Proofs
theorem sts_cap {l : List St} (h : ∀ s ∈ l,StOk s) : ∀ s ∈ l,CapOk s:=fun s hs =>
 ⟨fun e=>(h s hs).2.1.elim (fun a=>(e a).elim) And.left,fun e=>(h s hs).2.2.elim (fun a=>(e a).elim) And.left⟩
end Go.Apx
end
