/- Walk: the law ScopeChecks. -/
import Derived.Test.YtmgajcmigkcmdaaGreatDoorNU
import Derived.Test.YtmgajcmigkcmdaaGreatDoorNM
import Derived.Test.YtmgajcmigkcmdaaGreatDoorND
set_option linter.unusedVariables false
set_option linter.unusedSimpArgs false
set_option linter.unnecessarySimpa false
namespace Go.Apx
open Go.Proofs Go.Shelf
set_option maxRecDepth 4000
theorem few_sw {l:List St} (h:fewF l=true) (so:∀ s ∈ l,s.tc=.nil -> s.text=[]) (co:∀ s ∈ l,CapOk s):∀ s ∈ l,Sw s:=by
 obtain ⟨_,sm⟩:=few_sm h
 simp only [fewF,Bool.and_eq_true,decide_eq_true_eq] at h
 obtain ⟨h1,h2,h3⟩:=h
 intro s hs
 have a2:s.label.size+wsum (s.text++s.proof) <= zF l:=le_sum_mem (fun s:St=>s.label.size+wsum (s.text++s.proof)) hs
 exact ⟨sm s hs,so s hs,co s hs,by omega,fun w hw=>by
  have a3:w.size <= wsum (s.text++s.proof):=le_sum_mem ByteArray.size (List.mem_append_left _ hw)
  omega⟩
theorem atF_bd (l:List St) (i:Int) (hl:l.length <= 100) (sm:∀ s ∈ l,Sm s):(atF l i).1.cs.length <= 2 ^ 31 /\ (atF l i).1.vs.length <= 2 ^ 31 /\ (atF l i).1.hs.length <= 2 ^ 31 /\ (atF l i).1.ap.length <= 2 ^ 31 /\ ∀ x ∈ (atF l i).1.hs,x.text.length <= 2 ^ 31:=by
 unfold atF
 split
 .simp [acN]
 .cases hr:runR 0 r0S (l.take i.toNat) with
  | inl p=>simp [acN]
  | inr q =>
   obtain ⟨bd,_⟩:=run_bd (fun s hs=>sm s (List.mem_of_mem_take hs)) (by rw [List.length_take]; omega) hr
   have b1:=bd.cs; have b2:=bd.vs; have b3:=bd.hs; have b4:=bd.ap
   exact ⟨by simp only; omega,by simp only; omega,by simp only; omega,by simp only; omega,fun x hx=>by have:=(bd.ht x hx).2; omega⟩
set_option maxHeartbeats 8000000 in
theorem checks_c (l:List St) (c:Cap) (i:Int) (co:∀ s ∈ l,CapOk s) (so:∀ s ∈ l,s.tc=.nil -> s.text=[]) (hl:l.length <= 2 ^ 21) (hn:nF l <= 2 ^ 21) (hz:zF l <= 2 ^ 21) {h:AHeap} :
  AEx PP Gl 6 [.sl 4 (l.map encSt) c,i64 i] h (.ret (.sc (.bool true))) h:=by
 refine enter_6 (by simp) ?_
 simp -implicitDefEqProofs [code_6,res_6,ann_6]
 refine callk (few_c l c so hl hn hz) rfl rfl ?_
 cases hf:fewF l with
 | false =>
  by_cases h2:2000 < l.length
  .have h2':(2000:Int) < l.length:=by omega
   have h2'':¬ (l.length:Int) <= 2000:=by omega
   simp -implicitDefEqProofs [h2,h2',h2'']
   refine callk (checkFull_c l c h2) rfl rfl ?_
   simp -implicitDefEqProofs
   refine callk awake_c rfl rfl ?_
   simp -implicitDefEqProofs
   exact retE (by simp [deferred,dslot]) rfl rfl rfl
  .have h2':¬ (2000:Int) < l.length:=by omega
   have h2'':(l.length:Int) <= 2000:=by omega
   simp -implicitDefEqProofs [h2,h2',h2'']
   refine callk awake_c rfl rfl ?_
   simp -implicitDefEqProofs
   exact retE (by simp [deferred,dslot]) rfl rfl rfl
 | true =>
 obtain ⟨h60,sm⟩:=few_sm hf
 have sw:=few_sw hf so co
 have h2:¬ 2000 < l.length:=by omega
 have h2':¬ (2000:Int) < l.length:=by omega
 simp -implicitDefEqProofs [h2,h2']
 refine callk (checkR_c l c (by omega) sm so) rfl rfl ?_
 simp -implicitDefEqProofs
 refine callk (rcheck_c l c (by omega) sw) rfl rfl ?_
 simp -implicitDefEqProofs
 refine callr (atE_c l c i (by omega) sm so) rfl rfl ?_
 rintro r1 H ⟨VC,VV,VH,VA,rfl,rfl,fc,fv,fh,fa⟩
 simp -implicitDefEqProofs [fc.one,fv.one,fh.one,fa.one]
 refine callr (ratE_c l c i (by omega) sw) rfl rfl ?_
 rintro r2 H2 ⟨WC,WV,WH,WA,rfl,rfl,gc,gv,gh,ga⟩
 obtain ⟨b1,b2,b3,b4,b5⟩:=atF_bd l i (by omega) sm
 simp -implicitDefEqProofs [fc.one,fv.one,fh.one,fa.one,gc.one,gv.one,gh.one,ga.one]
 refine callk (equalT_c fc fv fh fa gc gv gh ga b1 b2 b3 b4 b5) rfl rfl ?_
 simp -implicitDefEqProofs
 refine callk awake_c rfl rfl ?_
 simp -implicitDefEqProofs
 exact retE (by simp [deferred,dslot]) rfl rfl rfl
end Go.Apx
