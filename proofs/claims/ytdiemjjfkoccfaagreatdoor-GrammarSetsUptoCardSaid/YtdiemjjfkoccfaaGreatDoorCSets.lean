/- The card of GrammarSets: whatever the input of bulk at most 1048576, the law returns true and the input reads as it did. -/
import Derived.Test.YtdiemjjfkoccfaaGreatDoorGR
import Derived.Test.YtdiemjjfkoccfaaGreatDoorUE
set_option linter.unusedVariables false
set_option linter.unusedSimpArgs false
set_option linter.unnecessarySimpa false
namespace Go.Proofs.YtdiemjjfkoccfaaGreatDoor
open Go.Apx Go.ChangeShapes Go.WideShapes Go.ChangeAt Go.RowKit
set_option maxRecDepth 100000
namespace SetC
theorem own:ownKnob Tryz.prog.godebug=none:=by kernel_rfl
theorem laidOut:laidOutB Tryz.prog=true:=by kernel_rfl
theorem params_ok:∀ t ∈ Tryz.f7.params.toList,Tryz.prog.readableRec t=true /\ t < Tryz.prog.types.size:=by
 rw [Tryz.params7]
 intro t ht
 simp only [List.mem_cons,List.not_mem_nil,or_false] at ht
 rcases ht with rfl | rfl | rfl <;> exact ⟨by kernel_rfl,of_decide_eq_true (by kernel_rfl)⟩
theorem contract (H:Type) (enc:TypeId × Value -> H) (W:World) (base:Nat) (args:Array Value) (ds gs:List (DataW H)) (before:List MemPlace)
  (hval:∀ (j:Nat) t v,Tryz.f7.params[j]?=some t -> args[j]?=some v -> Value.okWide Tryz.prog W .any base t v)
  (hW:DataW.Whole enc Tryz.prog Tryz.f7.params.toList Rows.grammarSetsSpec.vars false W args.toList ds gs before) (hsm:Rows.uptoSmall H (ds++gs)=true) (hL:laidMetH Tryz.prog Rows.grammarSetsUptoRow.laid W) :
  Calls Tryz.prog 7 args W fun e W'=>∃ v,e=.returned v /\ Rows.grammarSetsSpec.post enc Tryz.prog Tryz.f7 false true false false W args v W':=by
 have hb:=bulk_small hsm
 have hW':=hW
 obtain ⟨p,q,hA0,hV,rfl,hfz,hnd⟩:=hW
 have hA:DataW.TrodAll enc Tryz.prog W 0 (fun _=>true) true Tryz.f7.params.toList args.toList ds p:=hA0
 rw [Tryz.params7] at hA hval
 obtain ⟨v0,vs0,d0,ds0,p0,q0,hargs,rfl,rfl,h0,r0⟩:=trodAll_cons hA
 obtain ⟨v1,vs1,d1,ds1,p1,q1,rfl,rfl,rfl,h1,r1⟩:=trodAll_cons r0
 obtain ⟨v2,vs2,d2,ds2,p2,q2,rfl,rfl,rfl,h2,r2⟩:=trodAll_cons r1
 obtain ⟨rfl,rfl,rfl⟩:=trodAll_nil r2
 obtain rfl:args=#[v0,v1,v2]:=by cases args; simp_all
 obtain ⟨rfl,rfl⟩:=trodVars_none hV
 simp only [List.append_nil,bulkL] at hb
 obtain ⟨g,hg,s0,b0⟩:=arg_agg (rd_grammar W) h0 (fun a c hc=>by simp [aM,AV.cells] at hc; rcases hc with rfl | rfl <;> rfl) (fun a=>⟨_,rfl⟩) (agg_of_okWide Tryz.underlying25 (hval 0 _ v0 rfl rfl))
 obtain ⟨s,hs,s1,b1⟩:=arg_one (fun fuel=>Rd.string Tryz.underlying9) h1 (fun a c hc=>by simp [AV.cells] at hc; subst hc; rfl) (fun a cs e=>by cases e) (string_of_okWide Tryz.underlying9 (hval 1 _ v1 rfl rfl))
 obtain ⟨lb,hlb,s2,b2⟩:=arg_one (fun fuel=>Rd.string Tryz.underlying9) h2 (fun a c hc=>by simp [AV.cells] at hc; subst hc; rfl) (fun a cs e=>by cases e) (string_of_okWide Tryz.underlying9 (hval 2 _ v2 rfl rfl))
 have hrl:=sum_ge g.rules (fun r=>r.parts.length+1) (fun r=>by omega)
 exact law_calls (avs:=[aM g,.sc (.string s),.sc (.string lb)]) laidOut params_ok rfl (show Tryz.f7.resultTypes=#[4] by kernel_rfl) Tryz.underlying4 rfl hW' glob_none (.cons s0 (.cons s1 (.cons s2 .nil)))
  (sets_law_c g s lb (by omega) (by omega) (fun r hr=>by have:=mem_sum (l:=g.rules) hr; omega) hg (cap_ok s0))
noncomputable def wit:Array Value:=#[.agg #[.slice none 0 0,.slice none 0 0],.string ⟨#[]⟩,.string ⟨#[]⟩]
theorem reads (os:Os) {H:Type} (enc:TypeId × Value -> H):∃ places,DataW.whole enc Tryz.prog ((laidWorld os).forCall (fun _ _=>0) ⟨#[],wit,[]⟩).memory Tryz.f7.params.toList Rows.grammarSetsSpec.vars false wit.toList 8=some ([.agg [.nil,.nil],.lit (.string []),.lit (.string [])],[],places) :=
 ⟨[],by kernel_rfl⟩
theorem lifted (os:Os) (started:os.Started) (H:Type) (enc:TypeId × Value -> H) (F:Stop.Interp) :
  ReturnsInHanded {} Tryz.checked os 7 .any ((Rows.OpenSpec.upto Rows.grammarSetsSpec).preRow enc Tryz.prog Tryz.f7 Rows.grammarSetsUptoRow.domain false Rows.grammarSetsUptoRow.laid) (((Rows.OpenSpec.upto Rows.grammarSetsSpec).at F).post enc Tryz.prog Tryz.f7 false true false false):=by
 obtain ⟨places,hx⟩:=reads os enc
 refine returnsInHanded_of_row (C:=Tryz.checked) (s:=Rows.OpenSpec.upto Rows.grammarSetsSpec) own started (by kernel_rfl) Tryz.func7
  (witness_row_at (enc:=enc) (C:=Tryz.checked) false (laidWorld os) wit rfl (by kernel_rfl) (by kernel_rfl) (by kernel_rfl)
   (OpenSpec.preRow_of_cond 8 hx (by kernel_rfl) (fun k hk=>by cases hk; kernel_rfl) (by kernel_rfl) (laid_met os _))) ?_
 intro W base args ds gs before hval hW _ hcond _ hL _ _
 exact contract H enc W base args ds gs before hval hW (hcond _ rfl) hL
theorem said:Rows.GrammarSetsUptoSaid :=
 OpenClaim.holds_of_cond 7 Tryz.f7 rfl rfl rfl rfl rfl rfl rfl ⟨rfl,rfl,rfl,rfl,rfl⟩ rfl rfl rfl rfl rfl (by kernel_rfl) Tryz.func7 (by kernel_rfl)
  (of_decide_eq_true (by kernel_rfl)) (by unfold Func.isWrapper; first | (rw [if_pos (by decide +kernel)]; kernel_rfl) | (rw [if_neg (by decide +kernel)]; exact ⟨rfl,rfl⟩))
  (fun os started H enc _ F=>by rw [OpenClaim.pre_eq_preRow]; exact lifted os started H enc F)
theorem plain (f:FuncId) (fn:Func) (hf:Tryz.pinned.checked.prog.funcNamed "apodixis/apodixislaw13.GrammarSets"=some f) (hfn:Tryz.pinned.checked.prog.funcs[f]?=some fn) :
  false=Tryz.pinned.checked.prog.looks [] /\ ∀ (j:Nat) t,fn.params[j]?=some t -> Tryz.pinned.checked.prog.wantsStandIn t=false:=by
 obtain rfl:f=7:=Option.some.inj ((show Tryz.prog.funcNamed "apodixis/apodixislaw13.GrammarSets"=some 7 by kernel_rfl).symm.trans hf) |>.symm
 obtain rfl:fn=Tryz.f7:=(Option.some.inj (Tryz.func7.symm.trans hfn)).symm
 refine ⟨by kernel_rfl,fun j t ht=>?_⟩
 rw [Tryz.params7] at ht
 have ht:=Array.mem_of_getElem? ht
 simp only [List.mem_toArray,List.mem_cons,List.not_mem_nil,or_false] at ht
 rcases ht with rfl | rfl | rfl
 .exact (show Tryz.prog.wantsStandIn 25=false by kernel_rfl)
 .exact (show Tryz.prog.wantsStandIn 9=false by kernel_rfl)
 .exact (show Tryz.prog.wantsStandIn 9=false by kernel_rfl)
end SetC
theorem grammarSetsCardUpto:Rows.GrammarSetsUptoCardSaid :=
 Claim7.holds_tied_plain_at .later [] _ _ _ _ SetC.said (fun _ h=>by cases h) (by kernel_rfl) (fun _ h=>by cases h) grammarSetsUpto_row_tie rfl ⟨rfl,rfl⟩ (by kernel_rfl) rfl SetC.plain (by kernel_rfl)
end Go.Proofs.YtdiemjjfkoccfaaGreatDoor
#print axioms Go.Proofs.YtdiemjjfkoccfaaGreatDoor.grammarSetsCardUpto
