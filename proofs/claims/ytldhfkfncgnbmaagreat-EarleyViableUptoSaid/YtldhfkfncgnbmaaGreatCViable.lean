/- The statement EarleyViable: whatever the input of bulk at most 1048576, the law returns true and the input reads as it did. -/
import Derived.Test.YtldhfkfncgnbmaaGreatPH
import Derived.Test.YtldhfkfncgnbmaaGreatPF
import Derived.JoinedCond
namespace Go.Proofs.YtldhfkfncgnbmaaGreat
open Go.Apx Go.ChangeShapes Go.WideShapes Go.ChangeAt Go.RowKit
set_option linter.unusedVariables false
set_option linter.unusedSimpArgs false
set_option maxRecDepth 100000
namespace Via
theorem own : ownKnob Tryz.prog.godebug = none:=by kernel_rfl
theorem laidOut : laidOutB Tryz.prog = true:=by kernel_rfl
theorem params_ok : ∀ t ∈ Tryz.f3.params.toList,Tryz.prog.readableRec t = true ∧ t < Tryz.prog.types.size:=by
 rw [Tryz.params3]
 intro t ht
 simp only [List.mem_cons,List.not_mem_nil,or_false] at ht
 rcases ht with rfl | rfl | rfl <;> exact ⟨by kernel_rfl,of_decide_eq_true (by kernel_rfl)⟩
theorem contract (H : Type) (enc : TypeId × Value → H) (W : World) (base : Nat) (args : Array Value) (ds gs : List (DataW H)) (before : List MemPlace)
  (hval : ∀ (j : Nat) t v,Tryz.f3.params[j]? = some t → args[j]? = some v → Value.okWide Tryz.prog W .any base t v)
  (hW : DataW.Whole enc Tryz.prog Tryz.f3.params.toList Rows.earleyViableSpec.vars false W args.toList ds gs before) (hsm : Rows.uptoSmall H (ds ++ gs) = true) :
  Calls Tryz.prog 3 args W fun e W'=>∃ v,e = .returned v ∧ Rows.earleyViableSpec.post enc Tryz.prog Tryz.f3 false true false false W args v W':=by
 have hb:=bulk_small hsm
 have hW':=hW
 obtain ⟨p,q,hA0,hV,rfl,hfz,hnd⟩:=hW
 have hA : DataW.TrodAll enc Tryz.prog W 0 (fun _=>true) true Tryz.f3.params.toList args.toList ds p:=hA0
 rw [Tryz.params3] at hA hval
 obtain ⟨v0,vs0,d0,ds0,p0,q0,hargs,rfl,rfl,h0,r0⟩:=trodAll_cons hA
 obtain ⟨v1,vs1,d1,ds1,p1,q1,rfl,rfl,rfl,h1,r1⟩:=trodAll_cons r0
 obtain ⟨v2,vs2,d2,ds2,p2,q2,rfl,rfl,rfl,h2,r2⟩:=trodAll_cons r1
 obtain ⟨rfl,rfl,rfl⟩:=trodAll_nil r2
 obtain rfl : args = #[v0,v1,v2]:=by cases args; simp_all
 obtain ⟨rfl,rfl⟩:=trodVars_none hV
 simp only [List.append_nil,bulkL] at hb
 obtain ⟨g,hg,s0,b0⟩:=arg_agg (rd_grammar W) h0 (fun a c hc=>by simp [encG,AV.cells] at hc; rcases hc with rfl | rfl <;> rfl) (fun a=>⟨_,rfl⟩) (agg_of_okWide Tryz.underlying25 (hval 0 _ v0 rfl rfl))
 obtain ⟨s,hs,s1,b1⟩:=arg_one (fun fuel=>Rd.string Tryz.underlying9) h1 (fun a c hc=>by simp [AV.cells] at hc; subst hc; rfl) (fun a cs e=>by cases e) (string_of_okWide Tryz.underlying9 (hval 1 _ v1 rfl rfl))
 obtain ⟨tx,hx,s2,b2⟩:=arg_one (rd_strings W) h2 (fun a c hc=>by simp [AV.cells] at hc; subst hc; rfl) (fun a cs e=>by cases e) (slice_of_okWide Tryz.underlying22 (hval 2 _ v2 rfl rfl))
 have hrl:=sum_ge g.rules (fun r=>r.parts.length + 1) (fun r=>by omega)
 exact law_calls (avs:=[encG { g with us:=fun _=>true,st:=s },.sc (.string s),.sl 1 (tx.1.map sv) (capB tx.2)]) laidOut params_ok rfl (show Tryz.f3.resultTypes = #[4] by kernel_rfl) Tryz.underlying4 rfl hW' glob_none (.cons s0 (.cons s1 (.cons s2 .nil)))
  (EarleyViable_c { g with us:=fun _=>true,st:=s } s tx.1 (capB tx.2) ⟨by simp only; omega,by simp only; omega,fun r hr=>by have:=mem_sum (l:=g.rules) hr; omega,hg,by omega⟩ (by omega))
set_option maxRecDepth 100000 in
theorem lifted (os : Os) (started : os.Started) (H : Type) (enc : TypeId × Value → H) (F : Stop.Interp) :
  ReturnsInHanded {} Tryz.checked os 3 .any ((Rows.OpenSpec.upto Rows.earleyViableSpec).pre6 enc Tryz.prog Tryz.f3 Rows.earleyViableUptoRow.domain false) (((Rows.OpenSpec.upto Rows.earleyViableSpec).at F).post enc Tryz.prog Tryz.f3 false true false false):=by
 refine returnsInHanded_of_cond (C:=Tryz.checked) (s:=Rows.OpenSpec.upto Rows.earleyViableSpec) (k:=Rows.uptoSmall) rfl own started (by kernel_rfl) Tryz.func3
  (OpenSpec.witness (enc:=enc) (C:=Tryz.checked) (s:=Rows.OpenSpec.upto Rows.earleyViableSpec) (k:=Rows.uptoSmall) rfl false ⟨#[],#[.agg #[.slice none 0 0,.slice none 0 0],.string ⟨#[]⟩,.slice none 0 0],[]⟩ 8 (by kernel_rfl) (by kernel_rfl) (by kernel_rfl)
   (x:=([.agg [.nil,.nil],.lit (.string []),.nil],[],[])) (by kernel_rfl) rfl (by kernel_rfl)) ?_
 intro W base args ds gs before hval hW _ hk _
 exact contract H enc W base args ds gs before hval hW hk
end Via
theorem earleyViableUpto : Rows.EarleyViableUptoSaid :=
 OpenClaim.holds_of_cond 3 Tryz.f3 rfl rfl rfl rfl rfl rfl rfl ⟨rfl,rfl,rfl,rfl,rfl⟩ rfl rfl rfl rfl rfl (by kernel_rfl) Tryz.func3 (by kernel_rfl)
  (of_decide_eq_true (by kernel_rfl)) (by unfold Func.isWrapper; first | (rw [if_pos (by decide +kernel)]; kernel_rfl) | (rw [if_neg (by decide +kernel)]; exact ⟨rfl,rfl⟩))
  (fun os started H enc _ F=>Via.lifted os started H enc F)
end Go.Proofs.YtldhfkfncgnbmaaGreat
#print axioms Go.Proofs.YtldhfkfncgnbmaaGreat.earleyViableUpto
