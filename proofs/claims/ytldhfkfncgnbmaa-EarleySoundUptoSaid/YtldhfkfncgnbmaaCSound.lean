/- The statement EarleySound: whatever the input of bulk at most 1048576, the law returns true and the input reads as it did. -/
import Derived.Test.YtldhfkfncgnbmaaSA
import Derived.Test.YtldhfkfncgnbmaaPF
import Derived.JoinedCond
set_option linter.unusedVariables false
set_option linter.unusedSimpArgs false
set_option linter.unnecessarySimpa false
namespace Go.Apx
open Go.Proofs Go.ChangeShapes Go.WideShapes Go.ChangeAt Go.RowKit
set_option maxRecDepth 100000
theorem rdp_rule (W:World) (fuel:Nat):Rd PP W fuel 75 encR (fun r=>r.parts.length+1) (fun r=>r.plain) :=
 (Rd.struct4 Try.underlying75 rfl rfl rfl rfl (show PP.cellsOf 9=1 by kernel_rfl) (show PP.cellsOf 9=1 by kernel_rfl) (show PP.cellsOf 73=1 by kernel_rfl) (show PP.cellsOf 4=1 by kernel_rfl) (show PP.cellsOf 75=1+1+1+1 by kernel_rfl)
  (fun n _=>Rd.string Try.underlying9) (fun n _=>Rd.string Try.underlying9) (fun n _=>rd_parts W n) (fun n _=>Rd.bool Try.underlying4)).map
  (fun a=>(⟨a.1,a.2.1,a.2.2.1.1,a.2.2.2,capB a.2.2.1.2⟩:Rl)) (fun _=>rfl) (fun a=>by simp only; omega) (fun a _=>capB_strip _)
theorem rdp_rules (W:World) (fuel:Nat):Rd PP W fuel 23 (fun p:List Rl × Bool=>.sl 4 (p.1.map encR) (capB p.2)) (fun p=>(p.1.map fun r=>r.parts.length+1).sum+1) (fun p=>∀ r ∈ p.1,r.plain) :=
 (Rd.slice Try.underlying23 (show PP.cellsOf 75=4 by kernel_rfl) (by omega) (fun _=>rfl) (fun a c hc=>by simp [encR,AV.cells] at hc; rcases hc with rfl | rfl | rfl | rfl <;> rfl) (fun n _=>rdp_rule W n)).map id (fun _=>rfl)
  (fun a=>Nat.le_refl _) (fun a h=>h.1)
theorem rdp_grammar (W:World) (fuel:Nat):Rd PP W fuel 25 encG (fun g=>g.sorts.length+(g.rules.map fun r=>r.parts.length+1).sum+1) (fun g=>(∀ r ∈ g.rules,r.plain) /\ g.sc.strip=g.sc) :=
 (Rd.struct2 Try.underlying25 rfl rfl (show PP.cellsOf 22=1 by kernel_rfl) (show PP.cellsOf 23=1 by kernel_rfl) (show PP.cellsOf 25=1+1 by kernel_rfl) (fun n _=>rd_strings W n) (fun n _=>rdp_rules W n)).map
  (fun a=>({ sorts:=a.1.1,rules:=a.2.1,sc:=capB a.1.2,rc:=capB a.2.2 }:Gr)) (fun _=>rfl) (fun a=>by simp only; omega) (fun a h=>⟨h.2,capB_strip _⟩)
end Go.Apx
namespace Go.Proofs.Ytldhfkfncgnbmaa
open Go.Apx Go.ChangeShapes Go.WideShapes Go.ChangeAt Go.RowKit
set_option maxRecDepth 100000
namespace Snd
theorem own:ownKnob Try.prog.godebug=none:=by kernel_rfl
theorem laidOut:laidOutB Try.prog=true:=by kernel_rfl
theorem params_ok:∀ t ∈ Try.f6.params.toList,Try.prog.readableRec t=true /\ t < Try.prog.types.size:=by
 rw [Try.params6]
 intro t ht
 simp only [List.mem_cons,List.not_mem_nil,or_false] at ht
 rcases ht with rfl | rfl | rfl <;> exact ⟨by kernel_rfl,of_decide_eq_true (by kernel_rfl)⟩
theorem contract (H:Type) (enc:TypeId × Value -> H) (W:World) (base:Nat) (args:Array Value) (ds gs:List (DataW H)) (before:List MemPlace)
  (hval:∀ (j:Nat) t v,Try.f6.params[j]?=some t -> args[j]?=some v -> Value.okWide Try.prog W .any base t v)
  (hW:DataW.Whole enc Try.prog Try.f6.params.toList Rows.earleySoundSpec.vars false W args.toList ds gs before) (hsm:Rows.uptoSmall H (ds++gs)=true) :
  Calls Try.prog 6 args W fun e W'=>∃ v,e=.returned v /\ Rows.earleySoundSpec.post enc Try.prog Try.f6 false true false false W args v W':=by
 have hb:=bulk_small hsm
 have hW':=hW
 obtain ⟨p,q,hA0,hV,rfl,hfz,hnd⟩:=hW
 have hA:DataW.TrodAll enc Try.prog W 0 (fun _=>true) true Try.f6.params.toList args.toList ds p:=hA0
 rw [Try.params6] at hA hval
 obtain ⟨v0,vs0,d0,ds0,p0,q0,hargs,rfl,rfl,h0,r0⟩:=trodAll_cons hA
 obtain ⟨v1,vs1,d1,ds1,p1,q1,rfl,rfl,rfl,h1,r1⟩:=trodAll_cons r0
 obtain ⟨v2,vs2,d2,ds2,p2,q2,rfl,rfl,rfl,h2,r2⟩:=trodAll_cons r1
 obtain ⟨rfl,rfl,rfl⟩:=trodAll_nil r2
 obtain rfl:args=#[v0,v1,v2]:=by cases args; simp_all
 obtain ⟨rfl,rfl⟩:=trodVars_none hV
 simp only [List.append_nil,bulkL] at hb
 obtain ⟨g,hg,s0,b0⟩:=arg_agg (rdp_grammar W) h0 (fun a c hc=>by simp [encG,AV.cells] at hc; rcases hc with rfl | rfl <;> rfl) (fun a=>⟨_,rfl⟩) (agg_of_okWide Try.underlying25 (hval 0 _ v0 rfl rfl))
 obtain ⟨s,hs,s1,b1⟩:=arg_one (fun fuel=>Rd.string Try.underlying9) h1 (fun a c hc=>by simp [AV.cells] at hc; subst hc; rfl) (fun a cs e=>by cases e) (string_of_okWide Try.underlying9 (hval 1 _ v1 rfl rfl))
 obtain ⟨tx,hx,s2,b2⟩:=arg_one (rd_strings W) h2 (fun a c hc=>by simp [AV.cells] at hc; subst hc; rfl) (fun a cs e=>by cases e) (slice_of_okWide Try.underlying22 (hval 2 _ v2 rfl rfl))
 have hrl:=sum_ge g.rules (fun r=>r.parts.length+1) (fun r=>by omega)
 exact law_calls (avs:=[encG { g with us:=fun _=>true,st:=s },.sc (.string s),.sl 1 (tx.1.map sv) (capB tx.2)]) laidOut params_ok rfl (show Try.f6.resultTypes=#[4] by kernel_rfl) Try.underlying4 rfl hW' glob_none (.cons s0 (.cons s1 (.cons s2 .nil)))
  (EarleySound_c { g with us:=fun _=>true,st:=s } s tx.1 (capB tx.2) ⟨by simp only; omega,by simp only; omega,fun r hr=>by have:=mem_sum (l:=g.rules) hr; omega,hg.2,by omega⟩ hg.1 (by omega) (fun _=>rfl) rfl)
set_option maxRecDepth 100000 in
theorem lifted (os:Os) (started:os.Started) (H:Type) (enc:TypeId × Value -> H) (F:Stop.Interp) :
  ReturnsInHanded {} Try.checked os 6 .any ((Rows.OpenSpec.upto Rows.earleySoundSpec).pre6 enc Try.prog Try.f6 Rows.earleySoundUptoRow.domain false) (((Rows.OpenSpec.upto Rows.earleySoundSpec).at F).post enc Try.prog Try.f6 false true false false):=by
 refine returnsInHanded_of_cond (C:=Try.checked) (s:=Rows.OpenSpec.upto Rows.earleySoundSpec) (k:=Rows.uptoSmall) rfl own started (by kernel_rfl) Try.func6
  (OpenSpec.witness (enc:=enc) (C:=Try.checked) (s:=Rows.OpenSpec.upto Rows.earleySoundSpec) (k:=Rows.uptoSmall) rfl false ⟨#[],#[.agg #[.slice none 0 0,.slice none 0 0],.string ⟨#[]⟩,.slice none 0 0],[]⟩ 8 (by kernel_rfl) (by kernel_rfl) (by kernel_rfl)
   (x:=([.agg [.nil,.nil],.lit (.string []),.nil],[],[])) (by kernel_rfl) rfl (by kernel_rfl)) ?_
 intro W base args ds gs before hval hW _ hk _
 exact contract H enc W base args ds gs before hval hW hk
end Snd
theorem earleySoundUpto:Rows.EarleySoundUptoSaid :=
 OpenClaim.holds_of_cond 6 Try.f6 rfl rfl rfl rfl rfl rfl rfl ⟨rfl,rfl,rfl,rfl,rfl⟩ rfl rfl rfl rfl rfl (by kernel_rfl) Try.func6 (by kernel_rfl)
  (of_decide_eq_true (by kernel_rfl)) (by unfold Func.isWrapper; first | (rw [if_pos (by decide +kernel)]; kernel_rfl) | (rw [if_neg (by decide +kernel)]; exact ⟨rfl,rfl⟩))
  (fun os started H enc _ F=>Snd.lifted os started H enc F)
end Go.Proofs.Ytldhfkfncgnbmaa
#print axioms Go.Proofs.Ytldhfkfncgnbmaa.earleySoundUpto
