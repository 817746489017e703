/- The statement EarleyTrees: whatever the input of bulk at most 1048576, the law returns true and the input reads as it did. -/
import Derived.Test.YtldhfkfncgnbmaaTC
import Derived.Test.YtldhfkfncgnbmaaPF
import Derived.JoinedCond
namespace Go.Apx
open Go.Proofs Go.ChangeShapes Go.WideShapes Go.ChangeAt Go.RowKit
set_option maxRecDepth 100000
theorem rd_ints (W:World) (fuel:Nat):Rd PP W fuel 111 (fun p:List Int × Bool=>.sl 1 (ints p.1) (capB p.2)) (fun p=>p.1.length+1) (fun _=>True) :=
 (Rd.slice (sz:=fun _:Int=>1) (g:=fun n:Int=>i64 n) Try.underlying111 (show PP.cellsOf 3=1 by kernel_rfl) (by omega) (fun _=>rfl) (fun a c hc=>by simp [AV.cells] at hc; subst hc; rfl) (fun n _=>Rd.int Try.underlying3)).map id (fun _=>rfl)
  (fun a=>by simp only [id]; have:=sum_ge a.1 (fun _:Int=>1) (fun s=>by omega); omega) (fun a h=>trivial)
theorem rd_way (W:World) (fuel:Nat):Rd PP W fuel 121 encFW (fun w=>w.kids.length+1) (fun w=>CapOk w.cap) :=
 (Rd.struct2 Try.underlying121 rfl rfl (show PP.cellsOf 3=1 by kernel_rfl) (show PP.cellsOf 111=1 by kernel_rfl) (show PP.cellsOf 121=1+1 by kernel_rfl) (fun n _=>Rd.int Try.underlying3) (fun n _=>rd_ints W n)).map
  (fun a=>(⟨a.1,a.2.1,capB a.2.2⟩:FW)) (fun _=>rfl) (fun a=>by simp only; omega) (fun a _=>capB_ok _)
theorem rd_ways (W:World) (fuel:Nat):Rd PP W fuel 63 (fun p:List FW × Bool=>.sl 2 (p.1.map encFW) (capB p.2)) (fun p=>(p.1.map fun w=>w.kids.length+1).sum+1) (fun p=>∀ w ∈ p.1,CapOk w.cap) :=
 (Rd.slice Try.underlying63 (show PP.cellsOf 121=2 by kernel_rfl) (by omega) (fun _=>rfl) (fun a c hc=>by simp [encFW,AV.cells] at hc; rcases hc with rfl | rfl <;> rfl) (fun n _=>rd_way W n)).map id (fun _=>rfl)
  (fun a=>Nat.le_refl _) (fun a h=>h.1)
def okFN (n:FN):Prop:=CapOk n.cap /\ ∀ w ∈ n.ways,CapOk w.cap
def szFN (n:FN):Nat:=(n.ways.map fun w=>w.kids.length+1).sum+1
theorem rd_node (W:World) (fuel:Nat):Rd PP W fuel 65 encFN szFN okFN :=
 (Rd.struct4 Try.underlying65 rfl rfl rfl rfl (show PP.cellsOf 9=1 by kernel_rfl) (show PP.cellsOf 3=1 by kernel_rfl) (show PP.cellsOf 3=1 by kernel_rfl) (show PP.cellsOf 63=1 by kernel_rfl) (show PP.cellsOf 65=1+1+1+1 by kernel_rfl)
  (fun n _=>Rd.string Try.underlying9) (fun n _=>Rd.int Try.underlying3) (fun n _=>Rd.int Try.underlying3) (fun n _=>rd_ways W n)).map
  (fun a=>(⟨a.1,a.2.1,a.2.2.1,a.2.2.2.1,capB a.2.2.2.2⟩:FN)) (fun _=>rfl) (fun a=>by simp only [szFN]; omega) (fun a h=>⟨capB_ok _,h.2.2.2⟩)
theorem rd_nodes (W:World) (fuel:Nat):Rd PP W fuel 28 (fun p:List FN × Bool=>.sl 4 (p.1.map encFN) (capB p.2)) (fun p=>(p.1.map szFN).sum+1) (fun p=>∀ n ∈ p.1,okFN n) :=
 (Rd.slice Try.underlying28 (show PP.cellsOf 65=4 by kernel_rfl) (by omega) (fun _=>rfl) (fun a c hc=>by simp [encFN,AV.cells] at hc; rcases hc with rfl | rfl | rfl | rfl <;> rfl) (fun n _=>rd_node W n)).map id (fun _=>rfl)
  (fun a=>Nat.le_refl _) (fun a h=>h.1)
def okFO (f:FO):Prop:=CapOk f.cap /\ ∀ n ∈ f.nodes,okFN n
theorem rd_forest (W:World) (fuel:Nat):Rd PP W fuel 30 encFO (fun f=>(f.nodes.map szFN).sum+1) okFO :=
 (Rd.struct1 Try.underlying30 rfl (show PP.cellsOf 28=1 by kernel_rfl) (show PP.cellsOf 30=1 by kernel_rfl) (fun n _=>rd_nodes W n)).map
  (fun a=>(⟨a.1,capB a.2⟩:FO)) (fun _=>rfl) (fun a=>Nat.le_succ _) (fun a h=>⟨capB_ok _,h⟩)
theorem sum_mem {α:Type} {l:List α} {x:α} (f:α -> Nat) (h:x ∈ l):f x <= (l.map f).sum:=by
 induction l with
 | nil=>cases h
 | cons y l ih =>
  simp only [List.map_cons,List.sum_cons]
  rcases List.mem_cons.1 h with rfl | h
  .omega
  .have:=ih h; omega
theorem foOk_of {f:FO} (h:okFO f) (hb:(f.nodes.map szFN).sum <= 1048576):FoOk f:=by
 have h1:=sum_ge f.nodes szFN (fun n=>by unfold szFN; omega)
 refine ⟨h.1,by omega,fun n hn=>⟨(h.2 n hn).1,?_⟩,fun n hn w hw=>⟨(h.2 n hn).2 w hw,?_⟩⟩
 .have h2:=sum_mem szFN hn
  have h3:=sum_ge n.ways (fun w=>w.kids.length+1) (fun w=>by omega)
  unfold szFN at h2; unfold szFN at hb; omega
 .have h2:=sum_mem szFN hn
  have h3:=sum_mem (fun w:FW=>w.kids.length+1) hw
  unfold szFN at h2; unfold szFN at hb; omega
end Go.Apx
namespace Go.Proofs.Ytldhfkfncgnbmaa
open Go.Apx Go.ChangeShapes Go.WideShapes Go.ChangeAt Go.RowKit
set_option maxRecDepth 100000
namespace Trs
theorem own:ownKnob Try.prog.godebug=none:=by kernel_rfl
theorem laidOut:laidOutB Try.prog=true:=by kernel_rfl
theorem params_ok:∀ t ∈ Try.f5.params.toList,Try.prog.readableRec t=true /\ t < Try.prog.types.size:=by
 rw [Try.params5]
 intro t ht
 simp only [List.mem_cons,List.not_mem_nil,or_false] at ht
 rcases ht with rfl | rfl | rfl | rfl <;> exact ⟨by kernel_rfl,of_decide_eq_true (by kernel_rfl)⟩
theorem contract (H:Type) (enc:TypeId × Value -> H) (W:World) (base:Nat) (args:Array Value) (ds gs:List (DataW H)) (before:List MemPlace)
  (hval:∀ (j:Nat) t v,Try.f5.params[j]?=some t -> args[j]?=some v -> Value.okWide Try.prog W .any base t v)
  (hW:DataW.Whole enc Try.prog Try.f5.params.toList Rows.earleyTreesSpec.vars false W args.toList ds gs before) (hsm:Rows.uptoSmall H (ds++gs)=true) :
  Calls Try.prog 5 args W fun e W'=>∃ v,e=.returned v /\ Rows.earleyTreesSpec.post enc Try.prog Try.f5 false true false false W args v W':=by
 have hb:=bulk_small hsm
 have hW':=hW
 obtain ⟨p,q,hA0,hV,rfl,hfz,hnd⟩:=hW
 have hA:DataW.TrodAll enc Try.prog W 0 (fun _=>true) true Try.f5.params.toList args.toList ds p:=hA0
 rw [Try.params5] at hA hval
 obtain ⟨v0,vs0,d0,ds0,p0,q0,hargs,rfl,rfl,h0,r0⟩:=trodAll_cons hA
 obtain ⟨v1,vs1,d1,ds1,p1,q1,rfl,rfl,rfl,h1,r1⟩:=trodAll_cons r0
 obtain ⟨v2,vs2,d2,ds2,p2,q2,rfl,rfl,rfl,h2,r2⟩:=trodAll_cons r1
 obtain ⟨v3,vs3,d3,ds3,p3,q3,rfl,rfl,rfl,h3,r3⟩:=trodAll_cons r2
 obtain ⟨rfl,rfl,rfl⟩:=trodAll_nil r3
 obtain rfl:args=#[v0,v1,v2,v3]:=by cases args; simp_all
 obtain ⟨rfl,rfl⟩:=trodVars_none hV
 simp only [List.append_nil,bulkL] at hb
 obtain ⟨g,hg,s0,b0⟩:=arg_agg (rd_grammar W) h0 (fun a c hc=>by simp [encG,AV.cells] at hc; rcases hc with rfl | rfl <;> rfl) (fun a=>⟨_,rfl⟩) (agg_of_okWide Try.underlying25 (hval 0 _ v0 rfl rfl))
 obtain ⟨tx,hx,s1,b1⟩:=arg_one (rd_strings W) h1 (fun a c hc=>by simp [AV.cells] at hc; subst hc; rfl) (fun a cs e=>by cases e) (slice_of_okWide Try.underlying22 (hval 1 _ v1 rfl rfl))
 obtain ⟨f,hf,s2,b2⟩:=arg_agg (rd_forest W) h2 (fun a c hc=>by simp [encFO,AV.cells] at hc; subst hc; rfl) (fun a=>⟨_,rfl⟩) (agg_of_okWide Try.underlying30 (hval 2 _ v2 rfl rfl))
 obtain ⟨n,hn,s3,b3⟩:=arg_one (fun fuel=>Rd.int Try.underlying3) h3 (fun a c hc=>by simp [AV.cells] at hc; subst hc; rfl) (fun a cs e=>by cases e) (int_of_okWide Try.underlying3 (hval 3 _ v3 rfl rfl))
 have hrl:=sum_ge g.rules (fun r=>r.parts.length+1) (fun r=>by omega)
 exact law_calls (avs:=[encG g,.sl 1 (tx.1.map sv) (capB tx.2),encFO f,.sc (.int .i64 n)]) laidOut params_ok rfl (show Try.f5.resultTypes=#[4] by kernel_rfl) Try.underlying4 rfl hW' glob_none (.cons s0 (.cons s1 (.cons s2 (.cons s3 .nil))))
  (EarleyTrees_c g tx.1 (capB tx.2) f (foOk_of hf (by omega)) n ⟨by omega,by omega,fun r hr=>by have:=mem_sum (l:=g.rules) hr; omega,hg,by omega⟩)
set_option maxRecDepth 100000 in
theorem lifted (os:Os) (started:os.Started) (H:Type) (enc:TypeId × Value -> H) (F:Stop.Interp) :
  ReturnsInHanded {} Try.checked os 5 .any ((Rows.OpenSpec.upto Rows.earleyTreesSpec).pre6 enc Try.prog Try.f5 Rows.earleyTreesUptoRow.domain false) (((Rows.OpenSpec.upto Rows.earleyTreesSpec).at F).post enc Try.prog Try.f5 false true false false):=by
 refine returnsInHanded_of_cond (C:=Try.checked) (s:=Rows.OpenSpec.upto Rows.earleyTreesSpec) (k:=Rows.uptoSmall) rfl own started (by kernel_rfl) Try.func5
  (OpenSpec.witness (enc:=enc) (C:=Try.checked) (s:=Rows.OpenSpec.upto Rows.earleyTreesSpec) (k:=Rows.uptoSmall) rfl false ⟨#[],#[.agg #[.slice none 0 0,.slice none 0 0],.slice none 0 0,.agg #[.slice none 0 0],.int .i64 0],[]⟩ 8 (by kernel_rfl) (by kernel_rfl) (by kernel_rfl)
   (x:=([.agg [.nil,.nil],.nil,.agg [.nil],.lit (.int .i64 0)],[],[])) (by kernel_rfl) rfl (by kernel_rfl)) ?_
 intro W base args ds gs before hval hW _ hk _
 exact contract H enc W base args ds gs before hval hW hk
end Trs
theorem earleyTreesUpto:Rows.EarleyTreesUptoSaid :=
 OpenClaim.holds_of_cond 5 Try.f5 rfl rfl rfl rfl rfl rfl rfl ⟨rfl,rfl,rfl,rfl,rfl⟩ rfl rfl rfl rfl rfl (by kernel_rfl) Try.func5 (by kernel_rfl)
  (of_decide_eq_true (by kernel_rfl)) (by unfold Func.isWrapper; first | (rw [if_pos (by decide +kernel)]; kernel_rfl) | (rw [if_neg (by decide +kernel)]; exact ⟨rfl,rfl⟩))
  (fun os started H enc _ F=>Trs.lifted os started H enc F)
end Go.Proofs.Ytldhfkfncgnbmaa
#print axioms Go.Proofs.Ytldhfkfncgnbmaa.earleyTreesUpto
