/- The card of ModalGenerated: whatever the input of bulk at most 1048576, the law returns true and the input reads as it did. -/
import Derived.Test.YtbijnfhclfimeaaDoorRd
import Derived.Test.YtbijnfhclfimeaaDoorK9
namespace Go.Proofs.YtbijnfhclfimeaaDoor
open Go.Apx Go.ChangeShapes Go.WideShapes Go.ChangeAt Go.RowKit
set_option linter.unusedVariables false
set_option linter.unusedSimpArgs false
set_option maxRecDepth 100000
namespace Gen

theorem own : ownKnob Tryd.prog.godebug = none := by kernel_rfl
theorem laidOut : laidOutB Tryd.prog = true := by kernel_rfl
theorem params_ok : ∀ t ∈ Tryd.f7.params.toList, Tryd.prog.readableRec t = true ∧ t < Tryd.prog.types.size := by
  rw [Tryd.params7]
  intro t ht
  simp only [List.mem_cons, List.not_mem_nil, or_false] at ht
  rcases ht with rfl | rfl | rfl | rfl | rfl <;> exact ⟨by kernel_rfl, of_decide_eq_true (by kernel_rfl)⟩

theorem contract (H : Type) (enc : TypeId × Value → H) (W : World) (base : Nat) (args : Array Value) (ds gs : List (DataW H)) (before : List MemPlace)
    (hval : ∀ (j : Nat) t v, Tryd.f7.params[j]? = some t → args[j]? = some v → Value.okWide Tryd.prog W .any base t v)
    (hW : DataW.Whole enc Tryd.prog Tryd.f7.params.toList Rows.modalGeneratedSpec.vars false W args.toList ds gs before) (hsm : Rows.uptoSmall H (ds ++ gs) = true) (hL : laidMetH Tryd.prog Rows.modalGeneratedUptoRow.laid W) :
    Calls Tryd.prog 7 args W fun e W' => ∃ v, e = .returned v ∧ Rows.modalGeneratedSpec.post enc Tryd.prog Tryd.f7 false true false false W args v W' := by
  have hb := bulk_small hsm
  have hW' := hW
  obtain ⟨p, q, hA0, hV, rfl, hfz, hnd⟩ := hW
  have hA : DataW.TrodAll enc Tryd.prog W 0 (fun _ => true) true Tryd.f7.params.toList args.toList ds p := hA0
  rw [Tryd.params7] at hA hval
  obtain ⟨v0, vs0, d0, ds0, p0, q0, hargs, rfl, rfl, h0, r0⟩ := trodAll_cons hA
  obtain ⟨v1, vs1, d1, ds1, p1, q1, rfl, rfl, rfl, h1, r1⟩ := trodAll_cons r0
  obtain ⟨v2, vs2, d2, ds2, p2, q2, rfl, rfl, rfl, h2, r2⟩ := trodAll_cons r1
  obtain ⟨v3, vs3, d3, ds3, p3, q3, rfl, rfl, rfl, h3, r3⟩ := trodAll_cons r2
  obtain ⟨v4, vs4, d4, ds4, p4, q4, rfl, rfl, rfl, h4, r4⟩ := trodAll_cons r3
  obtain ⟨rfl, rfl, rfl⟩ := trodAll_nil r4
  obtain rfl : args = #[v0, v1, v2, v3, v4] := by cases args; simp_all
  obtain ⟨rfl, rfl⟩ := trodVars_none hV
  simp only [List.append_nil, bulkL] at hb
  obtain ⟨S, hS, s0, b0⟩ := arg_one (rd_uints W) h0 (fun a c hc => by simp [AV.cells] at hc; subst hc; rfl) (fun a cs e => by cases e) (slice_of_okWide Tryd.underlying22 (hval 0 _ v0 rfl rfl))
  obtain ⟨t, hk, s1, b1⟩ := arg_agg (rd_tree W) h1 ones_encT (fun a => ⟨_, encT_eq a⟩) (agg_of_okWide Tryd.underlying28 (hval 1 _ v1 rfl rfl))
  obtain ⟨w, hw, s2, b2⟩ := arg_one (fun fuel => Rd.int Tryd.underlying3) h2 (fun a c hc => by simp [AV.cells] at hc; subst hc; rfl) (fun a cs e => by cases e) (int_of_okWide Tryd.underlying3 (hval 2 _ v2 rfl rfl))
  obtain ⟨p, hp, s3, b3⟩ := arg_one (fun fuel => Rd.u64 Tryd.underlying52) h3 (fun a c hc => by simp [AV.cells] at hc; subst hc; rfl) (fun a cs e => by cases e) (int_of_okWide Tryd.underlying52 (hval 3 _ v3 rfl rfl))
  obtain ⟨q, hq, s4, b4⟩ := arg_one (fun fuel => Rd.u64 Tryd.underlying52) h4 (fun a c hc => by simp [AV.cells] at hc; subst hc; rfl) (fun a cs e => by cases e) (int_of_okWide Tryd.underlying52 (hval 4 _ v4 rfl rfl))
  exact law_calls (avs := [.sl 1 (S.1.map u64) (capB S.2), encT t, .sc (.int .i64 w), u64 p, u64 q]) laidOut params_ok rfl (show Tryd.f7.resultTypes = #[4] by kernel_rfl) Tryd.underlying4 rfl hW' (glob_met hL) (.cons s0 (.cons s1 (.cons s2 (.cons s3 (.cons s4 .nil)))))
    (ModalGenerated_c S.1 _ t w p q (by omega) ⟨hk, by omega⟩)

/-- A world for the witness: the settled one, the tables hold what their initialisers lay. -/
noncomputable def laidWorld (os : Os) : World :=
  { World.holding Tryd.prog os ⟨#[], #[], []⟩ with
    heap := ((World.holding Tryd.prog os ⟨#[], #[], []⟩).heap.modify 0 fun
      | .cells _ t frozen => .cells (#[0, 1, 28, 2, 29, 14, 24, 3, 30, 22, 20, 15, 25, 17, 4, 8, 31, 27, 13, 23, 21, 19, 16, 7, 26, 12, 18, 6, 11, 5, 10, 9].map fun z => Value.int .u8 z) t frozen
      | o => o).modify 1 (fun
      | .cells _ t frozen => .cells (#[0, 1, 56, 2, 57, 49, 28, 3, 61, 58, 42, 50, 38, 29, 17, 4, 62, 47, 59, 36, 45, 43, 51, 22, 53, 39, 33, 30, 24, 18, 12, 5, 63, 55, 48, 27, 60, 41, 37, 16, 46, 35, 44, 21, 52, 32, 23, 11, 54, 26, 40, 15, 34, 20, 31, 10, 25, 14, 19, 9, 13, 8, 7, 6].map fun z => Value.int .u8 z) t frozen
      | o => o) }
noncomputable def wit : Array Value := #[.slice none 0 0, .agg #[.string ⟨#[]⟩, .slice none 0 0], .int .i64 0, .int .u64 0, .int .u64 0]
theorem laid_met (os : Os) : laidMet Tryd.prog Rows.modalGeneratedUptoRow.laid ((laidWorld os).forCall (fun _ _ => 0) ⟨#[], wit, []⟩).memory :=
  laidMet_of_run' 8 (by kernel_rfl) (by kernel_rfl)
theorem reads (os : Os) {H : Type} (enc : TypeId × Value → H) : ∃ places, DataW.whole enc Tryd.prog ((laidWorld os).forCall (fun _ _ => 0) ⟨#[], wit, []⟩).memory Tryd.f7.params.toList Rows.modalGeneratedSpec.vars false wit.toList 8 = some ([.nil, .agg [.lit (.string []), .nil], .lit (.int .i64 0), .lit (.int .u64 0), .lit (.int .u64 0)], [], places) :=
  ⟨[], by kernel_rfl⟩

set_option maxRecDepth 100000 in
theorem lifted (os : Os) (started : os.Started) (H : Type) (enc : TypeId × Value → H) (F : Stop.Interp) :
    ReturnsInHanded {} Tryd.checked os 7 .any ((Rows.OpenSpec.upto Rows.modalGeneratedSpec).preRow enc Tryd.prog Tryd.f7 Rows.modalGeneratedUptoRow.domain false Rows.modalGeneratedUptoRow.laid) (((Rows.OpenSpec.upto Rows.modalGeneratedSpec).at F).post enc Tryd.prog Tryd.f7 false true false false) := by
  obtain ⟨places, hx⟩ := reads os enc
  refine returnsInHanded_of_row (C := Tryd.checked) (s := Rows.OpenSpec.upto Rows.modalGeneratedSpec) own started (by kernel_rfl) Tryd.func7
    (witness_row_at (enc := enc) (C := Tryd.checked) false (laidWorld os) wit rfl (by kernel_rfl) (by kernel_rfl) (by kernel_rfl)
      (OpenSpec.preRow_of_cond 8 hx (by kernel_rfl) (fun k hk => by cases hk; kernel_rfl) (by kernel_rfl) (laid_met os))) ?_
  intro W base args ds gs before hval hW _ hcond _ hL _ _
  exact contract H enc W base args ds gs before hval hW (hcond _ rfl) hL

theorem said : Rows.ModalGeneratedUptoSaid :=
  OpenClaim.holds_of_cond 7 Tryd.f7 rfl rfl rfl rfl rfl rfl rfl ⟨rfl, rfl, rfl, rfl, rfl⟩ rfl rfl rfl rfl rfl (by kernel_rfl) Tryd.func7 (by kernel_rfl)
    (of_decide_eq_true (by kernel_rfl)) (by unfold Func.isWrapper; first | (rw [if_pos (by decide +kernel)]; kernel_rfl) | (rw [if_neg (by decide +kernel)]; exact ⟨rfl, rfl⟩))
    (fun os started H enc _ F => by rw [OpenClaim.pre_eq_preRow]; exact lifted os started H enc F)

theorem plain (f : FuncId) (fn : Func) (hf : Tryd.pinned.checked.prog.funcNamed "apodixis/apodixislaw35.ModalGenerated" = some f) (hfn : Tryd.pinned.checked.prog.funcs[f]? = some fn) :
    true = Tryd.pinned.checked.prog.looks [] ∧ ∀ (j : Nat) t, fn.params[j]? = some t → Tryd.pinned.checked.prog.wantsStandIn t = false := by
  obtain rfl : f = 7 := Option.some.inj ((show Tryd.prog.funcNamed "apodixis/apodixislaw35.ModalGenerated" = some 7 by kernel_rfl).symm.trans hf) |>.symm
  obtain rfl : fn = Tryd.f7 := (Option.some.inj (Tryd.func7.symm.trans hfn)).symm
  refine ⟨by kernel_rfl, fun j t ht => ?_⟩
  rw [Tryd.params7] at ht
  have ht := Array.mem_of_getElem? ht
  simp only [List.mem_toArray, List.mem_cons, List.not_mem_nil, or_false] at ht
  rcases ht with rfl | rfl | rfl | rfl | rfl
  · exact (show Tryd.prog.wantsStandIn 22 = false by kernel_rfl)
  · exact (show Tryd.prog.wantsStandIn 28 = false by kernel_rfl)
  · exact (show Tryd.prog.wantsStandIn 3 = false by kernel_rfl)
  · exact (show Tryd.prog.wantsStandIn 52 = false by kernel_rfl)
  · exact (show Tryd.prog.wantsStandIn 52 = false by kernel_rfl)
end Gen

/-- The card. -/
theorem modalGeneratedCardUpto : Rows.ModalGeneratedUptoCardSaid :=
  Claim7.holds_tied_plain_at .later [] _ _ _ _ Gen.said (fun _ h => by cases h) (by kernel_rfl) (fun _ h => by cases h) modalGeneratedUpto_row_tie rfl ⟨rfl, rfl⟩ (by kernel_rfl) rfl Gen.plain (by kernel_rfl)
end Go.Proofs.YtbijnfhclfimeaaDoor
#print axioms Go.Proofs.YtbijnfhclfimeaaDoor.modalGeneratedCardUpto
