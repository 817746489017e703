/- Walk: the law ModalHolds. -/
import Derived.Test.YtbijnfhclfimeaaDoorH2
import Derived.Test.YtbijnfhclfimeaaDoorL3
namespace Go.Apx
open Go.Proofs
set_option linter.unusedVariables false
set_option linter.unusedSimpArgs false
set_option linter.unnecessarySimpa false
set_option maxRecDepth 4000

theorem HoldsG_c (S : List U) (c : Cap) (l : List Role) (M : Model) (t : Tr) {h : AHeap} (hS : S.length < 2 ^ 20) (hl : l.length < 2 ^ 20) (hM : M.length < 2 ^ 20) (hk : t.ok = true ∧ t.nodes ≤ 2 ^ 20) :
    AEx PP Gl 24 [.agg [.sl 1 (S.map u64) c], grown 2 (l.map encRole), grown 2 (M.map encM), encT t] h (.ret (holdsV (HoldsF S l M t))) h :=
  (HoldsR_c S c l _ M _ t hS hl hM hk).args (.cons (.refl _) (.cons (grown_le _ _) (.cons (grown_le _ _) (.refl _))))

set_option maxHeartbeats 1000000 in
theorem ModalHolds_c (S : List U) (c : Cap) (l : List Role) (cl : Cap) (M : Model) (cm : Cap) (t : Tr) {h : AHeap} (hS : S.length < 2 ^ 20) (hl : l.length < 2 ^ 20) (hM : M.length < 2 ^ 20) (hk : t.ok = true ∧ t.nodes ≤ 2 ^ 20) :
    AEx PP Gl 5 [.agg [.sl 1 (S.map u64) c], .sl 2 (l.map encRole) cl, .sl 2 (M.map encM) cm, encT t] h (.ret (bool true)) h := by
  refine enter_law35_ModalHolds (by simp) ?_
  simp -implicitDefEqProofs [code_law35_ModalHolds, res_law35_ModalHolds, ann_law35_ModalHolds, encT_eq t]
  refine callk (Nodes_c t 4100 (by omega) (by omega) (by omega)) (by simp [encT_eq t]) rfl ?_
  simp -implicitDefEqProofs
  refine callk (few_c S c l cl) rfl rfl ?_
  generalize hn : cntR t 4100 = n
  generalize hfew : (decide (S.length ≤ 80) && decide (l.length ≤ 30)) = few
  cases few with
  | false =>
    simp -implicitDefEqProofs
    refine callk awake_c rfl rfl ?_
    simp -implicitDefEqProofs
    exact retE (by simp [deferred, dslot]) rfl rfl rfl
  | true =>
    by_cases h12 : (12 : Int) < M.length
    · simp -implicitDefEqProofs [h12]
      refine callk awake_c rfl rfl ?_
      simp -implicitDefEqProofs
      exact retE (by simp [deferred, dslot]) rfl rfl rfl
    by_cases h60 : 60 < n
    · by_cases h40 : n ≤ 4000
      · simp -implicitDefEqProofs [h12, h60, h40]
        refine callk awake_c rfl rfl ?_
        simp -implicitDefEqProofs
        exact retE (by simp [deferred, dslot]) rfl rfl rfl
      by_cases h49 : 4090 < n
      · simp -implicitDefEqProofs [h12, h60, h40, h49]
        refine callk awake_c rfl rfl ?_
        simp -implicitDefEqProofs
        exact retE (by simp [deferred, dslot]) rfl rfl rfl
      simp -implicitDefEqProofs [h12, h60, h40, h49]
      refine callk (HoldsM_c S c l cl M cm t hS hl hM hk) (by simp [encT_eq t]) rfl ?_
      simp -implicitDefEqProofs [holdsV, encT_eq t]
      refine callk (Frame_c _ _) rfl rfl ?_
      simp -implicitDefEqProofs
      refine callk (Roles_c l cl (by omega)) rfl rfl ?_
      simp -implicitDefEqProofs
      refine callk (modelsC_c M 2 cm (.inr rfl) (by omega)) rfl rfl ?_
      simp -implicitDefEqProofs
      refine callk (HoldsG_c S c l M t hS hl hM hk) (by simp [encT_eq t]) rfl ?_
      simp -implicitDefEqProofs [holdsV]
      refine callk awake_c rfl rfl ?_
      simp -implicitDefEqProofs
      exact retE (by simp [deferred, dslot]) rfl rfl rfl
    · simp -implicitDefEqProofs [h12, h60]
      refine callk (HoldsM_c S c l cl M cm t hS hl hM hk) (by simp [encT_eq t]) rfl ?_
      simp -implicitDefEqProofs [holdsV, encT_eq t]
      refine callk (Frame_c _ _) rfl rfl ?_
      simp -implicitDefEqProofs
      refine callk (Roles_c l cl (by omega)) rfl rfl ?_
      simp -implicitDefEqProofs
      refine callk (modelsC_c M 2 cm (.inr rfl) (by omega)) rfl rfl ?_
      simp -implicitDefEqProofs
      refine callk (HoldsG_c S c l M t hS hl hM hk) (by simp [encT_eq t]) rfl ?_
      simp -implicitDefEqProofs [holdsV]
      refine callk awake_c rfl rfl ?_
      simp -implicitDefEqProofs
      exact retE (by simp [deferred, dslot]) rfl rfl rfl
end Go.Apx
