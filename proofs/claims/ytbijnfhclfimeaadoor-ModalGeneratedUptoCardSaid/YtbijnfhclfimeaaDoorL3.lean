/- Walk: the law ModalFollows. -/
import Derived.Test.YtbijnfhclfimeaaDoorL2
namespace Go.Apx
open Go.Proofs
set_option linter.unusedVariables false
set_option linter.unusedSimpArgs false
set_option linter.unnecessarySimpa false
set_option maxRecDepth 4000

theorem FollowsF_len (S : List U) (l : List Role) (prem : List Tr) (concl : Tr) : (FollowsF S l prem concl).2.1.length ≤ 12 := by
  unfold FollowsF
  rcases startedF_cases S l with ⟨e, he, hst⟩ | ⟨m, hst, hr, hm, hok, hS6⟩
  · rw [hst]; simp
  · rw [hst]
    simp only
    split; simp
    split; simp
    unfold followsF
    split; simp
    rename_i hb
    split
    · simp only [modF, modFrom_len]
      have h1 : 1 ≤ S.length := by simp [rightF] at hr; exact hr.1.1
      have : (varsF m (prem ++ [concl])).length * 1 ≤ (varsF m (prem ++ [concl])).length * S.length := Nat.mul_le_mul_left _ h1
      omega
    · simp
theorem grown_le (k : Nat) (es : List AV) : AVLe (grown k es) (.sl k es (if es = [] then .nil else .any)) := by
  unfold grown
  split
  · rename_i h; subst h; exact .nil 0 k
  · exact .refl _

/-- Both halves of the law. -/
theorem pair_c (S : List U) (c : Cap) (l : List Role) (cl : Cap) (prem : List Tr) (cp : Cap) (concl : Tr) {h : AHeap} (hS : S.length < 2 ^ 20) (hl : l.length < 2 ^ 20) (hp : prem.length < 2 ^ 20)
    (hk : ∀ p ∈ prem ++ [concl], p.ok = true ∧ p.nodes ≤ 2 ^ 20) : AEx PP Gl 13 [.agg [.sl 1 (S.map u64) c], grown 2 (l.map encRole), .sl 2 (prem.map encT) cp, encT concl] h (.ret (ansV (FollowsF S l prem concl))) h :=
  (FollowsR_c S c l _ prem cp concl hS hl hp hk).args (.cons (.refl _) (.cons (grown_le _ _) (.refl _)))
theorem pairV_c (S : List U) (c : Cap) (l : List Role) (concl : Tr) {h : AHeap} (hS : S.length < 2 ^ 20) (hl : l.length < 2 ^ 20) (hk : concl.ok = true ∧ concl.nodes ≤ 2 ^ 20) :
    AEx PP Gl 19 [.agg [.sl 1 (S.map u64) c], grown 2 (l.map encRole), encT concl] h (.ret (ansV (FollowsF S l [] concl))) h :=
  (ValidR_c S c l _ concl hS hl hk).args (.cons (.refl _) (.cons (grown_le _ _) (.refl _)))

theorem modelsG_c (V : Model) {h : AHeap} (hV : V.length ≤ 12) : AEx PP Gl 17 [grown 2 (V.map encM)] h (.ret (grown 2 (V.map encM))) h := by
  have := modelsC_c V (if V.map encM = [] then 0 else 2) (if V.map encM = [] then .nil else .any) (by by_cases hv : V = []; exact .inl hv; exact .inr (by simp [hv])) (h := h) (by omega)
  exact this
theorem sameG_c (V : Model) {h : AHeap} (hV : V.length ≤ 12) : AEx PP Gl 16 [grown 2 (V.map encM), grown 2 (V.map encM)] h (.ret (bool true)) h := by
  have := sameModels_c V (if V.map encM = [] then 0 else 2) (if V.map encM = [] then 0 else 2) (if V.map encM = [] then .nil else .any) (if V.map encM = [] then .nil else .any) (by by_cases hv : V = []; exact .inl hv; exact .inr (by simp [hv])) (by by_cases hv : V = []; exact .inl hv; exact .inr (by simp [hv])) (h := h) (by omega)
  exact this

set_option maxHeartbeats 1000000 in
theorem ModalFollows_c (S : List U) (c : Cap) (l : List Role) (cl : Cap) (prem : List Tr) (cp : Cap) (concl : Tr) {h : AHeap} (hS : S.length < 2 ^ 20) (hl : l.length < 2 ^ 20) (hcp : cp = .nil → prem = []) (hp : prem.length < 2 ^ 20)
    (hk : ∀ p ∈ prem ++ [concl], p.ok = true ∧ p.nodes ≤ 2 ^ 20) : AEx PP Gl 3 [.agg [.sl 1 (S.map u64) c], .sl 2 (l.map encRole) cl, .sl 2 (prem.map encT) cp, encT concl] h (.ret (bool true)) h := by
  have hkc := hk concl (by simp)
  refine enter_law35_ModalFollows (by simp) ?_
  simp -implicitDefEqProofs [code_law35_ModalFollows, res_law35_ModalFollows, ann_law35_ModalFollows, encT_eq concl]
  refine callk (few_c S c l cl) rfl rfl ?_
  generalize hfew : (decide (S.length ≤ 80) && decide (l.length ≤ 30)) = few
  cases few with
  | false =>
    simp -implicitDefEqProofs
    refine callk awake_c rfl rfl ?_
    simp -implicitDefEqProofs
    exact retE (by simp [deferred, dslot]) rfl rfl rfl
  | true =>
    by_cases h4 : (4 : Int) < prem.length
    · by_cases h40 : (prem.length : Int) ≤ 40
      · simp -implicitDefEqProofs [h4, h40]
        refine callk awake_c rfl rfl ?_
        simp -implicitDefEqProofs
        exact retE (by simp [deferred, dslot]) rfl rfl rfl
      · by_cases h50 : (50 : Int) < prem.length
        · simp -implicitDefEqProofs [h4, h40, h50]
          refine callk awake_c rfl rfl ?_
          simp -implicitDefEqProofs
          exact retE (by simp [deferred, dslot]) rfl rfl rfl
        · simp -implicitDefEqProofs [h4, h40, h50, encT_eq concl]
          refine callk (Nodes_c concl 40 (by omega) (by omega) (by omega)) (by simp [encT_eq concl]) rfl ?_
          simp -implicitDefEqProofs
          refine ⟨fun hb => ?_, fun hb => ?_⟩
          · refine callk awake_c rfl rfl ?_
            simp -implicitDefEqProofs
            exact retE (by simp [deferred, dslot]) rfl rfl rfl
          refine AWp.cnt prem.length [1, 2, 4, 7] (fun i => [(9, i64 i)]) (fun _ => h) (fun _ => True) mixed trivial (le_of (by simp [dslot])) rfl ?_ ?_
          · intro i hi _
            obtain ⟨p, hpi⟩ : ∃ p, prem[i]? = some p := ⟨prem[i], by simp [hi]⟩
            have hlt : (i : Int) < prem.length := by omega
            have hpk := hk p (by simp [List.mem_of_getElem? hpi])
            simp -implicitDefEqProofs [lp0_law35_ModalFollows, hlt, hpi, encT_eq p]
            refine callk (Nodes_c p 40 (by omega) (by omega) (by omega)) (by simp [encT_eq p]) rfl ?_
            simp -implicitDefEqProofs
            refine ⟨fun hb2 => ?_, fun hb2 => ?_⟩
            · refine callk awake_c rfl rfl ?_
              simp -implicitDefEqProofs
              exact retE (by simp [deferred, dslot]) rfl rfl rfl
            · rw [IntWalk.i64_in ((i : Int) + 1) (by omega)]
              exact le_of (by simp [dslot])
          · intro _
            simp -implicitDefEqProofs [lp0_law35_ModalFollows]
            refine callk (Follows_c S c l cl prem cp concl hS hl hcp hp hk) (by simp [encT_eq concl]) rfl ?_
            simp -implicitDefEqProofs [ansV, encT_eq concl]
            refine callk (Frame_c _ _) rfl rfl ?_
            simp -implicitDefEqProofs
            refine callk (Roles_c l cl (by omega)) rfl rfl ?_
            simp -implicitDefEqProofs
            refine callk (pair_c S c l cl prem cp concl hS hl hp hk) (by simp [encT_eq concl]) rfl ?_
            have hV := FollowsF_len S l prem concl
            simp -implicitDefEqProofs [ansV]
            refine callk (modelsG_c _ hV) rfl rfl ?_
            simp -implicitDefEqProofs
            refine callk (sameG_c _ hV) rfl rfl ?_
            simp -implicitDefEqProofs [encT_eq concl]
            refine callk (Valid_c S c l cl concl hS hl hkc) (by simp [encT_eq concl]) rfl ?_
            simp -implicitDefEqProofs [ansV, encT_eq concl]
            refine callk (Frame_c _ _) rfl rfl ?_
            simp -implicitDefEqProofs
            refine callk (Roles_c l cl (by omega)) rfl rfl ?_
            simp -implicitDefEqProofs
            refine callk (pairV_c S c l concl hS hl hkc) (by simp [encT_eq concl]) rfl ?_
            have hV2 := FollowsF_len S l [] concl
            simp -implicitDefEqProofs [ansV]
            refine callk (modelsG_c _ hV2) rfl rfl ?_
            simp -implicitDefEqProofs
            refine callk (sameG_c _ hV2) rfl rfl ?_
            simp -implicitDefEqProofs
            refine callk awake_c rfl rfl ?_
            simp -implicitDefEqProofs
            exact retE (by simp [deferred, dslot]) rfl rfl rfl
    · have h50 : ¬ (50 : Int) < prem.length := by omega
      simp -implicitDefEqProofs [h4, h50, encT_eq concl]
      refine callk (Nodes_c concl 40 (by omega) (by omega) (by omega)) (by simp [encT_eq concl]) rfl ?_
      simp -implicitDefEqProofs
      refine ⟨fun hb => ?_, fun hb => ?_⟩
      · refine callk awake_c rfl rfl ?_
        simp -implicitDefEqProofs
        exact retE (by simp [deferred, dslot]) rfl rfl rfl
      refine AWp.cnt prem.length [1, 2, 4, 7] (fun i => [(9, i64 i)]) (fun _ => h) (fun _ => True) mixed trivial (le_of (by simp [dslot])) rfl ?_ ?_
      · intro i hi _
        obtain ⟨p, hpi⟩ : ∃ p, prem[i]? = some p := ⟨prem[i], by simp [hi]⟩
        have hlt : (i : Int) < prem.length := by omega
        have hpk := hk p (by simp [List.mem_of_getElem? hpi])
        simp -implicitDefEqProofs [lp0_law35_ModalFollows, hlt, hpi, encT_eq p]
        refine callk (Nodes_c p 40 (by omega) (by omega) (by omega)) (by simp [encT_eq p]) rfl ?_
        simp -implicitDefEqProofs
        refine ⟨fun hb2 => ?_, fun hb2 => ?_⟩
        · refine callk awake_c rfl rfl ?_
          simp -implicitDefEqProofs
          exact retE (by simp [deferred, dslot]) rfl rfl rfl
        · rw [IntWalk.i64_in ((i : Int) + 1) (by omega)]
          exact le_of (by simp [dslot])
      · intro _
        simp -implicitDefEqProofs [lp0_law35_ModalFollows]
        refine callk (Follows_c S c l cl prem cp concl hS hl hcp hp hk) (by simp [encT_eq concl]) rfl ?_
        simp -implicitDefEqProofs [ansV, encT_eq concl]
        refine callk (Frame_c _ _) rfl rfl ?_
        simp -implicitDefEqProofs
        refine callk (Roles_c l cl (by omega)) rfl rfl ?_
        simp -implicitDefEqProofs
        refine callk (pair_c S c l cl prem cp concl hS hl hp hk) (by simp [encT_eq concl]) rfl ?_
        have hV := FollowsF_len S l prem concl
        simp -implicitDefEqProofs [ansV]
        refine callk (modelsG_c _ hV) rfl rfl ?_
        simp -implicitDefEqProofs
        refine callk (sameG_c _ hV) rfl rfl ?_
        simp -implicitDefEqProofs [encT_eq concl]
        refine callk (Valid_c S c l cl concl hS hl hkc) (by simp [encT_eq concl]) rfl ?_
        simp -implicitDefEqProofs [ansV, encT_eq concl]
        refine callk (Frame_c _ _) rfl rfl ?_
        simp -implicitDefEqProofs
        refine callk (Roles_c l cl (by omega)) rfl rfl ?_
        simp -implicitDefEqProofs
        refine callk (pairV_c S c l concl hS hl hkc) (by simp [encT_eq concl]) rfl ?_
        have hV2 := FollowsF_len S l [] concl
        simp -implicitDefEqProofs [ansV]
        refine callk (modelsG_c _ hV2) rfl rfl ?_
        simp -implicitDefEqProofs
        refine callk (sameG_c _ hV2) rfl rfl ?_
        simp -implicitDefEqProofs
        refine callk awake_c rfl rfl ?_
        simp -implicitDefEqProofs
        exact retE (by simp [deferred, dslot]) rfl rfl rfl
end Go.Apx
