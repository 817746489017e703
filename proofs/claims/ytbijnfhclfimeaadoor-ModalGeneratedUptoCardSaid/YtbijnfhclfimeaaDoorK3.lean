/- Walk: the law ModalCorresponds. -/
import Derived.Test.YtbijnfhclfimeaaDoorK2
import Derived.Test.YtbijnfhclfimeaaDoorF1
import Derived.Test.YtbijnfhclfimeaaDoorL2
namespace Go.Apx
open Go.Proofs
set_option linter.unusedVariables false
set_option linter.unusedSimpArgs false
set_option linter.unnecessarySimpa false
set_option maxRecDepth 4000

/-! ## trees as the laws write them -/
mutual
def rawT : Tr → AV
  | .node l ks c => .agg [.sc (.string l), if c = .nil then .sl 0 [] .nil else .sl 2 (rawTs ks) c]
def rawTs : List Tr → List AV
  | [] => []
  | t :: r => rawT t :: rawTs r
end
mutual
/-- Nothing lies in a nil slice. -/
def nilOk : Tr → Bool
  | .node _ ks c => (if c = .nil then ks.isEmpty else true) && nilOks ks
def nilOks : List Tr → Bool
  | [] => true
  | t :: r => nilOk t && nilOks r
end
theorem encTs_one : ∀ l : List Tr, ∀ d ∈ (encTs l).flatMap AV.cells, d.one = true
  | [], d, h => by simp [encTs] at h
  | .node lb ks c :: r, d, h => by
    rw [encTs, List.flatMap_cons, List.mem_append] at h
    rcases h with h | h
    · simp [encT, AV.cells] at h; rcases h with rfl | rfl <;> rfl
    · exact encTs_one r d h
theorem encTs_w : ∀ l : List Tr, ∀ f ∈ encTs l, f.cells.length = 2
  | [], f, h => by simp [encTs] at h
  | .node lb ks c :: r, f, h => by
    rw [encTs] at h
    rcases List.mem_cons.1 h with rfl | h
    · rfl
    · exact encTs_w r f h
theorem rawTs_len : ∀ l : List Tr, (rawTs l).length = (encTs l).length
  | [] => rfl
  | t :: r => by simp [rawTs, encTs, rawTs_len r]
mutual
theorem raw_cells : ∀ t : Tr, nilOk t = true → ArgsLe (rawT t).cells (encT t).cells
  | .node l ks c, h => by
    rw [nilOk, Bool.and_eq_true] at h
    show ArgsLe [_, _] [_, _]
    refine .cons (.refl _) (.cons ?_ .nil)
    by_cases hc : c = .nil
    · rw [if_pos hc] at h ⊢
      have hk : ks = [] := by simpa using h.1
      subst hk hc
      exact .nil 0 2
    · rw [if_neg hc]
      exact .sl hc (rawTs_len ks) (encTs_w ks) (encTs_one ks) (raws_cells ks h.2)
theorem raws_cells : ∀ l : List Tr, nilOks l = true → ArgsLe ((rawTs l).flatMap AV.cells) ((encTs l).flatMap AV.cells)
  | [], h => .nil
  | t :: r, h => by
    rw [nilOks, Bool.and_eq_true] at h
    rw [rawTs, encTs, List.flatMap_cons, List.flatMap_cons]
    exact .append (raw_cells t h.1) (raws_cells r h.2)
end
theorem raw_le {t : Tr} (h : nilOk t = true) : AVLe (rawT t) (encT t) := by
  cases t with
  | node l ks c =>
    refine .agg (raw_cells _ h) ?_
    intro d hd; simp at hd; rcases hd with rfl | rfl <;> rfl

theorem schemas_c {h : AHeap} : AEx PP Gl 25 [] h (.ret (.sl 2 (schemaL.map rawT) .full)) h := by
  refine enter_law35_schemas (by simp) ?_
  simp -implicitDefEqProofs [code_law35_schemas, res_law35_schemas, ann_law35_schemas]
  refine callk (tree_c sP 0 [] .nil) rfl rfl ?_
  simp -implicitDefEqProofs
  refine callk (tree_c sBox 2 [rawT pT] .full) rfl rfl ?_
  simp -implicitDefEqProofs
  refine callk (tree_c sDia 2 [rawT pT] .full) rfl rfl ?_
  simp -implicitDefEqProofs
  refine callk reflexive_c rfl rfl ?_
  simp -implicitDefEqProofs
  refine callk (tree_c sBox 2 [rawT (boxT pT)] .full) rfl rfl ?_
  simp -implicitDefEqProofs
  refine callk (tree_c sImp 2 [rawT (boxT pT), rawT (boxT (boxT pT))] .full) rfl rfl ?_
  simp -implicitDefEqProofs
  refine callk (tree_c sBox 2 [rawT (diaT pT)] .full) rfl rfl ?_
  simp -implicitDefEqProofs
  refine callk (tree_c sImp 2 [rawT pT, rawT (boxT (diaT pT))] .full) rfl rfl ?_
  simp -implicitDefEqProofs
  refine callk (tree_c sImp 2 [rawT (boxT pT), rawT (diaT pT)] .full) rfl rfl ?_
  simp -implicitDefEqProofs
  refine callk (tree_c sBox 2 [rawT (diaT pT)] .full) rfl rfl ?_
  simp -implicitDefEqProofs
  refine callk (tree_c sImp 2 [rawT (diaT pT), rawT (boxT (diaT pT))] .full) rfl rfl ?_
  simp -implicitDefEqProofs
  refine callk (tree_c sImp 2 [rawT (boxT pT), rawT pT] .full) rfl rfl ?_
  simp -implicitDefEqProofs
  refine callk (tree_c sBox 2 [rawT (impT (boxT pT) pT)] .full) rfl rfl ?_
  simp -implicitDefEqProofs
  refine callk (tree_c sImp 2 [rawT (boxT (impT (boxT pT) pT)), rawT (boxT pT)] .full) rfl rfl ?_
  simp -implicitDefEqProofs [rawRefl, rawLeaf]
  exact retE (by simp [deferred, dslot]) rfl rfl rfl

/-! ## the law -/
theorem schema_ok : ∀ t ∈ schemaL, nilOk t = true ∧ t.ok = true ∧ t.nodes ≤ 2 ^ 20 ∧ checkF m0 t = 0 ∧ varsF m0 ([] ++ [t]) = [sP] := by decide +kernel
theorem FollowsF_0 {S : List U} (h : rightF S = true) (prem : List Tr) (t : Tr) (hp : prem.length ≤ 40) (he : errsF m0 (prem ++ [t]) = 0) : FollowsF S rolesL prem t = followsF S m0 prem t := by
  simp only [FollowsF, started0 S h]
  rw [if_neg (by omega), if_neg (by simp [he])]
theorem FollowsF_bad {S : List U} (h : rightF S = false) (prem : List Tr) (t : Tr) : FollowsF S rolesL prem t = (false, [], 0, 371) := by
  simp only [FollowsF, startedF]
  rw [if_pos h]
noncomputable def isX (S : List U) (i : Nat) : Bool := isF S (i + 1) && (if i = 5 then isF S 2 else true)
theorem corr_all {S : List U} (h : rightF S = true) (i : Nat) (t : Tr) (ht : schemaL[i]? = some t) : (FollowsF S rolesL [] t).1 = isX S i ∧ (FollowsF S rolesL [] t).2.2.2 = 0 := by
  have hn : S.length ≤ 6 := by simp [rightF] at h; exact h.1.2
  have h1 := right1_of h
  obtain ⟨_, _, _, h2, h3⟩ := schema_ok t (List.mem_of_getElem? ht)
  rw [FollowsF_0 h [] t (by simp) (by simp [errsF, h2])]
  refine ⟨?_, by rw [follows_err, h3, if_neg (by simp; omega)]⟩
  rw [Bool.eq_iff_iff]
  have hi : i < 6 := (List.getElem?_eq_some_iff.1 ht).1
  have : i = 0 ∨ i = 1 ∨ i = 2 ∨ i = 3 ∨ i = 4 ∨ i = 5 := by omega
  rcases this with rfl | rfl | rfl | rfl | rfl | rfl
  · cases ht; simpa [isX] using corr1 h1 hn
  · cases ht; simpa [isX] using corr2 h1 hn
  · cases ht; simpa [isX] using corr3 h1 hn
  · cases ht; simpa [isX] using corr4 h1 hn
  · cases ht; simpa [isX] using corr5 h1 hn
  · cases ht; simpa [isX] using corr6 h1 hn

set_option maxHeartbeats 1000000 in
theorem ModalCorresponds_c (S : List U) (k : Nat) (c : Cap) (hk : k = 1) {h : AHeap} (hS : S.length < 2 ^ 20) : AEx PP Gl 6 [.sl k (S.map u64) c] h (.ret (bool true)) h := by
  subst hk
  refine enter_law35_ModalCorresponds (by simp) ?_
  by_cases h80 : (80 : Int) < S.length
  · simp -implicitDefEqProofs [code_law35_ModalCorresponds, res_law35_ModalCorresponds, ann_law35_ModalCorresponds, h80]
    refine callk awake_c rfl rfl ?_
    simp -implicitDefEqProofs
    exact retE (by simp [deferred, dslot]) rfl rfl rfl
  simp -implicitDefEqProofs [code_law35_ModalCorresponds, res_law35_ModalCorresponds, ann_law35_ModalCorresponds, h80]
  refine callk schemas_c rfl rfl ?_
  simp -implicitDefEqProofs
  refine AWp.cnt 6 [3, 4] (fun i => [(5, i64 i)]) (fun _ => h) (fun _ => True) mixed trivial (le_of (by simp [dslot])) rfl ?_ ?_
  · intro i hi _
    have hl6 : schemaL.length = 6 := rfl
    obtain ⟨t, ht⟩ : ∃ t, schemaL[i]? = some t := ⟨schemaL[i]'(by omega), by simp⟩
    obtain ⟨hno, hok, hnodes, _, _⟩ := schema_ok t (List.mem_of_getElem? ht)
    have hlt : (i : Int) < 6 := by omega
    have enc : rawT t = .agg [.sc (.string t.label), if t.cap = .nil then .sl 0 [] .nil else .sl 2 (rawTs t.kids) t.cap] := by cases t; rfl
    obtain ⟨v2, hv2⟩ : ∃ v2, v2 = (if t.cap = .nil then AV.sl 0 [] .nil else .sl 2 (rawTs t.kids) t.cap) := ⟨_, rfl⟩
    rw [← hv2] at enc
    have hv2p : v2.isPend = false := by rw [hv2]; split <;> rfl
    have hv21 : v2.one = true := by rw [hv2]; split <;> rfl
    simp -implicitDefEqProofs [lp0_law35_ModalCorresponds, hlt, hl6, ht, enc, hv2p, hv21]
    refine callk rolesL_c rfl rfl ?_
    simp -implicitDefEqProofs
    have hval := Valid_c S c rolesL .full t (h := h) hS (by decide) ⟨hok, hnodes⟩
    refine callk2 hval (.cons (.refl _) (.cons (.refl _) (.cons (by rw [← enc]; exact raw_le hno) .nil))) rfl ?_
    have hw : IntKind.i64.wrap ((i : Int) + 1) = (i : Int) + 1 := IntWalk.i64_in _ (by omega)
    cases hr : rightF S with
    | false =>
      rw [FollowsF_bad hr]
      have hI : ∀ p, IsF S p = (false, 371) := fun p => by simp [IsF, hr]
      simp -implicitDefEqProofs [ansV, grown, hw]
      refine callk (Is_c S c ((i : Int) + 1) hS) (by simp) rfl ?_
      rw [hI]
      by_cases h5 : (i : Int) = 5
      · simp -implicitDefEqProofs [isV, h5]
        exact le_of (by simp [dslot])
      · simp -implicitDefEqProofs [isV, h5]
        rw [hw]
        exact le_of (by simp [dslot])
    | true =>
      obtain ⟨hc1, hc2⟩ := corr_all hr i t ht
      have hI : ∀ p : Int, 1 ≤ p → p ≤ 6 → IsF S p = (isF S p, 0) := fun p h1 h2 => by simp [IsF, hr]; omega
      generalize FollowsF S rolesL [] t = a at hc1 hc2
      simp -implicitDefEqProofs [ansV, hc1, hc2, hw]
      refine callk (Is_c S c ((i : Int) + 1) hS) (by simp) rfl ?_
      rw [hI _ (by omega) (by omega)]
      by_cases h5 : i = 5
      · subst h5
        have hX : isX S 5 = (isF S 6 && isF S 2) := rfl
        simp -implicitDefEqProofs [isV]
        refine callk (Is_c S c 2 hS) (by simp) rfl ?_
        rw [hI 2 (by omega) (by omega)]
        rw [hX]
        cases isF S 6 <;> cases isF S 2
        all_goals simp -implicitDefEqProofs [isV]
        all_goals exact le_of (by simp [dslot])
      · have h5' : ¬ (i : Int) = 5 := by omega
        have hX : isX S i = isF S (i + 1) := by simp [isX, h5]
        rw [hX]
        cases isF S (i + 1)
        all_goals simp -implicitDefEqProofs [isV, h5']
        all_goals rw [hw]
        all_goals exact le_of (by simp [dslot])
  · intro _
    have hl6 : schemaL.length = 6 := rfl
    simp -implicitDefEqProofs [lp0_law35_ModalCorresponds, hl6]
    refine callk awake_c rfl rfl ?_
    simp -implicitDefEqProofs
    exact retE (by simp [deferred, dslot]) rfl rfl rfl
end Go.Apx
