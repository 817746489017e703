/- Walk: the law ModalFrames. -/
import Derived.Test.YtbijnfhclfimeaaDoorF5
import Derived.Test.YtbijnfhclfimeaaDoorL2
namespace Go.Apx
open Go.Proofs
set_option linter.unusedVariables false
set_option linter.unusedSimpArgs false
set_option linter.unnecessarySimpa false
set_option maxRecDepth 4000

theorem sameSees_c (l : List U) (k k' : Nat) (c c' : Cap) (hk : l = [] ∨ k = 1) (hk' : l = [] ∨ k' = 1) {h : AHeap} (hl : l.length < 2 ^ 31) : AEx PP Gl 30 [.sl k (l.map u64) c, .sl k' (l.map u64) c'] h (.ret (bool true)) h := by
  refine enter_law35_sameSees (by simp) ?_
  simp -implicitDefEqProofs [code_law35_sameSees, res_law35_sameSees, ann_law35_sameSees]
  refine AWp.cnt l.length [0, 1] (fun i => [(5, i64 i)]) (fun _ => h) (fun _ => True) mixed trivial (le_of (by simp [dslot])) rfl ?_ ?_
  · intro i hi _
    obtain ⟨r, hr⟩ : ∃ r, l[i]? = some r := ⟨l[i], by simp [hi]⟩
    have hlt : (i : Int) < l.length := by omega
    have hk2 : k = 1 := by rcases hk with h | h; subst h; simp at hi; exact h
    have hk3 : k' = 1 := by rcases hk' with h | h; subst h; simp at hi; exact h
    simp -implicitDefEqProofs [lp0_law35_sameSees, hlt, hr, hk2, hk3]
    rw [IntWalk.i64_in ((i : Int) + 1) (by omega)]
    exact le_of (by simp [dslot])
  · intro _
    simp -implicitDefEqProofs [lp0_law35_sameSees]
    exact retE (by simp [deferred, dslot]) rfl rfl rfl
theorem sameSeesG_c (l : List U) {h : AHeap} (hl : l.length < 2 ^ 31) : AEx PP Gl 30 [grown 1 (l.map u64), grown 1 (l.map u64)] h (.ret (bool true)) h := by
  have hk : l = [] ∨ (if l.map u64 = [] then 0 else 1) = 1 := by by_cases h : l = []; exact .inl h; exact .inr (by simp [h])
  exact sameSees_c l _ _ _ _ hk hk hl
theorem GenF_len (S : List U) (w : Int) : (GenF S w).1.length ≤ 6 ∧ (GenF S w).2.1.length ≤ 6 := by
  unfold GenF
  split; simp
  split; simp
  rename_i h1 h2
  have hr : rightF S = true := by simpa using h1
  have hn : S.length ≤ 6 := by simp [rightF] at hr; exact hr.1.2
  have := worldsL_len (genSet S w.toNat) S.length
  simp [genS, genW]; omega

set_option maxHeartbeats 1000000 in
theorem ModalFrames_c (S : List U) (c : Cap) (p w : Int) {h : AHeap} (hS : S.length < 2 ^ 20) : AEx PP Gl 8 [.agg [.sl 1 (S.map u64) c], .sc (.int .i64 p), .sc (.int .i64 w)] h (.ret (bool true)) h := by
  refine enter_law35_ModalFrames (by simp) ?_
  by_cases h80 : (80 : Int) < S.length
  · simp -implicitDefEqProofs [code_law35_ModalFrames, res_law35_ModalFrames, ann_law35_ModalFrames, h80]
    refine callk awake_c rfl rfl ?_
    simp -implicitDefEqProofs
    exact retE (by simp [deferred, dslot]) rfl rfl rfl
  simp -implicitDefEqProofs [code_law35_ModalFrames, res_law35_ModalFrames, ann_law35_ModalFrames, h80]
  refine callk (Is_c S c p hS) (by simp) rfl ?_
  simp -implicitDefEqProofs [isV]
  refine callk (Frame_c _ _) rfl rfl ?_
  simp -implicitDefEqProofs
  refine callk (IsR_c S c p hS) (by simp) rfl ?_
  simp -implicitDefEqProofs [isV]
  refine callk (Generated_c S c w hS) (by simp) rfl ?_
  obtain ⟨hl1, hl2⟩ := GenF_len S w
  simp -implicitDefEqProofs [genV]
  refine callk (Frame_c _ _) rfl rfl ?_
  simp -implicitDefEqProofs
  refine callk (GeneratedR_c S c w hS) (by simp) rfl ?_
  simp -implicitDefEqProofs [genV]
  refine callk (sameSeesG_c _ (by omega)) rfl rfl ?_
  simp -implicitDefEqProofs
  obtain ⟨W, hW⟩ : ∃ W, W = (GenF S w).2.1 := ⟨_, rfl⟩
  rw [← hW] at hl2 ⊢
  simp -implicitDefEqProofs [grown]
  refine AWp.cnt W.length [12, 14] (fun i => [(15, i64 i)]) (fun _ => h) (fun _ => True) mixed trivial (le_of (by simp [dslot])) rfl ?_ ?_
  · intro i hi _
    obtain ⟨r, hr⟩ : ∃ r, W[i]? = some r := ⟨W[i], by simp [hi]⟩
    have hlt : (i : Int) < W.length := by omega
    have hWn : W ≠ [] := by intro e; rw [e] at hi; simp at hi
    simp -implicitDefEqProofs [lp0_law35_ModalFrames, hlt, hr, hWn, iw]
    rw [IntWalk.i64_in ((i : Int) + 1) (by omega)]
    exact le_of (by simp [dslot, hWn])
  · intro _
    simp -implicitDefEqProofs [lp0_law35_ModalFrames]
    refine callk awake_c rfl rfl ?_
    simp -implicitDefEqProofs
    exact retE (by simp [deferred, dslot]) rfl rfl rfl
end Go.Apx
