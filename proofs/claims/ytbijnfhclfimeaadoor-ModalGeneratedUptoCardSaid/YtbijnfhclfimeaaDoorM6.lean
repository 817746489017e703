/- Walks: the models of variables, one by one. -/
import Derived.Test.YtbijnfhclfimeaaDoorM5
namespace Go.Apx
open Go.Proofs
set_option linter.unusedVariables false
set_option linter.unusedSimpArgs false
set_option linter.unnecessarySimpa false
set_option maxRecDepth 4000

theorem shl1 (a b : Nat) (h : a * b ≤ 12) : shiftV .shl .i64 1 ((a : Int) * (b : Int)) = some (.int .i64 ((2 ^ (a * b) : Nat) : Int)) := by
  have e : ((a : Int) * (b : Int)) = ((a * b : Nat) : Int) := by simp
  rw [e]
  generalize a * b = k at h
  have h2 : ∀ k, k ≤ 12 → shiftV .shl .i64 1 ((k : Nat) : Int) = some (.int .i64 ((2 ^ k : Nat) : Int)) := by
    intro k hk
    have : k = 0 ∨ k = 1 ∨ k = 2 ∨ k = 3 ∨ k = 4 ∨ k = 5 ∨ k = 6 ∨ k = 7 ∨ k = 8 ∨ k = 9 ∨ k = 10 ∨ k = 11 ∨ k = 12 := by omega
    rcases this with rfl | rfl | rfl | rfl | rfl | rfl | rfl | rfl | rfl | rfl | rfl | rfl | rfl <;> rfl
  exact h2 k h

theorem models1_c (S : List U) (c : Cap) (vs : List ByteArray) (o : Nat) (H : Nat → AHeap) (Hf : Nat → Nat → AHeap) (stop : Nat → Bool) (hn : S.length * vs.length ≤ 12) (hv : vs.length ≤ 2 ^ 31) (hl : ∀ i X, isLoop (H i ++ X) o = true)
    (hy : ∀ i, i < 2 ^ (S.length * vs.length) → ∀ X t, AYields PP Gl o [apd 2 ((modF S.length i vs).map encM) t] (H i ++ X) (fun r h' => ∃ X', if stop i = true then r = .ret (bool false) ∧ h' = Hf i t ++ X' else r = .ret (bool true) ∧ h' = H (i + 1) ++ X')) :
    ACalls PP Gl 70 [.yld o, .ip (.agg [.sl 1 (S.map u64) c]), .ip (grown 1 (vs.map sv))] (H 0) (fun r h' => r = .ret (.tup []) ∧ ∃ X', match (List.range (2 ^ (S.length * vs.length))).find? stop with | none => h' = H (2 ^ (S.length * vs.length)) ++ X' | some i => ∃ t, h' = Hf i t ++ X') := by
  obtain ⟨N, hN⟩ : ∃ N, N = 2 ^ (S.length * vs.length) := ⟨_, rfl⟩
  have hNle : N ≤ 4096 := by rw [hN]; exact Nat.pow_le_pow_right (by omega) hn
  have hme : ((S.length : Int) * (vs.length : Int)) = ((S.length * vs.length : Nat) : Int) := by simp
  have hmulw : IntKind.i64.wrap ((S.length : Int) * (vs.length : Int)) = (S.length : Int) * (vs.length : Int) := IntWalk.i64_in _ (by rw [hme]; omega)
  have hs := shl1 _ _ hn
  rw [← hN] at hs
  rw [← hN]
  rw [← hN] at hy
  refine enter_modal_models_1 (by simp) ?_
  simp [code_modal_models_1, res_modal_models_1, ann_modal_models_1, grown, hmulw, hs]
  refine AWp.till (S := Nat × AHeap) (0, []) (fun s => N - s.1) [0, 1, 2, 4, 16] (fun s => [(17, i64 s.1)]) (fun s => H s.1 ++ s.2) (fun s => s.1 ≤ N ∧ ∀ j, j < s.1 → stop j = false) mixed ⟨Nat.zero_le _, fun j hj => absurd hj (Nat.not_lt_zero _)⟩ (le_of (by simp [dslot])) (by simp) ?_
  rintro ⟨i, X⟩ ⟨hi, hz⟩
  by_cases hlt : i < N
  · have hlt' : (i : Int) < N := by omega
    simp [lp0_modal_models_1, hlt', hlt]
    obtain ⟨A, hA⟩ : ∃ A : Nat → List AV, ∀ j, A j = (modF S.length i (vs.take j)).map encM := ⟨_, fun _ => rfl⟩
    have hA0 : A 0 = [] := by simp [hA, modF, modFrom]
    have hAn : A vs.length = (modF S.length i vs).map encM := by simp [hA]
    refine AWp.cnt vs.length [0, 1, 2, 4, 5, 16, 17, 20, 21] (fun j => [(6, apd 2 (A j) (H i ++ X).length), (22, i64 j)]) (fun j => H i ++ X ++ apdH (A j).length) (fun _ => True) mixed trivial (le_of (by simp [dslot, hA0])) (by simp [hA0]) ?_ ?_
    · intro j hj _
      obtain ⟨v, hvj⟩ : ∃ v, vs[j]? = some v := ⟨vs[j], by simp [hj]⟩
      have hltj : (j : Int) < vs.length := by omega
      have hne : vs ≠ [] := by intro e; rw [e] at hj; simp at hj
      have hnj : S.length * j ≤ 12 := Nat.le_trans (Nat.mul_le_mul_left _ (Nat.le_of_lt hj)) hn
      have hmul : IntKind.i64.wrap ((S.length : Int) * (j : Int)) = ((S.length * j : Nat) : Int) := by
        have : ((S.length : Int) * (j : Int)) = ((S.length * j : Nat) : Int) := by simp
        rw [this]; exact IntWalk.i64_in _ (by omega)
      have hAl : (A j).length = j := by rw [hA, List.length_map, modF, modFrom_len]; simp; omega
      have hAs : A (j + 1) = A j ++ [encM (v, (BitVec.ofNat 64 i >>> (S.length * j)) &&& full S.length)] := by simp [hA, modF_get _ _ hvj]
      simp [lp1_modal_models_1, hltj, hvj, hne]
      rw [hmul, v64_shr]
      simp
      refine callk worlds_c rfl rfl ?_
      simp
      refine appk (A j) (encM (v, (BitVec.ofNat 64 i >>> (S.length * j)) &&& full S.length)) (H i ++ X) (by simp) (by simp [encM]) (by simp) (len_tok (by omega)) ?_
      simp
      rw [IntWalk.i64_in ((j : Int) + 1) (by omega)]
      exact ⟨le_of (by simp [dslot, hAs]), by simp [hAs, hAl]⟩
    · intro _
      simp [lp1_modal_models_1, hAn]
      refine ⟨hl _ _, yieldk (hy i hlt _ _) ?_⟩
      rintro r h' ⟨X', hr⟩
      by_cases hst : stop i = true
      · rw [if_pos hst] at hr
        obtain ⟨rfl, rfl⟩ := hr
        simp
        refine ret1 (by simp [deferred, dslot]) rfl ⟨rfl, X', ?_⟩
        have : List.find? stop (List.range N) = some i := List.find?_range_eq_some.2 ⟨hst, List.mem_range.2 hlt, fun j hj => by rw [hz j hj]; rfl⟩
        rw [this]
        exact ⟨_, rfl⟩
      · rw [if_neg hst] at hr
        obtain ⟨rfl, rfl⟩ := hr
        simp
        rw [IntWalk.i64_in ((i : Int) + 1) (by omega)]
        refine ⟨i + 1, by omega, ⟨by omega, fun j hj => ?_⟩, le_of (by simp [dslot]), X', rfl⟩
        by_cases hji : j = i
        · subst hji; simpa using hst
        · exact hz j (by show j < i; omega)
  · have hiN : i = N := by have : i ≤ N := hi; omega
    subst hiN
    simp [lp0_modal_models_1]
    refine ret1 (by simp [deferred, dslot]) rfl ⟨rfl, X, ?_⟩
    have : List.find? stop (List.range i) = none := List.find?_range_eq_none.2 fun j hj => by rw [hz j hj]; rfl
    rw [this]
end Go.Apx
