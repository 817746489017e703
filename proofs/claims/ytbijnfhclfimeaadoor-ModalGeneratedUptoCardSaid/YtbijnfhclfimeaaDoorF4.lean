/- Walks: the reference: Is. -/
import Derived.Test.YtbijnfhclfimeaaDoorF3
namespace Go.Apx
open Go.Proofs
set_option linter.unusedVariables false
set_option linter.unusedSimpArgs false
set_option linter.unnecessarySimpa false
set_option maxRecDepth 4000

theorem isB (S : List U) (c : Cap) (p : Int) (i : Nat) (env : Env) (Q : APost) {h : AHeap} (k : Nat) (hn : S.length ≤ 6) (h1 : right1 S) (hi : i < S.length)
    (e1 : env.get 1 = some (.sc (.int .i64 p))) (e2 : env.get 2 = some (.ip (.agg [.sl 1 (S.map u64) c]))) (e6 : env.get 6 = some (.sc (.int .i64 S.length))) (e7 : env.get 7 = some (i64 i)) (e8 : env.get 8 = some (i64 0)) (ed : env.get dslot = none)
    (hQ : (∀ v, v < S.length → badV S p i v = false) → ∀ env', env'.get 1 = env.get 1 → env'.get 2 = env.get 2 → env'.get 6 = env.get 6 → env'.get 7 = env.get 7 → env'.get dslot = none → Q (.exit 2) env' h)
    (hR : (∃ v, v < S.length ∧ badV S p i v = true) → ∀ env', env'.get 4 = some (.sc (.bool false)) → env'.get 5 = some (.sc (.int .i64 0)) → env'.get dslot = none → Q .ret env' h) : AWp ⟨PP, Gl, 131, [2], k, none⟩ (.loop lp1_ref35_Is) Q env h := by
  refine AWp.cnt S.length [1, 2, 6, 7] (fun i => [(8, i64 i)]) (fun _ => h) (fun j => ∀ v, v < j → badV S p i v = false) mixed (by simp) (le_of (by simp [dslot, e1, e2, e6, e7, e8]; exact ed.symm)) rfl ?_ ?_
  · intro j hj hz
    have hlt : (j : Int) < S.length := by omega
    have nextj : badV S p i j = false → ∀ v, v < j + 1 → badV S p i v = false := fun hb v hv => by
      by_cases hvi : v = j
      · subst hvi; exact hb
      · exact hz v (by omega)
    by_cases p3 : p = 3
    · subst p3
      simp -implicitDefEqProofs [lp1_ref35_Is, hlt, e1, e2, e6, e7]
      refine callk (seesR_c S c i j (by omega) hi hj) (by simp) rfl ?_
      cases q1 : seesF S i j with
      | false =>
        simp -implicitDefEqProofs [e1, e2, e6, e7]
        refine isC S c 3 i j _ _ _ hn hi hj (by simp) (by simp) (by simp) (by simp) (by simp) (by simp) (by simp [dslot]) ?_ ?_
        · intro ht env' g1 g2 g6 g7 g8 gd
          simp at g1 g2 g6 g7 g8
          simp -implicitDefEqProofs [g1, g2, g6, g7, g8]
          rw [IntWalk.i64_in ((j : Int) + 1) (by omega)]
          exact ⟨nextj (badV_none h1 hi hj (fun _ h => absurd h (by simp [q1])) ht), le_of (by simp [g1, g2, g6, g7, g8]; simp [dslot] at gd ⊢; exact gd.symm)⟩
        · rintro hex env' g4 g5 gd
          simp -implicitDefEqProofs
          exact hR ⟨j, hj, badV_tri h1 hi hj hex⟩ _ (by simp [g4]) (by simp [g5]) gd
      | true =>
        simp -implicitDefEqProofs [e1, e2, e6, e7]
        refine callk (seesR_c S c j i (by omega) hj hi) (by simp) rfl ?_
        cases q2 : seesF S j i with
        | true =>
          simp -implicitDefEqProofs [e1, e2, e6, e7]
          refine isC S c 3 i j _ _ _ hn hi hj (by simp) (by simp) (by simp) (by simp) (by simp) (by simp) (by simp [dslot]) ?_ ?_
          · intro ht env' g1 g2 g6 g7 g8 gd
            simp at g1 g2 g6 g7 g8
            simp -implicitDefEqProofs [g1, g2, g6, g7, g8]
            rw [IntWalk.i64_in ((j : Int) + 1) (by omega)]
            exact ⟨nextj (badV_none h1 hi hj (fun _ _ => q2) ht), le_of (by simp [g1, g2, g6, g7, g8]; simp [dslot] at gd ⊢; exact gd.symm)⟩
          · rintro hex env' g4 g5 gd
            simp -implicitDefEqProofs
            exact hR ⟨j, hj, badV_tri h1 hi hj hex⟩ _ (by simp [g4]) (by simp [g5]) gd
        | false =>
          simp -implicitDefEqProofs [e1, e2, e6, e7]
          exact hR ⟨j, hj, by simp [badV, q1, q2]⟩ _ (by simp) (by simp) (by simp [dslot])
    simp -implicitDefEqProofs [lp1_ref35_Is, hlt, e1, e2, e6, e7, p3]
    refine isC S c p i j _ _ _ hn hi hj (by simp) (by simp) (by simp) (by simp) (by simp) (by simp) (by simp [dslot]) ?_ ?_
    · intro ht env' g1 g2 g6 g7 g8 gd
      simp at g1 g2 g6 g7 g8
      simp -implicitDefEqProofs [g1, g2, g6, g7, g8]
      rw [IntWalk.i64_in ((j : Int) + 1) (by omega)]
      exact ⟨nextj (badV_none h1 hi hj (fun h => absurd h p3) ht), le_of (by simp [g1, g2, g6, g7, g8]; simp [dslot] at gd ⊢; exact gd.symm)⟩
    · rintro hex env' g4 g5 gd
      simp -implicitDefEqProofs
      exact hR ⟨j, hj, badV_tri h1 hi hj hex⟩ _ (by simp [g4]) (by simp [g5]) gd
  · intro hz
    simp -implicitDefEqProofs [lp1_ref35_Is, e1, e2, e6, e7]
    exact hQ hz _ (by simp [e1]) (by simp [e2]) (by simp [e6]) (by simp [e7]) (by simp [dslot])

set_option maxHeartbeats 1000000 in
theorem IsR_c (S : List U) (c : Cap) (p : Int) {h : AHeap} (hS : S.length < 2 ^ 20) : AEx PP Gl 28 [.agg [.sl 1 (S.map u64) c], .sc (.int .i64 p)] h (.ret (isV (IsF S p))) h := by
  refine enter_ref35_Is (by simp) ?_
  simp -implicitDefEqProofs [code_ref35_Is, res_ref35_Is, ann_ref35_Is]
  refine callk (frameOK_c S c hS) (by simp) rfl ?_
  simp -implicitDefEqProofs
  refine ⟨fun hr => ?_, fun hr => ?_⟩
  rotate_left
  · exact retE (by simp [deferred, dslot]) rfl (by simp [IsF, isV, hr]) rfl
  have hr' : rightF S = true := by simpa using hr
  have hn : S.length ≤ 6 := by simp [rightF] at hr'; exact hr'.1.2
  have h1 := right1_of hr'
  by_cases p0 : p < 1
  · simp -implicitDefEqProofs [p0]
    exact retE (by simp [deferred, dslot]) rfl (by simp [IsF, isV, hr', p0]) rfl
  by_cases p6 : 6 < p
  · simp -implicitDefEqProofs [p0, p6]
    exact retE (by simp [deferred, dslot]) rfl (by simp [IsF, isV, hr', p6]) rfl
  have hI : IsF S p = (isF S p, 0) := by simp [IsF, hr', p0, p6]
  rw [hI]
  simp -implicitDefEqProofs [p0, p6]
  refine AWp.cnt S.length [1, 2, 6] (fun i => [(7, i64 i)]) (fun _ => h) (fun i => ∀ w, w < i → badW S p w = false ∧ ∀ v, v < S.length → badV S p w v = false) mixed (by simp) (le_of (by simp [dslot])) rfl ?_ ?_
  · intro i hi hz
    obtain ⟨s, hs⟩ : ∃ s, S[i]? = some s := ⟨S[i], by simp [hi]⟩
    have hlt : (i : Int) < S.length := by omega
    have next : badW S p i = false → (∀ v, v < S.length → badV S p i v = false) → ∀ w, w < i + 1 → badW S p w = false ∧ ∀ v, v < S.length → badV S p w v = false := fun hb hv w hw => by
      by_cases hwi : w = i
      · subst hwi; exact ⟨hb, hv⟩
      · exact hz w (by omega)
    have him : i % 18446744073709551616 = i := by omega
    by_cases p1 : p = 1
    · subst p1
      simp -implicitDefEqProofs [lp0_ref35_Is, hlt]
      refine callk (seesR_c S c i i (by omega) hi hi) (by simp) rfl ?_
      cases hd : seesF S i i with
      | true =>
        simp -implicitDefEqProofs
        refine isB S c 1 i _ _ _ hn h1 hi (by simp) (by simp) (by simp) (by simp) (by simp) (by simp [dslot]) ?_ ?_
        · intro hb env' g1 g2 g6 g7 gd
          simp at g1 g2 g6 g7
          simp -implicitDefEqProofs [g1, g2, g6, g7]
          rw [IntWalk.i64_in ((i : Int) + 1) (by omega)]
          exact ⟨next (by simp [badW, hd]) hb, le_of (by simp [g1, g2, g6, g7]; simp [dslot] at gd ⊢; exact gd.symm)⟩
        · rintro hex env' g4 g5 gd
          simp -implicitDefEqProofs
          exact retE (by simp [deferred, gd]) (by simp [evalRes, evalRes1, g4, g5]; rfl) (by simp [isV, isF_false hi (.inr hex)]) rfl
      | false =>
        simp -implicitDefEqProofs
        exact retE (by simp [deferred, dslot]) rfl (by simp [isV, isF_false (p := 1) hi (.inl (by simp [badW, hd]))]) rfl
    by_cases p4 : p = 4
    · subst p4
      by_cases hd : s = 0#64
      · simp -implicitDefEqProofs [lp0_ref35_Is, hlt, hs, hd]
        exact retE (by simp [deferred, dslot]) rfl (by simp [isV, isF_false (p := 4) hi (.inl (by simp [badW, hs, hd]))]) rfl
      · simp -implicitDefEqProofs [lp0_ref35_Is, hlt, hs, hd]
        refine isB S c 4 i _ _ _ hn h1 hi (by simp) (by simp) (by simp) (by simp) (by simp) (by simp [dslot]) ?_ ?_
        · intro hb env' g1 g2 g6 g7 gd
          simp at g1 g2 g6 g7
          simp -implicitDefEqProofs [g1, g2, g6, g7]
          rw [IntWalk.i64_in ((i : Int) + 1) (by omega)]
          exact ⟨next (by simp [badW, hs, hd]) hb, le_of (by simp [g1, g2, g6, g7]; simp [dslot] at gd ⊢; exact gd.symm)⟩
        · rintro hex env' g4 g5 gd
          simp -implicitDefEqProofs
          exact retE (by simp [deferred, gd]) (by simp [evalRes, evalRes1, g4, g5]; rfl) (by simp [isV, isF_false hi (.inr hex)]) rfl
    by_cases p6 : p = 6
    · subst p6
      simp -implicitDefEqProofs [lp0_ref35_Is, hlt]
      refine callk (reachR_c S c i h1 hn hi) (by simp) rfl ?_
      cases hd : bit (reachF S (1#64 <<< i)) i with
      | true =>
        have hd' : reachF S (1#64 <<< i) >>> i &&& 1#64 = 1#64 := by simpa [bit] using hd
        simp -implicitDefEqProofs [him, hd']
        exact retE (by simp [deferred, dslot]) rfl (by simp [isV, isF_false (p := 6) hi (.inl (by simp [badW, hd]))]) rfl
      | false =>
        have hd' : ¬ (reachF S (1#64 <<< i) >>> i &&& 1#64 = 1#64) := by simpa [bit] using hd
        simp -implicitDefEqProofs [him, hd']
        refine isB S c 6 i _ _ _ hn h1 hi (by simp) (by simp) (by simp) (by simp) (by simp) (by simp [dslot]) ?_ ?_
        · intro hb env' g1 g2 g6 g7 gd
          simp at g1 g2 g6 g7
          simp -implicitDefEqProofs [g1, g2, g6, g7]
          rw [IntWalk.i64_in ((i : Int) + 1) (by omega)]
          exact ⟨next (by simp [badW, hd]) hb, le_of (by simp [g1, g2, g6, g7]; simp [dslot] at gd ⊢; exact gd.symm)⟩
        · rintro hex env' g4 g5 gd
          simp -implicitDefEqProofs
          exact retE (by simp [deferred, gd]) (by simp [evalRes, evalRes1, g4, g5]; rfl) (by simp [isV, isF_false hi (.inr hex)]) rfl
    simp -implicitDefEqProofs [lp0_ref35_Is, hlt, p1, p4, p6]
    refine isB S c p i _ _ _ hn h1 hi (by simp) (by simp) (by simp) (by simp) (by simp) (by simp [dslot]) ?_ ?_
    · intro hb env' g1 g2 g6 g7 gd
      simp at g1 g2 g6 g7
      simp -implicitDefEqProofs [g1, g2, g6, g7]
      rw [IntWalk.i64_in ((i : Int) + 1) (by omega)]
      exact ⟨next (by simp [badW, p1, p4, p6]) hb, le_of (by simp [g1, g2, g6, g7]; simp [dslot] at gd ⊢; exact gd.symm)⟩
    · rintro hex env' g4 g5 gd
      simp -implicitDefEqProofs
      exact retE (by simp [deferred, gd]) (by simp [evalRes, evalRes1, g4, g5]; rfl) (by simp [isV, isF_false hi (.inr hex)]) rfl
  · intro hz
    simp -implicitDefEqProofs [lp0_ref35_Is]
    exact retE (by simp [deferred, dslot]) rfl (by simp [isV, isF_true hz]) rfl
end Go.Apx
