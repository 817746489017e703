/- Walks: the reference: properties of frames. -/
import Derived.Test.YtbijnfhclfimeaaDoorF2
namespace Go.Apx
open Go.Proofs
set_option linter.unusedVariables false
set_option linter.unusedSimpArgs false
set_option linter.unnecessarySimpa false
set_option maxRecDepth 4000

theorem seesR_c (S : List U) (c : Cap) (a b : Nat) {h : AHeap} (hS : S.length < 2 ^ 40) (ha : a < S.length) (hb : b < S.length) : AEx PP Gl 50 [.agg [.sl 1 (S.map u64) c], .sc (.int .i64 a), .sc (.int .i64 b)] h (.ret (bool (seesF S a b))) h := by
  obtain ⟨s, hs⟩ : ∃ s, S[a]? = some s := ⟨S[a], by simp [ha]⟩
  have him : b % 18446744073709551616 = b := by omega
  refine enter_ref35_sees (by simp) ?_
  simp -implicitDefEqProofs [code_ref35_sees, res_ref35_sees, ann_ref35_sees, hs]
  exact retE (by simp [deferred, dslot]) rfl (by simp [seesF, hs, bit, him]) rfl

theorem reachR_c (S : List U) (c : Cap) (w : Nat) {h : AHeap} (hS : right1 S) (hn : S.length ≤ 6) (hw : w < S.length) : AEx PP Gl 51 [.agg [.sl 1 (S.map u64) c], .sc (.int .i64 w)] h (.ret (u64 (reachF S (1#64 <<< w)))) h := by
  obtain ⟨t, ht⟩ : ∃ s, S[w]? = some s := ⟨S[w], by simp [hw]⟩
  have hb := reach_both hS hn hw
  rw [getD_of ht] at hb
  refine enter_ref35_reach (by simp) ?_
  simp -implicitDefEqProofs [code_ref35_reach, res_ref35_reach, ann_ref35_reach, ht]
  refine AWp.cnt S.length [2] (fun i => [(5, u64 (passN S t i)), (6, i64 i)]) (fun _ => h) (fun _ => True) mixed trivial (le_of (by simp [dslot, passN])) rfl ?_ ?_
  · intro i hi _
    have hlt : (i : Int) < S.length := by omega
    simp -implicitDefEqProofs [lp0_ref35_reach, hlt]
    refine AWp.cnt S.length [2, 6] (fun j => [(5, u64 (passF (S.take j) 0 (passN S t i))), (7, i64 j)]) (fun _ => h) (fun _ => True) mixed trivial (le_of (by simp [dslot, passF])) rfl ?_ ?_
    · intro j hj _
      obtain ⟨s, hs⟩ : ∃ s, S[j]? = some s := ⟨S[j], by simp [hj]⟩
      have hltj : (j : Int) < S.length := by omega
      have him : j % 18446744073709551616 = j := by omega
      have hg := passF_get (passN S t i) hs
      simp -implicitDefEqProofs [lp1_ref35_reach, hltj, hs, him]
      rw [IntWalk.i64_in ((j : Int) + 1) (by omega)]
      refine ⟨fun hb => le_of ?_, fun hb => le_of ?_⟩
      · rw [if_pos (by simpa [bit] using hb)] at hg
        simp [dslot, hg]
      · rw [if_neg (by simpa [bit] using hb)] at hg
        simp [dslot, hg]
    · intro _
      simp -implicitDefEqProofs [lp1_ref35_reach]
      rw [IntWalk.i64_in ((i : Int) + 1) (by omega)]
      exact le_of (by simp [dslot, passN])
  · intro _
    simp -implicitDefEqProofs [lp0_ref35_reach]
    exact retE (by simp [deferred, dslot]) rfl (by rw [← hb]) rfl

def tri (S : List U) (p : Int) (a b c : Nat) : Bool := (decide (p = 2) && seesF S a b && seesF S b c && !seesF S a c) || (decide (p = 5) && seesF S a b && seesF S a c && !seesF S b c)
theorem andNot_iff {S : List U} (h1 : right1 S) {x y : Nat} (hx : x < S.length) : S.getD x 0#64 &&& ~~~ S.getD y 0#64 = 0#64 ↔ ∀ c, c < S.length → seesF S x c = true → seesF S y c = true := by
  obtain ⟨s, hs⟩ : ∃ s, S[x]? = some s := ⟨S[x], by simp [hx]⟩
  unfold seesF
  constructor
  · intro h c _ hc
    have := congrArg (fun z : U => z.getLsbD c) h
    rw [bit_eq] at hc ⊢
    simp only [BitVec.getLsbD_and, BitVec.getLsbD_not, hc] at this
    have hlt : c < 64 := by
      rcases Nat.lt_or_ge c 64 with h1 | h1
      · exact h1
      · rw [BitVec.getLsbD_of_ge _ _ h1] at hc; cases hc
    simpa [hlt] using this
  · intro h
    apply bits_ext
    intro i
    simp only [bit_zero, Bool.false_eq_true, iff_false]
    intro hi
    rw [bit_and, Bool.and_eq_true] at hi
    have hin : i < S.length := by rw [getD_of hs] at hi; exact bit_lt (h1 x s hs) hi.1
    have h3 := h i hin hi.1
    have h4 := hi.2
    rw [bit_eq, BitVec.getLsbD_not, ← bit_eq, h3] at h4
    simp at h4
theorem badV_none {S : List U} (h1 : right1 S) {p : Int} {a b : Nat} (ha : a < S.length) (hb : b < S.length) (h3 : p = 3 → seesF S a b = true → seesF S b a = true) (ht : ∀ c, c < S.length → tri S p a b c = false) : badV S p a b = false := by
  cases hs : seesF S a b with
  | false => simp [badV, hs]
  | true =>
    have h2 : p = 2 → S.getD b 0#64 &&& ~~~ S.getD a 0#64 = 0#64 := fun e => (andNot_iff h1 hb).2 fun c hc h => by
      have := ht c hc
      simp [tri, e, hs, h] at this
      exact this
    have h5 : p = 5 → S.getD a 0#64 &&& ~~~ S.getD b 0#64 = 0#64 := fun e => (andNot_iff h1 ha).2 fun c hc h => by
      have := ht c hc
      simp [tri, e, hs, h] at this
      exact this
    unfold badV
    rw [hs]
    by_cases p2 : p = 2
    · subst p2; rw [h2 rfl]; simp
    by_cases p3 : p = 3
    · subst p3; rw [h3 rfl hs]; simp
    by_cases p5 : p = 5
    · subst p5; rw [h5 rfl]; simp
    simp [p2, p3, p5]
theorem badV_tri {S : List U} (h1 : right1 S) {p : Int} {a b : Nat} (ha : a < S.length) (hb : b < S.length) (ht : ∃ c, c < S.length ∧ tri S p a b c = true) : badV S p a b = true := by
  obtain ⟨c, hc, ht⟩ := ht
  simp only [tri, Bool.or_eq_true, Bool.and_eq_true, decide_eq_true_eq, Bool.not_eq_true'] at ht
  rcases ht with ⟨⟨⟨rfl, h2⟩, h3⟩, h4⟩ | ⟨⟨⟨rfl, h2⟩, h3⟩, h4⟩
  · have : ¬ (S.getD b 0#64 &&& ~~~ S.getD a 0#64 = 0#64) := fun h => by
      rw [(andNot_iff h1 hb).1 h c hc h3] at h4; cases h4
    unfold badV; rw [h2, decide_eq_false this]; rfl
  · have : ¬ (S.getD a 0#64 &&& ~~~ S.getD b 0#64 = 0#64) := fun h => by
      rw [(andNot_iff h1 ha).1 h c hc h3] at h4; cases h4
    unfold badV; rw [h2, decide_eq_false this]; rfl

theorem isC (S : List U) (c : Cap) (p : Int) (a b : Nat) (env : Env) (Q : APost) {h : AHeap} (k : Nat) (hn : S.length ≤ 6) (ha : a < S.length) (hb : b < S.length)
    (e1 : env.get 1 = some (.sc (.int .i64 p))) (e2 : env.get 2 = some (.ip (.agg [.sl 1 (S.map u64) c]))) (e6 : env.get 6 = some (.sc (.int .i64 S.length))) (e7 : env.get 7 = some (i64 a)) (e8 : env.get 8 = some (i64 b)) (e9 : env.get 9 = some (i64 0)) (ed : env.get dslot = none)
    (hQ : (∀ v, v < S.length → tri S p a b v = false) → ∀ env', env'.get 1 = env.get 1 → env'.get 2 = env.get 2 → env'.get 6 = env.get 6 → env'.get 7 = env.get 7 → env'.get 8 = env.get 8 → env'.get dslot = none → Q (.exit 4) env' h)
    (hR : (∃ v, v < S.length ∧ tri S p a b v = true) → ∀ env', env'.get 4 = some (.sc (.bool false)) → env'.get 5 = some (.sc (.int .i64 0)) → env'.get dslot = none → Q .ret env' h) : AWp ⟨PP, Gl, 131, [2], k, none⟩ (.loop lp2_ref35_Is) Q env h := by
  refine AWp.cnt S.length [1, 2, 6, 7, 8] (fun i => [(9, i64 i)]) (fun _ => h) (fun i => ∀ v, v < i → tri S p a b v = false) mixed (by simp) (le_of (by simp [dslot, e1, e2, e6, e7, e8, e9]; exact ed.symm)) rfl ?_ ?_
  · intro i hi hz
    have hlt : (i : Int) < S.length := by omega
    have next : tri S p a b i = false → ∀ v, v < i + 1 → tri S p a b v = false := fun hb v hv => by
      by_cases hvi : v = i
      · subst hvi; exact hb
      · exact hz v (by omega)
    by_cases p2 : p = 2
    · subst p2
      simp -implicitDefEqProofs [lp2_ref35_Is, hlt, e1, e2, e6, e7, e8]
      refine callk (seesR_c S c a b (by omega) ha hb) (by simp) rfl ?_
      cases g1 : seesF S a b with
      | false =>
        simp -implicitDefEqProofs [e1, e2, e6, e7, e8]
        rw [IntWalk.i64_in ((i : Int) + 1) (by omega)]
        exact ⟨next (by simp [tri, ha, g1]), le_of (by simp [dslot, e1, e2, e6, e7, e8])⟩
      | true =>
        simp -implicitDefEqProofs [e1, e2, e6, e7, e8]
        refine callk (seesR_c S c b i (by omega) hb hi) (by simp) rfl ?_
        cases g2 : seesF S b i with
        | false =>
          simp -implicitDefEqProofs [e1, e2, e6, e7, e8]
          rw [IntWalk.i64_in ((i : Int) + 1) (by omega)]
          exact ⟨next (by simp [tri, ha, g1, g2]), le_of (by simp [dslot, e1, e2, e6, e7, e8])⟩
        | true =>
          simp -implicitDefEqProofs [e1, e2, e6, e7, e8]
          refine callk (seesR_c S c a i (by omega) ha hi) (by simp) rfl ?_
          cases g3 : seesF S a i with
          | true =>
            simp -implicitDefEqProofs [e1, e2, e6, e7, e8]
            rw [IntWalk.i64_in ((i : Int) + 1) (by omega)]
            exact ⟨next (by simp [tri, ha, g1, g2, g3]), le_of (by simp [dslot, e1, e2, e6, e7, e8])⟩
          | false =>
            simp -implicitDefEqProofs [e1, e2, e6, e7, e8]
            exact hR ⟨i, hi, by simp [tri, ha, g1, g2, g3]⟩ _ (by simp) (by simp) (by simp [dslot])
    by_cases p5 : p = 5
    · subst p5
      simp -implicitDefEqProofs [lp2_ref35_Is, hlt, e1, e2, e6, e7, e8]
      refine callk (seesR_c S c a b (by omega) ha hb) (by simp) rfl ?_
      cases g1 : seesF S a b with
      | false =>
        simp -implicitDefEqProofs [e1, e2, e6, e7, e8]
        rw [IntWalk.i64_in ((i : Int) + 1) (by omega)]
        exact ⟨next (by simp [tri, ha, g1]), le_of (by simp [dslot, e1, e2, e6, e7, e8])⟩
      | true =>
        simp -implicitDefEqProofs [e1, e2, e6, e7, e8]
        refine callk (seesR_c S c a i (by omega) ha hi) (by simp) rfl ?_
        cases g2 : seesF S a i with
        | false =>
          simp -implicitDefEqProofs [e1, e2, e6, e7, e8]
          rw [IntWalk.i64_in ((i : Int) + 1) (by omega)]
          exact ⟨next (by simp [tri, ha, g1, g2]), le_of (by simp [dslot, e1, e2, e6, e7, e8])⟩
        | true =>
          simp -implicitDefEqProofs [e1, e2, e6, e7, e8]
          refine callk (seesR_c S c b i (by omega) hb hi) (by simp) rfl ?_
          cases g3 : seesF S b i with
          | true =>
            simp -implicitDefEqProofs [e1, e2, e6, e7, e8]
            rw [IntWalk.i64_in ((i : Int) + 1) (by omega)]
            exact ⟨next (by simp [tri, ha, g1, g2, g3]), le_of (by simp [dslot, e1, e2, e6, e7, e8])⟩
          | false =>
            simp -implicitDefEqProofs [e1, e2, e6, e7, e8]
            exact hR ⟨i, hi, by simp [tri, ha, g1, g2, g3]⟩ _ (by simp) (by simp) (by simp [dslot])
    simp -implicitDefEqProofs [lp2_ref35_Is, hlt, e1, e2, e6, e7, e8, p2, p5]
    rw [IntWalk.i64_in ((i : Int) + 1) (by omega)]
    exact ⟨next (by simp [tri, p2, p5]), le_of (by simp [dslot, e1, e2, e6, e7, e8])⟩
  · intro hz
    simp -implicitDefEqProofs [lp2_ref35_Is, e1, e2, e6, e7, e8]
    exact hQ hz _ (by simp [e1]) (by simp [e2]) (by simp [e6]) (by simp [e7]) (by simp [e8]) (by simp [dslot])
end Go.Apx
