/- Walks: the laws' helpers of layer 35. -/
import Derived.Test.YtbijnfhclfimeaaDoorR5
namespace Go.Apx
open Go.Proofs
set_option linter.unusedVariables false
set_option linter.unusedSimpArgs false
set_option linter.unnecessarySimpa false
set_option maxRecDepth 4000

/-! ## Nodes -/
mutual
def cntR : Tr → Int → Int
  | .node _ ks _, most => cntRL ks most 1
def cntRL : List Tr → Int → Int → Int
  | [], _, n => n
  | k :: r, most, n => if n ≤ most then cntRL r most (n + cntR k (most - n)) else n
end
theorem cntR_eq (t : Tr) (most : Int) : cntR t most = cntRL t.kids most 1 := by cases t; rfl
def CntOk (res n most : Int) (k : Nat) : Prop := n ≤ res ∧ res ≤ n + k ∧ (n + k ≤ most → res = n + k) ∧ (most < n + k → most < res)
mutual
theorem cntR_ok : ∀ (t : Tr) (most : Int), 0 ≤ most → CntOk (cntR t most) 0 most t.nodes ∧ 1 ≤ cntR t most
  | .node _ ks _, most, h => by
    have := cntRL_ok ks most 1
    simp only [CntOk, cntR, Tr.nodes] at this ⊢
    omega
theorem cntRL_ok : ∀ (l : List Tr) (most n : Int), CntOk (cntRL l most n) n most (Tr.nodesL l)
  | [], most, n => by simp only [CntOk, cntRL, Tr.nodesL]; omega
  | k :: r, most, n => by
    simp only [CntOk, cntRL, Tr.nodesL]
    split
    · rename_i h
      have h1 := cntR_ok k (most - n) (by omega)
      have h2 := cntRL_ok r most (n + cntR k (most - n))
      simp only [CntOk] at h1 h2
      omega
    · have := Tr.nodes_pos k
      omega
end
theorem Nodes_c (t : Tr) (most : Int) {h : AHeap} (hn : t.nodes ≤ 2 ^ 40) (hm : 0 ≤ most) (hm' : most ≤ 2 ^ 41) : AEx PP Gl 10 [encT t, .sc (.int .i64 most)] h (.ret (i64 (cntR t most))) h := by
  have hne := Tr.nodes_eq t
  have hlen := Tr.length_le t.kids
  refine enter_law17_Nodes (by simp) ?_
  simp [code_law17_Nodes, res_law17_Nodes, ann_law17_Nodes, encT_eq t]
  refine AWp.till (S := Nat × Int) (0, 1) (fun s => t.kids.length - s.1) [1, 2] (fun s => [(5, i64 s.2), (6, i64 s.1)]) (fun _ => h)
    (fun s => s.1 ≤ t.kids.length ∧ cntR t most = cntRL (t.kids.drop s.1) most s.2 ∧ 1 ≤ s.2 ∧ s.2 ≤ 1 + Tr.nodesL (t.kids.take s.1)) mixed ⟨Nat.zero_le _, by rw [cntR_eq]; rfl, by simp, by simp [Tr.nodesL]⟩ (le_of (by simp [dslot])) rfl ?_
  rintro ⟨i, n⟩ ⟨hi, hz, h1, h2⟩
  simp only at hi hz h1 h2
  have hnt := Tr.nodesL_take t.kids i
  by_cases hlt : i < t.kids.length
  · obtain ⟨k, hki⟩ : ∃ k, t.kids[i]? = some k := ⟨t.kids[i], by simp [hlt]⟩
    have hlt' : (i : Int) < t.kids.length := by omega
    have hne0 : t.kids ≠ [] := by intro e; rw [e] at hlt; simp at hlt
    rw [drop_get hki] at hz
    simp only [cntRL] at hz
    by_cases hb : n ≤ most
    · rw [if_pos hb] at hz
      have g1 := Tr.nodes_get hki
      have g2 := Tr.nodesL_take t.kids (i + 1)
      have g3 := cntR_ok k (most - n) (by omega)
      simp only [CntOk] at g3
      simp [lp0_law17_Nodes, hlt', hb, hki, encT_eq k]
      rw [IntWalk.i64_in (most - n) (by omega)]
      refine callk (Nodes_c k (most - n) (by omega) (by omega) (by omega)) (by simp [encT_eq k]) rfl ?_
      simp
      rw [IntWalk.i64_in (n + cntR k (most - n)) (by omega), IntWalk.i64_in ((i : Int) + 1) (by omega)]
      exact ⟨i + 1, by omega, n + cntR k (most - n), ⟨by omega, hz, by omega, by omega⟩, le_of (by simp [dslot])⟩
    · rw [if_neg hb] at hz
      simp [lp0_law17_Nodes, hlt', hb]
      exact retE (by simp [deferred, dslot]) rfl (by rw [hz]) rfl
  · have hiN : i = t.kids.length := by omega
    subst hiN
    have hz' : cntR t most = n := by rw [hz]; simp [cntRL]
    simp [lp0_law17_Nodes]
    exact retE (by simp [deferred, dslot]) rfl (by rw [hz']) rfl
termination_by SizeOf.sizeOf t
decreasing_by exact Tr.sizeOf_kids hki
theorem cntR_le (t : Tr) (most : Nat) : most < cntR t most ↔ most < t.nodes := by
  have := cntR_ok t most (by omega)
  simp only [CntOk] at this
  omega

/-! ## copies -/
theorem few_c (S : List U) (c : Cap) (l : List Role) (cl : Cap) {h : AHeap} : AEx PP Gl 9 [.agg [.sl 1 (S.map u64) c], .sl 2 (l.map encRole) cl] h (.ret (bool (decide (S.length ≤ 80) && decide (l.length ≤ 30)))) h := by
  refine enter_law35_few (by simp) ?_
  by_cases h1 : S.length ≤ 80
  · have h1' : (S.length : Int) ≤ 80 := by omega
    have h2' : decide ((l.length : Int) ≤ 30) = decide (l.length ≤ 30) := by rw [Bool.eq_iff_iff]; simp; omega
    simp [code_law35_few, res_law35_few, ann_law35_few, h1']
    exact retE (by simp [deferred, dslot]) rfl (by simp [h1, h2']) rfl
  · have h1' : ¬ (S.length : Int) ≤ 80 := by omega
    simp [code_law35_few, res_law35_few, ann_law35_few, h1']
    exact retE (by simp [deferred, dslot]) rfl (by simp [h1]) rfl

theorem Frame_c (es : List AV) (c : Cap) {h : AHeap} : AEx PP Gl 14 [.agg [.sl 1 es c]] h (.ret (.agg [.sl 1 es c])) h := by
  refine enter_law35_Frame (by simp) ?_
  simp [code_law35_Frame, res_law35_Frame, ann_law35_Frame]
  exact retE (by simp [deferred, dslot]) rfl rfl rfl

theorem encRole_strip (r : Role) : (encRole r).strip = encRole r := rfl
theorem encRole_inb (r : Role) (n : Nat) : (encRole r).inb n = true := rfl
theorem Roles_c (l : List Role) (c : Cap) {h : AHeap} (hl : l.length < 2 ^ 31) : AEx PP Gl 15 [.sl 2 (l.map encRole) c] h (.ret (grown 2 (l.map encRole))) h := by
  refine enter_law35_Roles (by simp) ?_
  simp [code_law35_Roles, res_law35_Roles, ann_law35_Roles]
  obtain ⟨A, hA⟩ : ∃ A : Nat → List AV, ∀ i, A i = (l.take i).map encRole := ⟨_, fun _ => rfl⟩
  have hA0 : A 0 = [] := by simp [hA]
  have hAn : A l.length = l.map encRole := by simp [hA]
  refine AWp.cnt l.length [0] (fun i => [(3, apd 2 (A i) h.length), (4, i64 i)]) (fun i => h ++ apdH (A i).length) (fun _ => True) mixed trivial (le_of (by simp [dslot, hA0, apd])) (by simp [hA0]) ?_ ?_
  · intro i hi _
    obtain ⟨r, hr⟩ : ∃ r, l[i]? = some r := ⟨l[i], by simp [hi]⟩
    have hlt : (i : Int) < l.length := by omega
    have enc : encRole r = .agg [.sc (.string r.label), .sc (.int .i64 r.m)] := rfl
    have hAs : A (i + 1) = A i ++ [encRole r] := by simp [hA, take_succ_of hr]
    have hAl : (A i).length = i := by rw [hA]; simp; omega
    simp [lp0_law35_Roles, hlt, hr, enc]
    refine appk (A i) (encRole r) h (by simp) (by simp [enc]) (by simp) (len_tok (by omega)) ?_
    simp
    rw [IntWalk.i64_in ((i : Int) + 1) (by omega)]
    exact ⟨le_of (by simp [dslot, hAs]), by simp [hAs]⟩
  · intro _
    simp [lp0_law35_Roles, hAn]
    refine retD (v := apd 2 (l.map encRole) h.length) (by simp [deferred, dslot]) (by simp [evalRes, evalRes1]) ?_ ?_ rfl
    · simp [apd, AV.strip, AV.inb, stripL_enc _ encRole_strip, inbL_enc _ _ (fun a => encRole_inb a _)]; split <;> rfl
    · simp [apd, grown, AV.strip, stripL_enc _ encRole_strip]; split <;> rfl

theorem modelsC_c (l : Model) (k : Nat) (c : Cap) (hk : l = [] ∨ k = 2) {h : AHeap} (hl : l.length < 2 ^ 31) : AEx PP Gl 17 [.sl k (l.map encM) c] h (.ret (grown 2 (l.map encM))) h := by
  refine enter_law35_models (by simp) ?_
  simp [code_law35_models, res_law35_models, ann_law35_models]
  obtain ⟨A, hA⟩ : ∃ A : Nat → List AV, ∀ i, A i = (l.take i).map encM := ⟨_, fun _ => rfl⟩
  have hA0 : A 0 = [] := by simp [hA]
  have hAn : A l.length = l.map encM := by simp [hA]
  refine AWp.cnt l.length [0] (fun i => [(3, apd 2 (A i) h.length), (4, i64 i)]) (fun i => h ++ apdH (A i).length) (fun _ => True) mixed trivial (le_of (by simp [dslot, hA0, apd])) (by simp [hA0]) ?_ ?_
  · intro i hi _
    obtain ⟨r, hr⟩ : ∃ r, l[i]? = some r := ⟨l[i], by simp [hi]⟩
    have hlt : (i : Int) < l.length := by omega
    have hk2 : k = 2 := by rcases hk with h | h; subst h; simp at hi; exact h
    have enc : encM r = .agg [.sc (.string r.1), .sc (v64 r.2)] := rfl
    have hAs : A (i + 1) = A i ++ [encM r] := by simp [hA, take_succ_of hr]
    have hAl : (A i).length = i := by rw [hA]; simp; omega
    simp [lp0_law35_models, hlt, hr, enc, hk2]
    refine appk (A i) (encM r) h (by simp) (by simp [enc]) (by simp) (len_tok (by omega)) ?_
    simp
    rw [IntWalk.i64_in ((i : Int) + 1) (by omega)]
    exact ⟨le_of (by simp [dslot, hAs]), by simp [hAs]⟩
  · intro _
    simp [lp0_law35_models, hAn]
    refine retD (v := apd 2 (l.map encM) h.length) (by simp [deferred, dslot]) (by simp [evalRes, evalRes1]) ?_ ?_ rfl
    · rw [apd_strip]; exact grown_inb _ _
    · rw [apd_strip]

theorem sameModels_c (l : Model) (k k' : Nat) (c c' : Cap) (hk : l = [] ∨ k = 2) (hk' : l = [] ∨ k' = 2) {h : AHeap} (hl : l.length < 2 ^ 31) : AEx PP Gl 16 [.sl k (l.map encM) c, .sl k' (l.map encM) c'] h (.ret (bool true)) h := by
  refine enter_law35_sameModels (by simp) ?_
  simp [code_law35_sameModels, res_law35_sameModels, ann_law35_sameModels]
  refine AWp.cnt l.length [0, 1] (fun i => [(5, i64 i)]) (fun _ => h) (fun _ => True) mixed trivial (le_of (by simp [dslot])) rfl ?_ ?_
  · intro i hi _
    obtain ⟨r, hr⟩ : ∃ r, l[i]? = some r := ⟨l[i], by simp [hi]⟩
    have hlt : (i : Int) < l.length := by omega
    have hk2 : k = 2 := by rcases hk with h | h; subst h; simp at hi; exact h
    have hk3 : k' = 2 := by rcases hk' with h | h; subst h; simp at hi; exact h
    have enc : encM r = .agg [.sc (.string r.1), .sc (v64 r.2)] := rfl
    have hce : cellEq 0 (.sc (v64 r.2)) (.sc (v64 r.2)) = some true := by simp [v64]
    simp [lp0_law35_sameModels, hlt, hr, enc, hk2, hk3, hce]
    rw [IntWalk.i64_in ((i : Int) + 1) (by omega)]
    exact le_of (by simp [dslot])
  · intro _
    simp [lp0_law35_sameModels]
    exact retE (by simp [deferred, dslot]) rfl rfl rfl
end Go.Apx
