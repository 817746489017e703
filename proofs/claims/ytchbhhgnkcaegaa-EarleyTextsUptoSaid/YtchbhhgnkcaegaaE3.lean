/- Walks: the reference's size, nodes, what is small, parts. -/
import Derived.Test.YtchbhhgnkcaegaaE2
namespace Go.Apx
open Go.Proofs
set_option linter.unusedVariables false
set_option linter.unusedSimpArgs false
set_option linter.unnecessarySimpa false
set_option maxRecDepth 4000

theorem nodesL_take_le : ∀ (l : List Tr) (j : Nat), Tr.nodesL (l.take j) ≤ Tr.nodesL l
  | [], j => by simp
  | x :: l, 0 => by simp [Tr.nodesL]
  | x :: l, j + 1 => by have := nodesL_take_le l j; simp [Tr.nodesL]; omega

theorem rsize_c (t : Tr) (lv : Int) (hn : t.nodes ≤ 2 ^ 31) (h0 : 0 ≤ lv) (h1 : lv + t.nodes ≤ 2 ^ 40) {h : AHeap} : AEx PP Gl 21 [encT t, i64 lv] h (.ret (.tup [i64 (szF t lv).1, i64 (szF t lv).2])) h := by
  refine enter_ref14_size (by simp) ?_
  simp [code_ref14_size, res_ref14_size, ann_ref14_size, encT_eq t]
  have hnn := Tr.nodes_eq t
  have hlen := Tr.length_le t.kids
  refine AWp.cnt t.kids.length [1, 2] (fun i => [(6, i64 (szL (t.kids.take i) lv 1 lv).1), (7, i64 (szL (t.kids.take i) lv 1 lv).2), (8, i64 i)]) (fun _ => h) (fun i => True) mixed trivial (le_of (by simp [dslot, szL])) rfl ?_ ?_
  · intro i hi _
    obtain ⟨k, hki⟩ : ∃ k, t.kids[i]? = some k := ⟨t.kids[i], by simp [hi]⟩
    have hmem := List.mem_of_getElem? hki
    have hlt : (i : Int) < t.kids.length := by omega
    have hne : t.kids ≠ [] := by intro e; rw [e] at hi; simp at hi
    have hkn := Tr.nodesL_mem hmem
    have hb := szL_le (t.kids.take i) lv 1 lv (by omega)
    have hb2 := szL_le (t.kids.take (i + 1)) lv 1 lv (by omega)
    have ht1 := nodesL_take_le t.kids i
    have ht2 := nodesL_take_le t.kids (i + 1)
    have hsk := szF_le k (lv + 1)
    simp [lp0_ref14_size, hlt, hki, encT_eq k]
    refine ⟨fun hsm => ?_, fun hbig => ?_⟩
    · rw [IntWalk.i64_in (lv + 1) (by omega)]
      refine callk (rsize_c k (lv + 1) (by omega) (by omega) (by omega)) (by simp [encT_eq k]) rfl ?_
      simp
      have hst := szL_take (lv := lv) (n := 1) (d := lv) hki
      rw [if_neg (by omega)] at hst
      rw [hst] at hb2
      simp only at hb2
      rw [IntWalk.i64_in ((i : Int) + 1) (by omega), IntWalk.i64_in ((szL (t.kids.take i) lv 1 lv).1 + (szF k (lv + 1)).1) (by omega)]
      exact le_of (by simp [dslot, hst, mxI])
    · refine retE (by simp [deferred, dslot]) rfl ?_ rfl
      rw [szF_eq, szL_stop (l := t.kids) (i := i) (by omega)]
  · intro _
    simp [lp0_ref14_size]
    exact retE (by simp [deferred, dslot]) rfl (by rw [szF_eq]) rfl
termination_by t.nodes
decreasing_by
  have := Tr.nodesL_mem (List.mem_of_getElem? (by assumption : t.kids[i]? = some k))
  have := Tr.nodes_eq t
  omega

/-! ## nodes, as far as a bound -/
mutual
def ndF : Tr → Int → Int
  | .node _ ks _, most => ndL ks most 1
def ndL : List Tr → Int → Int → Int
  | [], _, n => n
  | t :: r, most, n => if n ≤ most then ndL r most (n + ndF t (most - n)) else n
end
theorem ndF_eq (t : Tr) (most : Int) : ndF t most = ndL t.kids most 1 := by cases t; rfl
theorem ndL_big {l : List Tr} {most n : Int} (h : ¬ n ≤ most) : ndL l most n = n := by cases l <;> simp [ndL, h]
theorem ndL_append (a b : List Tr) (most n : Int) : ndL (a ++ b) most n = ndL b most (ndL a most n) := by
  induction a generalizing n with
  | nil => rfl
  | cons t r ih =>
    simp only [List.cons_append, ndL]
    split
    · exact ih _
    · rename_i h; rw [ndL_big h]
mutual
theorem ndF_le : ∀ (t : Tr) (most : Int), 1 ≤ ndF t most ∧ ndF t most ≤ t.nodes
  | .node l ks c, most => by
    have := ndL_le ks most 1
    simp only [ndF, Tr.nodes]
    omega
theorem ndL_le : ∀ (l : List Tr) (most n : Int), n ≤ ndL l most n ∧ ndL l most n ≤ n + Tr.nodesL l
  | [], most, n => by simp only [ndL, Tr.nodesL]; omega
  | t :: r, most, n => by
    simp only [ndL, Tr.nodesL]
    split
    · have h1 := ndF_le t (most - n)
      have h2 := ndL_le r most (n + ndF t (most - n))
      omega
    · omega
end
mutual
/-- What is within the bound is the number of nodes. -/
theorem ndF_exact : ∀ (t : Tr) (most : Int), ndF t most ≤ most → ndF t most = t.nodes
  | .node l ks c, most, h => by
    simp only [ndF, Tr.nodes] at h ⊢
    rw [ndL_exact ks most 1 h]
    omega
theorem ndL_exact : ∀ (l : List Tr) (most n : Int), ndL l most n ≤ most → ndL l most n = n + Tr.nodesL l
  | [], most, n, h => by simp [ndL, Tr.nodesL]
  | t :: r, most, n, h => by
    simp only [ndL] at h ⊢
    split at h
    · rename_i hn
      rw [if_pos hn]
      have h2 := (ndL_le r most (n + ndF t (most - n))).1
      have h1 := ndF_exact t (most - n) (by omega)
      rw [ndL_exact r most _ h, h1]
      simp only [Tr.nodesL]
      omega
    · rename_i hn; exact (hn h).elim
end
theorem ndL_take {l : List Tr} {most n : Int} {i : Nat} {t : Tr} (hi : l[i]? = some t) : ndL (l.take (i + 1)) most n = if ndL (l.take i) most n ≤ most then ndL (l.take i) most n + ndF t (most - ndL (l.take i) most n) else ndL (l.take i) most n := by
  rw [List.take_add_one, hi, ndL_append]
  simp [ndL]
theorem ndL_stop {l : List Tr} {most n : Int} {i : Nat} (h : ¬ ndL (l.take i) most n ≤ most) : ndL l most n = ndL (l.take i) most n := by
  conv => lhs; rw [← List.take_append_drop i l, ndL_append, ndL_big h]

theorem nodes_c (t : Tr) (most : Int) (hn : t.nodes ≤ 2 ^ 31) (h0 : -1 ≤ most) (h1 : most ≤ 2 ^ 31) {h : AHeap} : AEx PP Gl 4 [encT t, i64 most] h (.ret (i64 (ndF t most))) h := by
  refine enter_law14_nodes (by simp) ?_
  simp [code_law14_nodes, res_law14_nodes, ann_law14_nodes, encT_eq t]
  have hnn := Tr.nodes_eq t
  have hlen := Tr.length_le t.kids
  refine AWp.cnt t.kids.length [1, 2] (fun i => [(5, i64 (ndL (t.kids.take i) most 1)), (6, i64 i)]) (fun _ => h) (fun i => True) mixed trivial (le_of (by simp [dslot, ndL])) rfl ?_ ?_
  · intro i hi _
    obtain ⟨k, hki⟩ : ∃ k, t.kids[i]? = some k := ⟨t.kids[i], by simp [hi]⟩
    have hmem := List.mem_of_getElem? hki
    have hlt : (i : Int) < t.kids.length := by omega
    have hne : t.kids ≠ [] := by intro e; rw [e] at hi; simp at hi
    have hkn := Tr.nodesL_mem hmem
    have hb := ndL_le (t.kids.take i) most 1
    have hb2 := ndL_le (t.kids.take (i + 1)) most 1
    have ht1 := nodesL_take_le t.kids i
    have ht2 := nodesL_take_le t.kids (i + 1)
    simp [lp0_law14_nodes, hlt, hki, encT_eq k]
    refine ⟨fun hsm => ?_, fun hbig => ?_⟩
    · rw [IntWalk.i64_in (most - ndL (t.kids.take i) most 1) (by omega)]
      refine callk (nodes_c k (most - ndL (t.kids.take i) most 1) (by omega) (by omega) (by omega)) (by simp [encT_eq k]) rfl ?_
      simp
      have hst := ndL_take (most := most) (n := 1) hki
      rw [if_pos (by omega)] at hst
      rw [hst] at hb2
      rw [IntWalk.i64_in ((i : Int) + 1) (by omega), IntWalk.i64_in (ndL (t.kids.take i) most 1 + ndF k (most - ndL (t.kids.take i) most 1)) (by omega)]
      exact le_of (by simp [dslot, hst])
    · refine retE (by simp [deferred, dslot]) rfl ?_ rfl
      rw [ndF_eq, ndL_stop (l := t.kids) (i := i) (by omega)]
  · intro _
    simp [lp0_law14_nodes]
    exact retE (by simp [deferred, dslot]) rfl (by rw [ndF_eq]) rfl
termination_by t.nodes
decreasing_by
  have := Tr.nodesL_mem (List.mem_of_getElem? (by assumption : t.kids[i]? = some k))
  have := Tr.nodes_eq t
  omega

/-! ## what is small -/
def badR (parts : Int) (r : Rl) : Bool := (decide ((r.parts.length : Int) > parts) && decide ((r.parts.length : Int) ≤ 200)) || decide ((r.parts.length : Int) > 210)
def smallF (g : Gr) (rules parts : Int) : Bool :=
  if g.sorts.length > 40 ∨ g.rules.length > 620 then false else if g.sorts.length > 32 ∨ g.rules.length > 600 then true else
    g.rules.all (fun r => !badR parts r) && decide ((g.rules.length : Int) ≤ rules) && decide (g.sorts.length ≤ 8)

theorem small_c (g : Gr) (rules parts : Int) (hs : g.sorts.length ≤ 2 ^ 31) (hr : g.rules.length ≤ 2 ^ 31) {h : AHeap} : AEx PP Gl 5 [encG g, i64 rules, i64 parts] h (.ret (.sc (.bool (smallF g rules parts)))) h := by
  refine enter_law13_Small (by simp) ?_
  by_cases c1 : (40 : Int) < g.sorts.length
  · simp -implicitDefEqProofs [code_law13_Small, res_law13_Small, ann_law13_Small, encG, c1]
    exact retE (by simp [deferred, dslot]) rfl (by simp [smallF]; omega) rfl
  by_cases c2 : (620 : Int) < g.rules.length
  · simp -implicitDefEqProofs [code_law13_Small, res_law13_Small, ann_law13_Small, encG, c1, c2]
    exact retE (by simp [deferred, dslot]) rfl (by simp [smallF]; omega) rfl
  by_cases c3 : (32 : Int) < g.sorts.length
  · simp -implicitDefEqProofs [code_law13_Small, res_law13_Small, ann_law13_Small, encG, c1, c2, c3]
    exact retE (by simp [deferred, dslot]) rfl (by
      unfold smallF
      rw [if_neg (by omega), if_pos (by omega)]) rfl
  by_cases c4 : (600 : Int) < g.rules.length
  · simp -implicitDefEqProofs [code_law13_Small, res_law13_Small, ann_law13_Small, encG, c1, c2, c3, c4]
    exact retE (by simp [deferred, dslot]) rfl (by
      unfold smallF
      rw [if_neg (by omega), if_pos (by omega)]) rfl
  have hsm : smallF g rules parts = (g.rules.all (fun r => !badR parts r) && decide ((g.rules.length : Int) ≤ rules) && decide (g.sorts.length ≤ 8)) := by
    unfold smallF
    rw [if_neg (by omega), if_neg (by omega)]
  simp -implicitDefEqProofs [code_law13_Small, res_law13_Small, ann_law13_Small, encG, c1, c2, c3, c4]
  refine AWp.cnt g.rules.length [1, 2, 3] (fun i => [(7, i64 i)]) (fun _ => h) (fun i => ∀ y ∈ g.rules.take i, badR parts y = false) mixed (by simp) (le_of (by simp [dslot])) rfl ?_ ?_
  · intro i hi hz
    obtain ⟨k, hki⟩ : ∃ k, g.rules[i]? = some k := ⟨g.rules[i], by simp [hi]⟩
    have hlt : (i : Int) < g.rules.length := by omega
    have hne : g.rules ≠ [] := by intro e; rw [e] at hi; simp at hi
    have hbad : badR parts k = true → smallF g rules parts = false := fun hb => by
      rw [hsm]
      have : g.rules.all (fun r => !badR parts r) = false := by
        rw [List.all_eq_false]
        exact ⟨k, List.mem_of_getElem? hki, by simp [hb]⟩
      simp [this]
    have hgo : badR parts k = false → ∀ y ∈ g.rules.take (i + 1), badR parts y = false := fun hb => take_ext hki (q := fun y => badR parts y = false) hz hb
    by_cases b1 : parts < (k.parts.length : Int)
    · by_cases b2 : (k.parts.length : Int) ≤ 200
      · simp -implicitDefEqProofs [lp0_law13_Small, hlt, hki, encR, b1, b2]
        exact retE (by simp [deferred, dslot]) rfl (by rw [hbad (by simp [badR, b1, b2])]) rfl
      · by_cases b3 : (210 : Int) < k.parts.length
        · simp -implicitDefEqProofs [lp0_law13_Small, hlt, hki, encR, b1, b2, b3]
          exact retE (by simp [deferred, dslot]) rfl (by rw [hbad (by simp [badR]; omega)]) rfl
        · simp -implicitDefEqProofs [lp0_law13_Small, hlt, hki, encR, b1, b2, b3]
          rw [IntWalk.i64_in ((i : Int) + 1) (by omega)]
          exact ⟨by simpa using hgo (by simp [badR]; omega), le_of (by simp [dslot])⟩
    · by_cases b3 : (210 : Int) < k.parts.length
      · simp -implicitDefEqProofs [lp0_law13_Small, hlt, hki, encR, b1, b3]
        exact retE (by simp [deferred, dslot]) rfl (by rw [hbad (by simp [badR]; omega)]) rfl
      · simp -implicitDefEqProofs [lp0_law13_Small, hlt, hki, encR, b1, b3]
        rw [IntWalk.i64_in ((i : Int) + 1) (by omega)]
        exact ⟨by simpa using hgo (by simp [badR]; omega), le_of (by simp [dslot])⟩
  · intro hz
    have hall : g.rules.all (fun r => !badR parts r) = true := by
      rw [List.all_eq_true]
      intro y hy
      simp [take_all hz y hy]
    simp -implicitDefEqProofs [lp0_law13_Small]
    by_cases d1 : (g.rules.length : Int) ≤ rules
    · simp [d1]
      exact retE (by simp [deferred, dslot]) rfl (by rw [hsm, hall]; simp [d1]; omega) rfl
    · simp [d1]
      exact retE (by simp [deferred, dslot]) rfl (by rw [hsm, hall]; simp [d1]) rfl

/-! ## parts -/
def partF (g : Gr) (p : Pt) : Bool := if p.sort = ⟨#[]⟩ then okName p.sym && decide (p.arg = 0) else decide (p.sym = ⟨#[]⟩) && hasF g.sorts p.sort
theorem part_c (g : Gr) (p : Pt) (hs : g.sorts.length ≤ 2 ^ 31) {h : AHeap} : AEx PP Gl 60 [encP p, encG g] h (.ret (.sc (.bool (partF g p)))) h := by
  refine enter_grammar_Part_valid (by simp) ?_
  simp [code_grammar_Part_valid, res_grammar_Part_valid, ann_grammar_Part_valid, encP, encG]
  refine ⟨fun he => ?_, fun he => ?_⟩
  · refine callk (name_c p.sym) rfl rfl ?_
    generalize hb : okName p.sym = b
    cases b <;> simp
    · exact retE (by simp [deferred, dslot]) rfl (by simp [partF, he, hb]) rfl
    · exact retE (by simp [deferred, dslot]) rfl (by simp [partF, he, hb]) rfl
  · by_cases hy : p.sym = ⟨#[]⟩
    · simp [hy]
      refine callk (contains_c g.sorts g.sc p.sort hs) rfl rfl ?_
      simp
      exact retE (by simp [deferred, dslot]) rfl (by simp [partF, he, hy]) rfl
    · simp [hy]
      exact retE (by simp [deferred, dslot]) rfl (by simp [partF, he, hy]) rfl
theorem rpart_c (g : Gr) (p : Pt) (hs : g.sorts.length ≤ 2 ^ 31) {h : AHeap} : AEx PP Gl 48 [encG g, encP p] h (.ret (.sc (.bool (partF g p)))) h := by
  refine enter_ref13_partOK (by simp) ?_
  simp [code_ref13_partOK, res_ref13_partOK, ann_ref13_partOK, encP, encG]
  refine ⟨fun he => ?_, fun he => ?_⟩
  · refine callk (rname_c p.sym) rfl rfl ?_
    generalize hb : okName p.sym = b
    cases b <;> simp
    · exact retE (by simp [deferred, dslot]) rfl (by simp [partF, he, hb]) rfl
    · exact retE (by simp [deferred, dslot]) rfl (by simp [partF, he, hb]) rfl
  · by_cases hy : p.sym = ⟨#[]⟩
    · simp [hy]
      refine callk (rindex_c g.sorts g.sc p.sort hs) rfl rfl ?_
      simp
      exact retE (by simp [deferred, dslot]) rfl (by simp [partF, he, hy, hasF]) rfl
    · simp [hy]
      exact retE (by simp [deferred, dslot]) rfl (by simp [partF, he, hy]) rfl
end Go.Apx
