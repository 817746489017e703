/- Walk: a tree in place of a variable. -/
import Derived.Test.YtbijnfhclfimeaaDoorK4
namespace Go.Apx
open Go.Proofs
set_option linter.unusedVariables false
set_option linter.unusedSimpArgs false
set_option linter.unnecessarySimpa false
set_option maxRecDepth 4000

mutual
theorem encT_strip : ∀ t : Tr, t.ok = true → (encT t).strip = encT t
  | .node l ks c, h => by
    rw [Tr.ok, Bool.and_eq_true] at h
    have hc : c.strip = c := by cases c <;> first | rfl | (exfalso; have := h.1; simp [Cap.inb] at this)
    simp [encT, AV.strip, stripL, hc, encTs_strip ks h.2]
theorem encTs_strip : ∀ l : List Tr, Tr.okL l = true → stripL (encTs l) = encTs l
  | [], h => rfl
  | t :: r, h => by
    rw [Tr.okL, Bool.and_eq_true] at h
    simp [encTs, stripL, encT_strip t h.1, encTs_strip r h.2]
end
mutual
theorem encT_inb (n : Nat) : ∀ t : Tr, t.ok = true → (encT t).inb n = true
  | .node l ks c, h => by
    rw [Tr.ok, Bool.and_eq_true] at h
    have hc : c.inb n = true := by cases c <;> first | rfl | (exfalso; have := h.1; simp [Cap.inb] at this)
    simp [encT, AV.inb, inbL, hc, encTs_inb n ks h.2]
theorem encTs_inb (n : Nat) : ∀ l : List Tr, Tr.okL l = true → inbL n (encTs l) = true
  | [], h => rfl
  | t :: r, h => by
    rw [Tr.okL, Bool.and_eq_true] at h
    simp [encTs, inbL, encT_inb n t h.1, encTs_inb n r h.2]
end
mutual
/-- What 'swapped' hands back. -/
def swapV (b : Tr) : Tr → AV
  | .node l ks c => if l = sP ∧ ks = [] then encT b else .agg [.sc (.string l), grown 2 (swapVs b ks)]
def swapVs (b : Tr) : List Tr → List AV
  | [] => []
  | t :: r => swapV b t :: swapVs b r
end
theorem swapV_eq (b t : Tr) : swapV b t = if t.label = sP ∧ t.kids = [] then encT b else .agg [.sc (.string t.label), grown 2 (swapVs b t.kids)] := by cases t; rfl
theorem swapVs_map (b : Tr) : ∀ l, swapVs b l = l.map (swapV b)
  | [] => rfl
  | t :: r => by rw [swapVs, swapVs_map b r]; rfl
theorem swapV_shape (b t : Tr) : ∃ x y, swapV b t = .agg [.sc (.string x), y] ∧ y.isPend = false ∧ y.one = true := by
  rw [swapV_eq]
  split
  · exact ⟨_, _, encT_eq b, rfl, rfl⟩
  · exact ⟨_, _, rfl, by simp, by simp⟩
mutual
theorem swapV_strip (b : Tr) (hb : b.ok = true) : ∀ t, (swapV b t).strip = swapV b t
  | .node l ks c => by
    rw [swapV]
    split
    · exact encT_strip b hb
    · simp [grown, AV.strip, stripL, swapVs_strip b hb ks]
      split <;> rfl
theorem swapVs_strip (b : Tr) (hb : b.ok = true) : ∀ l, stripL (swapVs b l) = swapVs b l
  | [] => rfl
  | t :: r => by simp [swapVs, stripL, swapV_strip b hb t, swapVs_strip b hb r]
end
mutual
theorem swapV_inb (b : Tr) (hb : b.ok = true) (n : Nat) : ∀ t, (swapV b t).inb n = true
  | .node l ks c => by
    rw [swapV]
    split
    · exact encT_inb n b hb
    · simp [grown, AV.inb, inbL, swapVs_inb b hb n ks]
      split <;> rfl
theorem swapVs_inb (b : Tr) (hb : b.ok = true) (n : Nat) : ∀ l, inbL n (swapVs b l) = true
  | [] => rfl
  | t :: r => by simp [swapVs, inbL, swapV_inb b hb n t, swapVs_inb b hb n r]
end
theorem swapVs_len (b : Tr) : ∀ l : List Tr, (swapVs b l).length = (encTs (swapL b l)).length
  | [] => rfl
  | t :: r => by simp [swapVs, swapL, encTs, swapVs_len b r]
mutual
theorem swapV_cells (b : Tr) : ∀ t : Tr, ArgsLe (swapV b t).cells (encT (swapF b t)).cells
  | .node l ks c => by
    rw [swapV, swapF]
    split
    · exact .refl _
    · show ArgsLe [_, _] [_, _]
      refine .cons (.refl _) (.cons ?_ .nil)
      cases ks with
      | nil => exact .nil 0 2
      | cons k r =>
        have h1 : swapVs b (k :: r) ≠ [] := by simp [swapVs]
        simp only [grown, if_neg h1, List.isEmpty_cons, Bool.false_eq_true, if_false]
        exact .sl (by decide) (swapVs_len b _) (encTs_w _) (encTs_one _) (swapVs_cells b (k :: r))
theorem swapVs_cells (b : Tr) : ∀ l : List Tr, ArgsLe ((swapVs b l).flatMap AV.cells) ((encTs (swapL b l)).flatMap AV.cells)
  | [] => .nil
  | t :: r => by
    rw [swapVs, swapL, encTs, List.flatMap_cons, List.flatMap_cons]
    exact .append (swapV_cells b t) (swapVs_cells b r)
end
theorem swapV_le (b t : Tr) : AVLe (swapV b t) (encT (swapF b t)) := by
  have hc := swapV_cells b t
  obtain ⟨x, y, h1, _, _⟩ := swapV_shape b t
  rw [encT_eq] at hc ⊢
  rw [h1] at hc ⊢
  exact .agg hc fun d hd => by simp at hd; rcases hd with rfl | rfl <;> rfl

theorem apd_strip_gen (k : Nat) (es : List AV) (t : Nat) : (apd k es t).strip = grown k (stripL es) := by
  cases es with
  | nil => rfl
  | cons a es => simp [apd, grown, AV.strip, stripL, Cap.strip]
theorem grown_inb_gen {k n : Nat} {es : List AV} (h : inbL n es = true) : (grown k es).inb n = true := by
  simp [grown, AV.inb, h]; split <;> rfl

theorem swapped_c (b : Tr) (hb : b.ok = true) (t : Tr) {h : AHeap} (hn : t.nodes ≤ 2 ^ 20) : AEx PP Gl 22 [encT t, encT b] h (.ret (swapV b t)) h := by
  have hne := Tr.nodes_eq t
  have hlen := Tr.length_le t.kids
  refine enter_law35_swapped (by simp) ?_
  by_cases h1 : t.label = sP ∧ t.kids = []
  · have h2 : t.label = ⟨#[112]⟩ := h1.1
    simp -implicitDefEqProofs [code_law35_swapped, res_law35_swapped, ann_law35_swapped, encT_eq t, encT_eq b, h2, h1.2]
    refine retD (v := encT b) (by simp [deferred, dslot]) (by simp [evalRes, evalRes1, encT_eq b]) (by rw [encT_strip b hb]; exact encT_inb _ b hb) ?_ rfl
    rw [encT_strip b hb, swapV_eq, if_pos h1]
  have hsw : swapV b t = .agg [.sc (.string t.label), grown 2 (swapVs b t.kids)] := by rw [swapV_eq, if_neg h1]
  obtain ⟨A, hA⟩ : ∃ A : Nat → List AV, ∀ i, A i = (t.kids.take i).map (swapV b) := ⟨_, fun _ => rfl⟩
  have hA0 : A 0 = [] := by simp [hA]
  have hAn : A t.kids.length = swapVs b t.kids := by rw [hA, List.take_length, swapVs_map]
  have hAl : ∀ i, (A i).length ≤ i := fun i => by rw [hA, List.length_map, List.length_take]; omega
  have loop : ∀ (lb : ByteArray) (env : Env) (Q : APost), t.label = lb → env.get 2 = some (.ip (.agg [.sc (.string lb), .sl 2 (t.kids.map encT) t.cap])) → env.get 3 = some (.ip (.agg [.sc (.string b.label), .sl 2 (b.kids.map encT) b.cap])) → env.get 4 = some (.ptr h.length 0 0) → env.get 5 = some (.ptr (h.length + 1) 0 0) → env.get 6 = some (i64 0) → env.get dslot = none →
      (∀ env', env'.get 4 = some (.ptr h.length 0 0) → env'.get 5 = some (.ptr (h.length + 1) 0 0) → env'.get dslot = none → Q (.exit 0) env' (h ++ .cells 0 [.sc (.string ⟨#[]⟩), .sl 0 [] .nil] :: .cells 0 [.sc (.string lb), apd 2 (swapVs b t.kids) (h.length + 2)] :: apdH (swapVs b t.kids).length)) →
      AWp ⟨PP, Gl, 40, [2, 3], h.length, none⟩ (.loop lp0_law35_swapped) Q env (h ++ [.cells 0 [.sc (.string ⟨#[]⟩), .sl 0 [] .nil], .cells 0 [.sc (.string lb), .sl 0 [] .nil]]) := by
    intro lb env Q hlb e2 e3 e4 e5 e6 ed hQ
    refine AWp.cnt t.kids.length [2, 3, 4, 5] (fun i => [(6, i64 i)]) (fun i => h ++ .cells 0 [.sc (.string ⟨#[]⟩), .sl 0 [] .nil] :: .cells 0 [.sc (.string lb), apd 2 (A i) (h.length + 2)] :: apdH (A i).length) (fun _ => True) mixed trivial (le_of (by simp [dslot, e2, e3, e4, e5, e6]; exact ed.symm)) (by simp [hA0]) ?_ ?_
    · intro i hi _
      obtain ⟨k, hki⟩ : ∃ k, t.kids[i]? = some k := ⟨t.kids[i], by simp [hi]⟩
      have hlt : (i : Int) < t.kids.length := by omega
      have hne0 : t.kids ≠ [] := by intro e; rw [e] at hi; simp at hi
      have g1 := Tr.nodes_get hki
      have g2 := Tr.nodesL_take t.kids (i + 1)
      have hAs : A (i + 1) = A i ++ [swapV b k] := by rw [hA, hA, take_succ_of hki, List.map_append]; rfl
      obtain ⟨x, y, hv, hy1, hy2⟩ := swapV_shape b k
      have hAi := hAl i
      simp -implicitDefEqProofs [lp0_law35_swapped, hlt, hki, hne0, encT_eq k, e2, e3, e4, e5]
      refine callk (swapped_c b hb k (by omega)) (by simp [encT_eq k, encT_eq b]) rfl ?_
      simp -implicitDefEqProofs [hv, hy1, hy2, e2, e3, e4, e5]
      have hl2 : (h ++ [AObj.cells 0 [.sc (.string ⟨#[]⟩), .sl 0 [] .nil], AObj.cells 0 [.sc (.string lb), apd 2 (A i) (h.length + 2)]]).length = h.length + 2 := by simp
      refine appk (A i) (swapV b k) (h ++ [.cells 0 [.sc (.string ⟨#[]⟩), .sl 0 [] .nil], .cells 0 [.sc (.string lb), apd 2 (A i) (h.length + 2)]]) (by rw [hl2]; simp) (by simp [hv, hy1]) (by simp) (len_tok (by omega)) ?_
      simp -implicitDefEqProofs
      rw [IntWalk.i64_in ((i : Int) + 1) (by omega)]
      exact ⟨le_of (by simp [dslot, e2, e3, e4, e5]), by rw [hAs], by rw [hAs]; simp⟩
    · intro _
      simp -implicitDefEqProofs [lp0_law35_swapped, e2, e3, e4, e5, hAn]
      exact hQ _ (by simp [e4]) (by simp [e5]) (by simp [dslot])
  by_cases hl : t.label = ⟨#[112]⟩
  · have hk : t.kids ≠ [] := fun e => h1 ⟨hl, e⟩
    simp -implicitDefEqProofs [code_law35_swapped, res_law35_swapped, ann_law35_swapped, encT_eq t, encT_eq b, hl, hk]
    refine loop ⟨#[112]⟩ _ _ hl (by simp) (by simp [encT_eq b]) (by simp) (by simp) (by simp) (by simp [dslot]) fun env' e4 e5 ed => ?_
    simp -implicitDefEqProofs [e4, e5]
    refine retD (v := .agg [.sc (.string ⟨#[112]⟩), apd 2 (swapVs b t.kids) (h.length + 2)]) (by simp [deferred, dslot]; simp [dslot] at ed; simp [ed]) (by simp [evalRes, evalRes1, e4]) ?_ ?_ rfl
    · simp only [AV.strip, stripL, AV.inb, inbL, apd_strip_gen, swapVs_strip b hb, Bool.and_true, Bool.true_and]
      exact grown_inb_gen (swapVs_inb b hb _ _)
    · simp only [AV.strip, stripL, apd_strip_gen, swapVs_strip b hb, hsw, hl]
  · simp -implicitDefEqProofs [code_law35_swapped, res_law35_swapped, ann_law35_swapped, encT_eq t, encT_eq b, hl]
    refine loop t.label _ _ rfl (by simp) (by simp [encT_eq b]) (by simp) (by simp) (by simp) (by simp [dslot]) fun env' e4 e5 ed => ?_
    simp -implicitDefEqProofs [e4, e5]
    refine retD (v := .agg [.sc (.string t.label), apd 2 (swapVs b t.kids) (h.length + 2)]) (by simp [deferred, dslot]; simp [dslot] at ed; simp [ed]) (by simp [evalRes, evalRes1, e4]) ?_ ?_ rfl
    · simp only [AV.strip, stripL, AV.inb, inbL, apd_strip_gen, swapVs_strip b hb, Bool.and_true, Bool.true_and]
      exact grown_inb_gen (swapVs_inb b hb _ _)
    · simp only [AV.strip, stripL, apd_strip_gen, swapVs_strip b hb, hsw]
termination_by SizeOf.sizeOf t
decreasing_by exact Tr.sizeOf_kids hki
end Go.Apx
