/- Walks: places in lists, sizes, what is small. -/
import Derived.Test.YtchbhhgnkcaegaaE1
namespace Go.Apx
open Go.Proofs
set_option linter.unusedVariables false
set_option linter.unusedSimpArgs false
set_option linter.unnecessarySimpa false
set_option maxRecDepth 4000

theorem index_c (l : List ByteArray) (c : Cap) (s : ByteArray) (hl : l.length ≤ 2 ^ 31) {h : AHeap} : AEx PP Gl 49 [.sl 1 (l.map sv) c, .sc (.string s)] h (.ret (.sc (.int .i64 (indexF l s)))) h := by
  refine enter_slices_Index_string_string (by simp) ?_
  simp [code_slices_Index_string_string, res_slices_Index_string_string, ann_slices_Index_string_string]
  refine AWp.cnt l.length [0, 1, 7] (fun i => [(8, i64 i)]) (fun _ => h) (fun i => ∀ y ∈ l.take i, decide (y = s) = false) mixed (by simp) (le_of (by simp [dslot])) rfl ?_ ?_
  · intro i hi hz
    obtain ⟨k, hki⟩ : ∃ k, l[i]? = some k := ⟨l[i], by simp [hi]⟩
    have hlt : (i : Int) < l.length := by omega
    have hne : l ≠ [] := by intro e; rw [e] at hi; simp at hi
    simp [lp0_slices_Index_string_string, hlt, hki, sv]
    refine ⟨fun hk => ?_, fun hk => ?_⟩
    · exact retE (by simp [deferred, dslot]) rfl (by simp [indexF, placeF_some hki (by simpa using hk.symm) hz]) rfl
    · rw [IntWalk.i64_in ((i : Int) + 1) (by omega)]
      refine ⟨by simpa using take_ext hki (q := fun y => decide (y = s) = false) hz (by simpa using fun e => hk e.symm), le_of (by simp [dslot])⟩
  · intro hz
    simp [lp0_slices_Index_string_string]
    exact retE (by simp [deferred, dslot]) rfl (by simp [indexF, placeF_none (take_all hz)]) rfl

def hasF (l : List ByteArray) (s : ByteArray) : Bool := decide (0 ≤ indexF l s)
theorem contains_c (l : List ByteArray) (c : Cap) (s : ByteArray) (hl : l.length ≤ 2 ^ 31) {h : AHeap} : AEx PP Gl 36 [.sl 1 (l.map sv) c, .sc (.string s)] h (.ret (.sc (.bool (hasF l s)))) h := by
  refine enter_slices_Contains_string_string (by simp) ?_
  simp [code_slices_Contains_string_string, res_slices_Contains_string_string, ann_slices_Contains_string_string]
  refine callk (index_c l c s hl) rfl rfl ?_
  simp
  exact retE (by simp [deferred, dslot]) rfl (by simp [hasF]) rfl

def findF (g : Gr) (s : ByteArray) : Int := placeF (fun r => decide (r.label = s)) g.rules
theorem rfind_c (g : Gr) (s : ByteArray) (hl : g.rules.length ≤ 2 ^ 31) {h : AHeap} : AEx PP Gl 31 [encG g, .sc (.string s)] h (.ret (.sc (.int .i64 (findF g s)))) h := by
  refine enter_ref13_Find (by simp) ?_
  simp [code_ref13_Find, res_ref13_Find, ann_ref13_Find, encG]
  refine AWp.cnt g.rules.length [1, 2] (fun i => [(5, i64 i)]) (fun _ => h) (fun i => ∀ y ∈ g.rules.take i, decide (y.label = s) = false) mixed (by simp) (le_of (by simp [dslot])) rfl ?_ ?_
  · intro i hi hz
    obtain ⟨k, hki⟩ : ∃ k, g.rules[i]? = some k := ⟨g.rules[i], by simp [hi]⟩
    have hlt : (i : Int) < g.rules.length := by omega
    have hne : g.rules ≠ [] := by intro e; rw [e] at hi; simp at hi
    simp [lp0_ref13_Find, hlt, hki, encR]
    refine ⟨fun hk => ?_, fun hk => ?_⟩
    · exact retE (by simp [deferred, dslot]) rfl (by simp [findF, placeF_some hki (by simpa using hk) hz]) rfl
    · rw [IntWalk.i64_in ((i : Int) + 1) (by omega)]
      refine ⟨by simpa using take_ext hki (q := fun y => decide (y.label = s) = false) hz (by simpa using hk), le_of (by simp [dslot])⟩
  · intro hz
    simp [lp0_ref13_Find]
    exact retE (by simp [deferred, dslot]) rfl (by simp [findF, placeF_none (take_all hz)]) rfl

theorem same_c (k k' : Nat) (a b : List ByteArray) (c c' : Cap) (hk : a ≠ [] → k = 1) (hk' : b ≠ [] → k' = 1) (hl : a.length ≤ 2 ^ 31) {h : AHeap} : AEx PP Gl 10 [.sl k (a.map sv) c, .sl k' (b.map sv) c'] h (.ret (.sc (.bool (decide (a = b))))) h := by
  refine enter_law14_same (by simp) ?_
  simp [code_law14_same, res_law14_same, ann_law14_same]
  refine ⟨fun he => ?_, fun hne => ?_⟩
  rotate_left
  · exact retE (by simp [deferred, dslot]) rfl (by
      have : a ≠ b := by rintro rfl; exact hne rfl
      simp [this]) rfl
  · have he' : a.length = b.length := by omega
    refine AWp.cnt a.length [0, 1] (fun i => [(5, i64 i)]) (fun _ => h) (fun i => a.take i = b.take i) mixed (by simp) (le_of (by simp [dslot])) rfl ?_ ?_
    · intro i hi hz
      obtain ⟨x, hx⟩ : ∃ x, a[i]? = some x := ⟨a[i], by simp [hi]⟩
      obtain ⟨y, hy⟩ : ∃ y, b[i]? = some y := ⟨b[i]'(by omega), by simp [show i < b.length by omega]⟩
      have hlt : (i : Int) < a.length := by omega
      have hne : a ≠ [] := by intro e; rw [e] at hi; simp at hi
      have hne' : b ≠ [] := by intro e; rw [e] at hy; simp at hy
      simp [lp0_law14_same, hlt, hx, hy, hk hne, hk' hne', sv]
      refine ⟨fun hxy => ?_, fun hxy => ?_⟩
      rotate_left
      · exact retE (by simp [deferred, dslot]) rfl (by
          have : a ≠ b := by rintro rfl; rw [hx] at hy; exact hxy (Option.some.inj hy)
          simp [this]) rfl
      · rw [IntWalk.i64_in ((i : Int) + 1) (by omega)]
        refine ⟨?_, le_of (by simp [dslot, hk hne, hk' hne'])⟩
        rw [List.take_add_one, List.take_add_one, hz, hx, hy]
        simp [hxy]
    · intro hz
      simp [lp0_law14_same]
      exact retE (by simp [deferred, dslot]) rfl (by
        rw [List.take_length, he', List.take_length] at hz
        simp [hz]) rfl

def argsF (l : List Pt) : Nat := (l.filter fun p => !decide (p.sort = ⟨#[]⟩)).length
theorem argsF_take {l : List Pt} {i : Nat} {p : Pt} (h : l[i]? = some p) : argsF (l.take (i + 1)) = argsF (l.take i) + (if p.sort = ⟨#[]⟩ then 0 else 1) := by
  rw [List.take_add_one, h]
  by_cases hp : p.sort = ⟨#[]⟩ <;> simp [argsF, hp]
theorem argsF_le (l : List Pt) : argsF l ≤ l.length := List.length_filter_le _ _
theorem args_c (r : Rl) (hl : r.parts.length ≤ 2 ^ 31) {h : AHeap} : AEx PP Gl 35 [encR r] h (.ret (i64 (argsF r.parts))) h := by
  refine enter_ref14_args (by simp) ?_
  simp [code_ref14_args, res_ref14_args, ann_ref14_args, encR]
  refine AWp.cnt r.parts.length [1] (fun i => [(3, i64 (argsF (r.parts.take i))), (4, i64 i)]) (fun _ => h) (fun i => True) mixed trivial (le_of (by simp [dslot, argsF])) rfl ?_ ?_
  · intro i hi _
    obtain ⟨k, hki⟩ : ∃ k, r.parts[i]? = some k := ⟨r.parts[i], by simp [hi]⟩
    have hlt : (i : Int) < r.parts.length := by omega
    have hne : r.parts ≠ [] := by intro e; rw [e] at hi; simp at hi
    have h2 := argsF_le (r.parts.take i)
    simp at h2
    simp [lp0_ref14_args, hlt, hki, encP]
    refine ⟨fun hk => ?_, fun hk => ?_⟩
    rotate_left
    · rw [IntWalk.i64_in ((i : Int) + 1) (by omega), IntWalk.i64_in ((argsF (r.parts.take i) : Int) + 1) (by omega)]
      exact le_of (by simp [dslot, argsF_take hki, hk])
    · rw [IntWalk.i64_in ((i : Int) + 1) (by omega)]
      exact le_of (by simp [dslot, argsF_take hki, hk])
  · intro _
    simp [lp0_ref14_args]
    exact retE (by simp [deferred, dslot]) rfl (by simp) rfl

/-! ## sizes -/
def mxI (a b : Int) : Int := if b > a then b else a
theorem le_mxI (a b : Int) : a ≤ mxI a b := by unfold mxI; split <;> omega
mutual
def szF : Tr → Int → Int × Int
  | .node _ ks _, lv => szL ks lv 1 lv
def szL : List Tr → Int → Int → Int → Int × Int
  | [], _, n, d => (n, d)
  | t :: r, lv, n, d => if n > 4000 then (n, d) else szL r lv (n + (szF t (lv + 1)).1) (mxI d (szF t (lv + 1)).2)
end
theorem szF_eq (t : Tr) (lv : Int) : szF t lv = szL t.kids lv 1 lv := by cases t; rfl
theorem szL_big {l : List Tr} {lv n d : Int} (h : n > 4000) : szL l lv n d = (n, d) := by cases l <;> simp [szL, h]
theorem szL_append (a b : List Tr) (lv n d : Int) : szL (a ++ b) lv n d = szL b lv (szL a lv n d).1 (szL a lv n d).2 := by
  induction a generalizing n d with
  | nil => rfl
  | cons t r ih =>
    simp only [List.cons_append, szL]
    split
    · rename_i h; rw [szL_big h]
    · exact ih _ _
mutual
theorem szF_le : ∀ (t : Tr) (lv : Int), 1 ≤ (szF t lv).1 ∧ (szF t lv).1 ≤ t.nodes ∧ lv ≤ (szF t lv).2 ∧ (szF t lv).2 ≤ lv + t.nodes
  | .node l ks c, lv => by
    have := szL_le ks lv 1 lv (by omega)
    simp only [szF, Tr.nodes, mxI] at this ⊢
    have h2 := Tr.length_le ks
    split at this <;> omega
theorem szL_le : ∀ (l : List Tr) (lv n d : Int), lv ≤ d → n ≤ (szL l lv n d).1 ∧ (szL l lv n d).1 ≤ n + Tr.nodesL l ∧ d ≤ (szL l lv n d).2 ∧ (szL l lv n d).2 ≤ mxI d (lv + 1 + Tr.nodesL l)
  | [], lv, n, d, h => by
    simp only [szL, Tr.nodesL]
    exact ⟨by omega, by omega, by omega, le_mxI _ _⟩
  | t :: r, lv, n, d, h => by
    simp only [szL, Tr.nodesL]
    split
    · simp only [mxI]; split <;> omega
    · have h1 := szF_le t (lv + 1)
      have h2 := szL_le r lv (n + (szF t (lv + 1)).1) (mxI d (szF t (lv + 1)).2) (by simp only [mxI]; split <;> omega)
      simp only [mxI] at h2 ⊢
      repeat' split at h2
      all_goals (split <;> omega)
end
theorem szL_take {l : List Tr} {lv n d : Int} {i : Nat} {t : Tr} (hi : l[i]? = some t) : szL (l.take (i + 1)) lv n d = if (szL (l.take i) lv n d).1 > 4000 then szL (l.take i) lv n d else ((szL (l.take i) lv n d).1 + (szF t (lv + 1)).1, mxI (szL (l.take i) lv n d).2 (szF t (lv + 1)).2) := by
  rw [List.take_add_one, hi, szL_append]
  simp [szL]
theorem szL_stop {l : List Tr} {lv n d : Int} {i : Nat} (h : (szL (l.take i) lv n d).1 > 4000) : szL l lv n d = szL (l.take i) lv n d := by
  conv => lhs; rw [← List.take_append_drop i l, szL_append, szL_big h]

theorem size_c (t : Tr) (lv : Int) (hn : t.nodes ≤ 2 ^ 31) (h0 : 0 ≤ lv) (h1 : lv + t.nodes ≤ 2 ^ 40) {h : AHeap} : AEx PP Gl 29 [encT t, i64 lv] h (.ret (.tup [i64 (szF t lv).1, i64 (szF t lv).2])) h := by
  refine enter_earley_size (by simp) ?_
  simp [code_earley_size, res_earley_size, ann_earley_size, encT_eq t]
  have hnn := Tr.nodes_eq t
  have hlen := Tr.length_le t.kids
  refine AWp.cnt t.kids.length [1, 12, 13] (fun i => [(4, i64 (szL (t.kids.take i) lv 1 lv).1), (5, i64 (szL (t.kids.take i) lv 1 lv).2), (14, i64 i)]) (fun _ => h) (fun i => True) mixed trivial (le_of (by simp [dslot, szL])) rfl ?_ ?_
  · intro i hi _
    obtain ⟨k, hki⟩ : ∃ k, t.kids[i]? = some k := ⟨t.kids[i], by simp [hi]⟩
    have hmem := List.mem_of_getElem? hki
    have hlt : (i : Int) < t.kids.length := by omega
    have hne : t.kids ≠ [] := by intro e; rw [e] at hi; simp at hi
    have hkn := Tr.nodesL_mem hmem
    have hb := szL_le (t.kids.take i) lv 1 lv (by omega)
    have hb2 := szL_le (t.kids.take (i + 1)) lv 1 lv (by omega)
    have htk : ∀ j, Tr.nodesL (t.kids.take j) ≤ Tr.nodesL t.kids := fun j => by
      have : ∀ (l : List Tr) (j : Nat), Tr.nodesL (l.take j) ≤ Tr.nodesL l := by
        intro l
        induction l with
        | nil => intro j; simp
        | cons x l ih => intro j; cases j with
          | zero => simp [Tr.nodesL]
          | succ j => have := ih j; simp [Tr.nodesL]; omega
      exact this _ j
    have ht1 := htk i
    have ht2 := htk (i + 1)
    have hd : (szL (t.kids.take i) lv 1 lv).2 ≤ 2 ^ 41 := by
      have := hb.2.2.2
      simp only [mxI] at this
      split at this <;> omega
    have hsk := szF_le k (lv + 1)
    simp [lp0_earley_size, hlt, hki, encT_eq k]
    refine ⟨fun hbig => ?_, fun hsm => ?_⟩
    · refine retE (by simp [deferred, dslot]) rfl ?_ rfl
      rw [szF_eq, szL_stop hbig]
    · rw [IntWalk.i64_in (lv + 1) (by omega)]
      refine callk (size_c k (lv + 1) (by omega) (by omega) (by omega)) (by simp [encT_eq k]) rfl ?_
      simp
      have hst := szL_take (lv := lv) (n := 1) (d := lv) hki
      rw [if_neg (by omega)] at hst
      rw [hst] at hb2
      simp only at hb2
      rw [IntWalk.i64_in ((i : Int) + 1) (by omega), IntWalk.i64_in ((szL (t.kids.take i) lv 1 lv).1 + (szF k (lv + 1)).1) (by omega)]
      exact le_of (by simp [dslot, hst, mxI])
  · intro _
    simp [lp0_earley_size]
    exact retE (by simp [deferred, dslot]) rfl (by rw [szF_eq]) rfl
termination_by t.nodes
decreasing_by
  have := Tr.nodesL_mem (List.mem_of_getElem? (by assumption : t.kids[i]? = some k))
  have := Tr.nodes_eq t
  omega
end Go.Apx
