/- Walks: a rule is valid; the plain law of its arguments. -/
import Derived.Test.YtchbhhgnkcaegaaE6
namespace Go.Apx
open Go.Proofs
set_option linter.unusedVariables false
set_option linter.unusedSimpArgs false
set_option linter.unnecessarySimpa false
set_option maxRecDepth 4000

/-! ## plain -/
def argL (l : List Pt) : List Int := (l.filter fun p => !decide (p.sort = ⟨#[]⟩)).map (·.arg)
theorem argL_length (l : List Pt) : (argL l).length = argsF l := by simp [argL, argsF]
theorem argL_take {l : List Pt} {i : Nat} {p : Pt} (h : l[i]? = some p) : argL (l.take (i + 1)) = argL (l.take i) ++ (if p.sort = ⟨#[]⟩ then [] else [p.arg]) := by
  rw [List.take_add_one, h]
  by_cases hp : p.sort = ⟨#[]⟩ <;> simp [argL, hp]
theorem argL_count (l : List Pt) (k : Int) : (argL l).count k = timesF l k := by
  induction l with
  | nil => rfl
  | cons p l ih =>
    by_cases hp : p.sort = ⟨#[]⟩
    · have e1 : argL (p :: l) = argL l := by simp [argL, hp]
      have e2 : timesF (p :: l) k = timesF l k := by simp [timesF, hp]
      rw [e1, e2, ih]
    · have e1 : argL (p :: l) = p.arg :: argL l := by simp [argL, hp]
      rw [e1, List.count_cons, ih]
      by_cases ha : p.arg = k <;> simp [timesF, hp, ha]
def rangeI (n : Nat) : List Int := (List.range n).map fun (i : Nat) => (i : Int)
theorem rangeI_count (n : Nat) (k : Nat) : (rangeI n).count (k : Int) = if k < n then 1 else 0 := by
  induction n with
  | zero => simp [rangeI]
  | succ n ih =>
    have : rangeI (n + 1) = rangeI n ++ [(n : Int)] := by simp [rangeI, List.range_succ]
    rw [this, List.count_append, ih, List.count_cons]
    simp only [List.count_nil, beq_iff_eq]
    by_cases h1 : k < n
    · rw [if_pos h1, if_neg (by omega), if_pos (by omega)]
    · by_cases h2 : k = n
      · subst h2; simp
      · rw [if_neg h1, if_neg (by omega), if_neg (by omega)]
theorem perm_range : ∀ (n : Nat) (l : List Int), l.length = n → (∀ k, k < n → l.count (k : Int) = 1) → l.Perm (rangeI n)
  | 0, l, hl, _ => by
    have : l = [] := List.eq_nil_of_length_eq_zero hl
    subst this; exact .refl _
  | n + 1, l, hl, hc => by
    have hm : (n : Int) ∈ l := List.count_pos_iff.1 (by rw [hc n (by omega)]; omega)
    have hp := List.perm_cons_erase hm
    have ih := perm_range n (l.erase n) (by rw [List.length_erase_of_mem hm]; omega) (fun k hk => by
      rw [List.count_erase_of_ne (by omega)]; exact hc k (by omega))
    have e : rangeI (n + 1) = rangeI n ++ [(n : Int)] := by simp [rangeI, List.range_succ]
    rw [e]
    exact hp.trans ((List.Perm.cons _ ih).trans (List.perm_append_singleton _ _).symm)
theorem ord_pairwise {l : List Int} (h : Ord l l.length) : l.Pairwise (· ≤ ·) := by
  rw [List.pairwise_iff_getElem]
  intro i j hi hj hij
  exact h i j _ _ hij hj (List.getElem?_eq_getElem hi) (List.getElem?_eq_getElem hj)
theorem rangeI_pairwise (n : Nat) : (rangeI n).Pairwise (· ≤ ·) := by
  rw [List.pairwise_iff_getElem]
  intro i j hi hj hij
  simp [rangeI]; omega

/-- In order, and each at its own place. -/
def placedF (l : List Int) : Bool := allIdx (fun x i => decide (x = (i : Int))) l
theorem placed_iff (l : List Int) : placedF l = true ↔ l = rangeI l.length := by
  unfold placedF
  rw [allIdx_iff]
  constructor
  · intro h
    apply List.ext_getElem?
    intro i
    rcases Nat.lt_or_ge i l.length with h1 | h1
    · have := h i l[i] (List.getElem?_eq_getElem h1)
      simp at this
      simp [rangeI, h1, this]
    · rw [List.getElem?_eq_none h1, List.getElem?_eq_none (by simp [rangeI]; exact h1)]
  · intro h i x hx
    rw [h] at hx
    simp [rangeI] at hx
    obtain ⟨w, hx1, hx2⟩ := hx
    obtain ⟨h4, h5⟩ := List.getElem?_eq_some_iff.1 hx1
    simp at h5
    simp [← hx2, h5]
theorem placed_once (l : List Pt) : placedF (sortF (argL l)) = onceF l := by
  rw [Bool.eq_iff_iff, placed_iff, sortF_length]
  have hperm := sortF_perm (argL l)
  unfold onceF
  rw [List.all_eq_true]
  constructor
  · intro h k hk
    have hk' : k < argsF l := by simpa using hk
    have h1 := rangeI_count (argL l).length k
    rw [← h, hperm.count_eq, argL_count, argL_length, if_pos hk'] at h1
    simpa using h1
  · intro h
    have hr := perm_range (argL l).length (argL l) rfl (fun k hk => by
      rw [argL_count]
      have := h k (by rw [argL_length] at hk; simpa using hk)
      simpa using this)
    have hs := ord_pairwise (l := sortF (argL l)) (by rw [sortF_length]; exact sortF_ord _)
    exact List.Perm.eq_of_pairwise (le := (· ≤ ·)) (fun a b _ _ h1 h2 => Int.le_antisymm h1 h2) hs (rangeI_pairwise _) (hperm.trans hr)

/-! ## the arguments of a rule, one by one -/
theorem arguments1_c (r : Rl) (o : Nat) (H : Nat → AHeap) (hlen : r.parts.length ≤ 2 ^ 31) (hloop : ∀ i, isLoop (H i) o = true)
    (hy : ∀ i p, r.parts[i]? = some p → p.sort ≠ ⟨#[]⟩ → AYields PP Gl o [encP p] (H (argsF (r.parts.take i))) (fun e h' => e = .ret (.sc (.bool true)) ∧ h' = H (argsF (r.parts.take i) + 1))) :
    AEx PP Gl 64 [.yld o, .ip (encR r)] (H 0) (.ret (.tup [])) (H (argsF r.parts)) := by
  refine enter_grammar_Rule_arguments_1 (by simp) ?_
  simp [code_grammar_Rule_arguments_1, res_grammar_Rule_arguments_1, ann_grammar_Rule_arguments_1, encR]
  refine AWp.cnt r.parts.length [0, 6, 7] (fun i => [(8, i64 i)]) (fun i => H (argsF (r.parts.take i))) (fun _ => True) mixed trivial (le_of (by simp [dslot])) (by simp [argsF]) ?_ ?_
  · intro i hi _
    obtain ⟨k, hki⟩ : ∃ k, r.parts[i]? = some k := ⟨r.parts[i], by simp [hi]⟩
    have hlt : (i : Int) < r.parts.length := by omega
    have hne : r.parts ≠ [] := by intro e; rw [e] at hi; simp at hi
    by_cases hk : k.sort = ⟨#[]⟩
    · simp [lp0_grammar_Rule_arguments_1, hlt, hki, encP, hk]
      rw [IntWalk.i64_in ((i : Int) + 1) (by omega)]
      exact ⟨le_of (by simp [dslot]), by simp [argsF_take hki, hk]⟩
    · simp [lp0_grammar_Rule_arguments_1, hlt, hki, encP, hk, hloop]
      refine yieldk (by simpa [encP] using hy i k hki hk) ?_
      rintro e h' ⟨rfl, rfl⟩
      simp
      rw [IntWalk.i64_in ((i : Int) + 1) (by omega)]
      exact ⟨le_of (by simp [dslot]), by simp [argsF_take hki, hk]⟩
  · intro _
    simp [lp0_grammar_Rule_arguments_1]
    exact retE (by simp [deferred, dslot]) rfl rfl rfl
theorem arguments_c (r : Rl) {h : AHeap} : AEx PP Gl 61 [encR r] h (.ret (.fn (.func 64) [] [.ip (encR r)])) h := by
  refine enter_grammar_Rule_arguments (by simp) ?_
  simp [code_grammar_Rule_arguments, res_grammar_Rule_arguments, ann_grammar_Rule_arguments, encR]
  exact retE (by simp [deferred, dslot]) rfl (by simp [encR]) rfl
end Go.Apx
