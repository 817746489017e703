/- Walks: the program's check of a grammar. -/
import Derived.Test.YtchbhhgnkcaegaaE8
namespace Go.Apx
open Go.Proofs
set_option linter.unusedVariables false
set_option linter.unusedSimpArgs false
set_option linter.unnecessarySimpa false
set_option maxRecDepth 4000

def metOf (out : List ByteArray) : List (ByteArray × Bool) := out.map fun v => (v, true)
@[simp] theorem metOf_find (out : List ByteArray) (s : ByteArray) : sfind (metOf out) s = if s ∈ out then some true else none := by
  induction out with
  | nil => rfl
  | cons v r ih =>
    simp only [metOf, List.map_cons, sfind, List.mem_cons] at ih ⊢
    by_cases e : s = v
    · simp [e]
    · simp [e, ih]
theorem metOf_set (out : List ByteArray) (s : ByteArray) (h : s ∉ out) : sset (metOf out) s true = metOf (out ++ [s]) := by
  rw [sset_none _ _ _ (by simp [h])]
  simp [metOf]
theorem metOf_nil : smap bv (metOf []) = [] := rfl
theorem metOf_getD (out : List ByteArray) (s : ByteArray) : (sfind (metOf out) s).getD false = decide (s ∈ out) := by
  rw [metOf_find]; by_cases h : s ∈ out <;> simp [h]

theorem place_first {α : Type} {p : α → Bool} {l : List α} {i : Nat} {x : α} (hi : l[i]? = some x) (hp : p x = true) : placeF p l = (i : Int) ↔ ∀ y ∈ l.take i, p y = false := by
  constructor
  · intro h y hy
    cases hpy : p y with
    | false => rfl
    | true =>
      exfalso
      obtain ⟨j, hj⟩ := List.getElem?_of_mem hy
      rw [List.getElem?_take] at hj
      split at hj
      · rename_i hlt
        unfold placeF at h
        cases hf : l.findIdx? p with
        | none =>
          have := List.findIdx?_eq_none_iff.1 hf y (List.mem_of_getElem? hj)
          rw [hpy] at this; cases this
        | some k =>
          rw [hf] at h
          simp only at h
          obtain ⟨h1, h2, h3⟩ := List.findIdx?_eq_some_iff_getElem.1 hf
          have hk : k = i := by omega
          subst hk
          have := h3 j hlt
          obtain ⟨h4, h5⟩ := List.getElem?_eq_some_iff.1 hj
          rw [h5, hpy] at this
          simp at this
      · cases hj
  · exact placeF_some hi hp

theorem check_c (g : Gr) (hp : g.sorts.length ≤ 32 → g.rules.length ≤ 600 → ∀ r ∈ g.rules, longF r = false → r.parts.length ≤ 12) (hs : g.sorts.length ≤ 2 ^ 31) (hr : g.rules.length ≤ 2 ^ 31) {h : AHeap} : AEx PP Gl 28 [encG g] h (.ret (i64 (checkF g))) h := by
  refine enter_grammar_Check (by simp) ?_
  by_cases c1 : (32 : Int) < g.sorts.length
  · simp -implicitDefEqProofs [code_grammar_Check, res_grammar_Check, ann_grammar_Check, encG, c1]
    exact retE (by simp [deferred, dslot]) rfl (by unfold checkF; rw [if_pos (by omega)]) rfl
  by_cases c2 : (600 : Int) < g.rules.length
  · simp -implicitDefEqProofs [code_grammar_Check, res_grammar_Check, ann_grammar_Check, encG, c1, c2]
    exact retE (by simp [deferred, dslot]) rfl (by unfold checkF; rw [if_pos (by omega)]) rfl
  simp -implicitDefEqProofs [code_grammar_Check, res_grammar_Check, ann_grammar_Check, encG, c1, c2]
  refine callk (anyR_c g.rules g.rc 44 [] [] longF hr (fun e he => by simpa using long_c e)) rfl rfl ?_
  generalize hlong : g.rules.any longF = lg
  cases lg with
  | true =>
    simp
    exact retE (by simp [deferred, dslot]) rfl (by unfold checkF; rw [if_neg (by omega), if_pos hlong]) rfl
  | false =>
  have hlong' : ¬ g.rules.any longF = true := by rw [hlong]; simp
  have hpl : ∀ r ∈ g.rules, r.parts.length ≤ 12 := fun r hr => hp (by omega) (by omega) r hr (by
    rw [List.any_eq_false] at hlong
    simpa using hlong r hr)
  simp -implicitDefEqProofs
  refine AWp.cnt g.sorts.length [1, 4, 27, 28] (fun i => [(29, i64 i)]) (fun i => h ++ [.amap (smap bv (metOf (g.sorts.take i)))]) (fun i => ∀ j x, j < i → g.sorts[j]? = some x → nameOkF g x j = true) mixed (by simp) (le_of (by simp [dslot])) (by simp [metOf_nil]) ?_ ?_
  · intro i hi hz2
    obtain ⟨k, hki⟩ : ∃ k, g.sorts[i]? = some k := ⟨g.sorts[i], by simp [hi]⟩
    have hlt : (i : Int) < g.sorts.length := by omega
    have hne : g.sorts ≠ [] := by intro e; rw [e] at hi; simp at hi
    have hbad : nameOkF g k i = false → checkF g = 151 := fun hb => by
      unfold checkF
      rw [if_neg (by omega), if_neg hlong', if_neg (by rw [allIdx_false hki hb]; simp)]
    have hfst : indexF g.sorts k = (i : Int) ↔ k ∉ g.sorts.take i := by
      unfold indexF
      rw [place_first hki (by simp)]
      constructor
      · intro h1 h2; have := h1 k h2; simp at this
      · intro h1 y hy; simp; rintro rfl; exact h1 hy
    simp -implicitDefEqProofs [lp0_grammar_Check, hlt, hki, sv]
    refine callk (name_c k) rfl rfl ?_
    generalize hb1 : okName k = b1
    cases b1 with
    | false =>
      simp -implicitDefEqProofs
      exact retD (by simp [deferred, dslot]) rfl (by simp [AV.strip, AV.inb]) (by rw [hbad (by simp [nameOkF, hb1])]; rfl) rfl
    | true =>
      by_cases hmem : k ∈ g.sorts.take i
      · simp -implicitDefEqProofs [hmem]
        refine retD (by simp [deferred, dslot]) rfl (by simp [AV.strip, AV.inb]) ?_ rfl
        rw [hbad (by simp only [nameOkF, hb1, Bool.true_and, decide_eq_false_iff_not]; rw [hfst]; simpa using hmem)]; rfl
      · simp -implicitDefEqProofs [hmem, metOf_set _ _ hmem]
        rw [IntWalk.i64_in ((i : Int) + 1) (by omega)]
        refine ⟨fun j x hj hx => ?_, le_of (by simp [dslot]), ?_⟩
        · by_cases e : j = i
          · subst e; rw [hki] at hx; cases hx; simp only [nameOkF, hb1, Bool.true_and, decide_eq_true_eq]; rw [hfst]; exact hmem
          · exact hz2 j x (by omega) hx
        · rw [List.take_add_one, hki]; rfl
  · intro hz2
    have hnames : allIdx (nameOkF g) g.sorts = true := allIdx_true fun i x hx => hz2 i x (List.getElem?_eq_some_iff.1 hx).1 hx
    simp -implicitDefEqProofs [lp0_grammar_Check]
    refine AWp.cnt g.rules.length [1, 4, 46, 47] (fun i => [(48, i64 i)]) (fun i => h ++ [.amap (smap bv (metOf ((g.rules.map (·.label)).take i)))]) (fun i => ∀ j x, j < i → g.rules[j]? = some x → ruleOkF g x j = true) mixed (by simp) (le_of (by simp [dslot])) (by simp [metOf_nil]) ?_ ?_
    · intro i hi hz3
      obtain ⟨k, hki⟩ : ∃ k, g.rules[i]? = some k := ⟨g.rules[i], by simp [hi]⟩
      have hlt : (i : Int) < g.rules.length := by omega
      have hne : g.rules ≠ [] := by intro e; rw [e] at hi; simp at hi
      have hbad : ruleOkF g k i = false → checkF g = 151 := fun hb => by
        unfold checkF
        rw [if_neg (by omega), if_neg hlong', if_pos hnames, if_neg (by rw [allIdx_false hki hb]; simp)]
      have hfst : findF g k.label = (i : Int) ↔ k.label ∉ (g.rules.map (·.label)).take i := by
        unfold findF
        rw [place_first hki (by simp)]
        constructor
        · intro h1 h2
          rw [← List.map_take] at h2
          obtain ⟨y, hy, e⟩ := List.mem_map.1 h2
          have := h1 y hy; simp [e] at this
        · intro h1 y hy; simp; intro e; rw [← List.map_take] at h1; exact h1 (List.mem_map.2 ⟨y, hy, e⟩)
      simp -implicitDefEqProofs [lp1_grammar_Check, hlt, hki, encR]
      refine callk (rule_c g k hs (hpl k (List.mem_of_getElem? hki))) (by simp [encG, encR]) rfl ?_
      generalize hb1 : rruleF g k = b1
      cases b1 with
      | false =>
        simp -implicitDefEqProofs
        exact retD (by simp [deferred, dslot]) rfl (by simp [AV.strip, AV.inb]) (by rw [hbad (by simp [ruleOkF, hb1])]; rfl) rfl
      | true =>
        by_cases hmem : k.label ∈ (g.rules.map (·.label)).take i
        · simp -implicitDefEqProofs [hmem]
          refine retD (by simp [deferred, dslot]) rfl (by simp [AV.strip, AV.inb]) ?_ rfl
          rw [hbad (by simp only [ruleOkF, hb1, Bool.true_and, decide_eq_false_iff_not]; rw [hfst]; simpa using hmem)]; rfl
        · simp -implicitDefEqProofs [hmem, metOf_set _ _ hmem]
          rw [IntWalk.i64_in ((i : Int) + 1) (by omega)]
          refine ⟨fun j x hj hx => ?_, le_of (by simp [dslot]), ?_⟩
          · by_cases e : j = i
            · subst e; rw [hki] at hx; cases hx; simp only [ruleOkF, hb1, Bool.true_and, decide_eq_true_eq]; rw [hfst]; exact hmem
            · exact hz3 j x (by omega) hx
          · rw [List.take_add_one, List.getElem?_map, hki]; rfl
    · intro hz3
      have hrules : allIdx (ruleOkF g) g.rules = true := allIdx_true fun i x hx => hz3 i x (List.getElem?_eq_some_iff.1 hx).1 hx
      simp -implicitDefEqProofs [lp1_grammar_Check]
      exact retD (by simp [deferred, dslot]) rfl (by simp [AV.strip, AV.inb]) (by unfold checkF; rw [if_neg (by omega), if_neg hlong', if_pos hnames, if_pos hrules]; rfl) rfl
end Go.Apx
