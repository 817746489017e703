/- Walks: the reference's check of a grammar. -/
import Derived.Test.YtchbhhgnkcaegaaE3
namespace Go.Apx
open Go.Proofs
set_option linter.unusedVariables false
set_option linter.unusedSimpArgs false
set_option linter.unnecessarySimpa false
set_option maxRecDepth 4000

/-! ## all, with their places -/
def allIdx {α : Type} (p : α → Nat → Bool) (l : List α) : Bool := (List.range l.length).all fun i => match l[i]? with
  | some x => p x i
  | none => true
theorem allIdx_true {α : Type} {p : α → Nat → Bool} {l : List α} (h : ∀ i x, l[i]? = some x → p x i = true) : allIdx p l = true := by
  unfold allIdx
  rw [List.all_eq_true]
  intro i hi
  split
  · rename_i x hx; exact h i x hx
  · rfl
theorem allIdx_false {α : Type} {p : α → Nat → Bool} {l : List α} {i : Nat} {x : α} (hi : l[i]? = some x) (hp : p x i = false) : allIdx p l = false := by
  unfold allIdx
  rw [List.all_eq_false]
  exact ⟨i, by simpa using (List.getElem?_eq_some_iff.1 hi).1, by simp [hi, hp]⟩
theorem allIdx_iff {α : Type} {p : α → Nat → Bool} {l : List α} : allIdx p l = true ↔ ∀ i x, l[i]? = some x → p x i = true := by
  refine ⟨fun h i x hx => ?_, allIdx_true⟩
  cases hp : p x i with
  | true => rfl
  | false => rw [allIdx_false hx hp] at h; cases h

/-! ## a rule -/
def timesF (l : List Pt) (k : Int) : Nat := (l.filter fun p => !decide (p.sort = ⟨#[]⟩) && decide (p.arg = k)).length
theorem timesF_take {l : List Pt} {i : Nat} {p : Pt} {k : Int} (h : l[i]? = some p) : timesF (l.take (i + 1)) k = timesF (l.take i) k + (if p.sort = ⟨#[]⟩ then 0 else if p.arg = k then 1 else 0) := by
  rw [List.take_add_one, h]
  by_cases hp : p.sort = ⟨#[]⟩ <;> by_cases ha : p.arg = k <;> simp [timesF, hp, ha]
theorem timesF_le (l : List Pt) (k : Int) : timesF l k ≤ l.length := List.length_filter_le _ _
def onceF (l : List Pt) : Bool := (List.range (argsF l)).all fun k => decide (timesF l k = 1)
def lastF (r : Rl) : Bool := !r.var || (decide (r.parts.length = 1) && decide (argsF r.parts = 0))
def rruleF (g : Gr) (r : Rl) : Bool := okName r.label && hasF g.sorts r.sort && r.parts.all (partF g) && onceF r.parts && lastF r

theorem rrule_c (g : Gr) (r : Rl) (hs : g.sorts.length ≤ 2 ^ 31) (hp : r.parts.length ≤ 2 ^ 31) {h : AHeap} : AEx PP Gl 34 [encG g, encR r] h (.ret (.sc (.bool (rruleF g r)))) h := by
  refine enter_ref13_ruleOK (by simp) ?_
  simp [code_ref13_ruleOK, res_ref13_ruleOK, ann_ref13_ruleOK, encR, encG]
  refine callk (rname_c r.label) rfl rfl ?_
  generalize hb1 : okName r.label = b1
  cases b1 with
  | false => simp; exact retE (by simp [deferred, dslot]) rfl (by simp [rruleF, hb1]) rfl
  | true =>
    simp
    refine callk (rindex_c g.sorts g.sc r.sort hs) rfl rfl ?_
    simp
    refine ⟨fun hneg => ?_, fun hpos => ?_⟩
    · have : hasF g.sorts r.sort = false := by simp [hasF]; omega
      exact retE (by simp [deferred, dslot]) rfl (by simp [rruleF, this]) rfl
    have hb2 : hasF g.sorts r.sort = true := by simp [hasF]; omega
    refine AWp.cnt r.parts.length [2, 3] (fun i => [(5, i64 (argsF (r.parts.take i))), (6, i64 i)]) (fun _ => h) (fun i => ∀ y ∈ r.parts.take i, partF g y = true) mixed (by simp) (le_of (by simp [dslot, argsF])) rfl ?_ ?_
    · intro i hi hz
      obtain ⟨k, hki⟩ : ∃ k, r.parts[i]? = some k := ⟨r.parts[i], by simp [hi]⟩
      have hlt : (i : Int) < r.parts.length := by omega
      have hne : r.parts ≠ [] := by intro e; rw [e] at hi; simp at hi
      have h2 := argsF_le (r.parts.take i)
      simp at h2
      simp [lp0_ref13_ruleOK, hlt, hki, encP]
      refine callk (rpart_c g k hs) (by simp [encG, encP]) rfl ?_
      generalize hbk : partF g k = bk
      cases bk with
      | false =>
        simp
        refine retE (by simp [deferred, dslot]) rfl ?_ rfl
        have : r.parts.all (partF g) = false := by
          rw [List.all_eq_false]
          exact ⟨k, List.mem_of_getElem? hki, by simp [hbk]⟩
        simp [rruleF, this]
      | true =>
        simp [hki, encP]
        have hgo := take_ext hki (q := fun y => partF g y = true) hz hbk
        refine ⟨fun hk => ?_, fun hk => ?_⟩
        · rw [IntWalk.i64_in ((i : Int) + 1) (by omega)]
          exact ⟨by simpa using hgo, le_of (by simp [dslot, argsF_take hki, hk])⟩
        · rw [IntWalk.i64_in ((i : Int) + 1) (by omega), IntWalk.i64_in ((argsF (r.parts.take i) : Int) + 1) (by omega)]
          exact ⟨by simpa using hgo, le_of (by simp [dslot, argsF_take hki, hk])⟩
    · intro hz
      have hall : r.parts.all (partF g) = true := by rw [List.all_eq_true]; exact take_all hz
      have hal := argsF_le r.parts
      simp [lp0_ref13_ruleOK]
      refine AWp.cnt (argsF r.parts) [3, 5] (fun i => [(7, i64 i)]) (fun _ => h) (fun i => ∀ k, k < i → timesF r.parts (k : Int) = 1) mixed (by simp) (le_of (by simp [dslot])) rfl ?_ ?_
      · intro i hi hz2
        have hlt : (i : Int) < argsF r.parts := by omega
        simp [lp1_ref13_ruleOK, hlt]
        refine AWp.cnt r.parts.length [3, 5, 7] (fun j => [(8, i64 (timesF (r.parts.take j) i)), (9, i64 j)]) (fun _ => h) (fun _ => True) mixed trivial (le_of (by simp [dslot, timesF])) rfl ?_ ?_
        · intro j hj _
          obtain ⟨k, hkj⟩ : ∃ k, r.parts[j]? = some k := ⟨r.parts[j], by simp [hj]⟩
          have hltj : (j : Int) < r.parts.length := by omega
          have hne : r.parts ≠ [] := by intro e; rw [e] at hj; simp at hj
          have h2 := timesF_le (r.parts.take j) i
          simp at h2
          by_cases hk : k.sort = ⟨#[]⟩
          · simp [lp2_ref13_ruleOK, hltj, hkj, encP, hk]
            rw [IntWalk.i64_in ((j : Int) + 1) (by omega)]
            exact le_of (by simp [dslot, timesF_take hkj, hk])
          · simp [lp2_ref13_ruleOK, hltj, hkj, encP, hk]
            refine ⟨fun ha => ?_, fun ha => ?_⟩
            · rw [IntWalk.i64_in ((j : Int) + 1) (by omega), IntWalk.i64_in ((timesF (r.parts.take j) (i : Int) : Int) + 1) (by omega)]
              exact le_of (by simp [dslot, timesF_take hkj, hk, ha])
            · rw [IntWalk.i64_in ((j : Int) + 1) (by omega)]
              exact le_of (by simp [dslot, timesF_take hkj, hk, ha])
        · intro _
          simp [lp2_ref13_ruleOK]
          refine ⟨fun ht => ?_, fun ht => ?_⟩
          · rw [IntWalk.i64_in ((i : Int) + 1) (by omega)]
            refine ⟨fun k hk => ?_, le_of (by simp [dslot])⟩
            by_cases e : k = i
            · subst e; omega
            · exact hz2 k (by omega)
          · refine retE (by simp [deferred, dslot]) rfl ?_ rfl
            have : onceF r.parts = false := by
              unfold onceF
              rw [List.all_eq_false]
              exact ⟨i, by simpa using hi, by simp; omega⟩
            simp [rruleF, this]
      · intro hz2
        have honce : onceF r.parts = true := by
          unfold onceF
          rw [List.all_eq_true]
          intro k hk
          simpa using hz2 k (by simpa using hk)
        have hfin : rruleF g r = lastF r := by simp [rruleF, hb1, hb2, hall, honce]
        simp [lp1_ref13_ruleOK]
        generalize hv : r.var = v
        cases v with
        | false => simp; exact retE (by simp [deferred, dslot]) rfl (by simp [hfin, lastF, hv]) rfl
        | true =>
          by_cases hl1 : r.parts.length = 1
          · simp [hl1]
            exact retE (by simp [deferred, dslot]) rfl (by simp [hfin, lastF, hv, hl1]) rfl
          · have hl1' : ¬ (r.parts.length : Int) = 1 := by omega
            simp [hl1, hl1']
            exact retE (by simp [deferred, dslot]) rfl (by simp [hfin, lastF, hv, hl1]) rfl

/-! ## a grammar -/
def longF (r : Rl) : Bool := decide ((r.parts.length : Int) > 200)
def nameOkF (g : Gr) (s : ByteArray) (i : Nat) : Bool := okName s && decide (indexF g.sorts s = i)
def ruleOkF (g : Gr) (r : Rl) (i : Nat) : Bool := rruleF g r && decide (findF g r.label = i)
def checkF (g : Gr) : Int :=
  if g.sorts.length > 32 ∨ g.rules.length > 600 then 4 else if g.rules.any longF = true then 4 else if allIdx (nameOkF g) g.sorts = true then (if allIdx (ruleOkF g) g.rules = true then 0 else 151) else 151

theorem rcheck_c (g : Gr) (hs : g.sorts.length ≤ 2 ^ 31) (hr : g.rules.length ≤ 2 ^ 31) {h : AHeap} : AEx PP Gl 20 [encG g] h (.ret (i64 (checkF g))) h := by
  refine enter_ref13_Check (by simp) ?_
  by_cases c1 : (32 : Int) < g.sorts.length
  · simp -implicitDefEqProofs [code_ref13_Check, res_ref13_Check, ann_ref13_Check, encG, c1]
    exact retE (by simp [deferred, dslot]) rfl (by unfold checkF; rw [if_pos (by omega)]) rfl
  by_cases c2 : (600 : Int) < g.rules.length
  · simp -implicitDefEqProofs [code_ref13_Check, res_ref13_Check, ann_ref13_Check, encG, c1, c2]
    exact retE (by simp [deferred, dslot]) rfl (by unfold checkF; rw [if_pos (by omega)]) rfl
  simp -implicitDefEqProofs [code_ref13_Check, res_ref13_Check, ann_ref13_Check, encG, c1, c2]
  refine AWp.cnt g.rules.length [1] (fun i => [(3, i64 i)]) (fun _ => h) (fun i => ∀ y ∈ g.rules.take i, longF y = false) mixed (by simp) (le_of (by simp [dslot])) rfl ?_ ?_
  · intro i hi hz
    obtain ⟨k, hki⟩ : ∃ k, g.rules[i]? = some k := ⟨g.rules[i], by simp [hi]⟩
    have hlt : (i : Int) < g.rules.length := by omega
    have hne : g.rules ≠ [] := by intro e; rw [e] at hi; simp at hi
    simp -implicitDefEqProofs [lp0_ref13_Check, hlt, hki, encR]
    refine ⟨fun hk => ?_, fun hk => ?_⟩
    · refine retE (by simp [deferred, dslot]) rfl ?_ rfl
      have : g.rules.any longF = true := by
        rw [List.any_eq_true]
        exact ⟨k, List.mem_of_getElem? hki, by simp [longF]; omega⟩
      unfold checkF
      rw [if_neg (by omega), if_pos this]
    · rw [IntWalk.i64_in ((i : Int) + 1) (by omega)]
      exact ⟨by simpa using take_ext hki (q := fun y => longF y = false) hz (by simp [longF]; omega), le_of (by simp [dslot])⟩
  · intro hz
    have hlong : ¬ g.rules.any longF = true := by
      rw [List.any_eq_true]
      rintro ⟨y, hy, hl⟩
      rw [take_all hz y hy] at hl; cases hl
    simp -implicitDefEqProofs [lp0_ref13_Check]
    refine AWp.cnt g.sorts.length [1] (fun i => [(4, i64 i)]) (fun _ => h) (fun i => ∀ j x, j < i → g.sorts[j]? = some x → nameOkF g x j = true) mixed (by simp) (le_of (by simp [dslot])) rfl ?_ ?_
    · intro i hi hz2
      obtain ⟨k, hki⟩ : ∃ k, g.sorts[i]? = some k := ⟨g.sorts[i], by simp [hi]⟩
      have hlt : (i : Int) < g.sorts.length := by omega
      have hne : g.sorts ≠ [] := by intro e; rw [e] at hi; simp at hi
      have hbad : nameOkF g k i = false → checkF g = 151 := fun hb => by
        unfold checkF
        rw [if_neg (by omega), if_neg hlong, if_neg (by rw [allIdx_false hki hb]; simp)]
      simp -implicitDefEqProofs [lp1_ref13_Check, hlt, hki, sv]
      refine callk (rname_c k) rfl rfl ?_
      generalize hb1 : okName k = b1
      cases b1 with
      | false =>
        simp
        exact retE (by simp [deferred, dslot]) rfl (by rw [hbad (by simp [nameOkF, hb1])]) rfl
      | true =>
        simp [hki, sv]
        refine callk (rindex_c g.sorts g.sc k hs) rfl rfl ?_
        simp
        refine ⟨fun he => ?_, fun he => ?_⟩
        · rw [IntWalk.i64_in ((i : Int) + 1) (by omega)]
          refine ⟨fun j x hj hx => ?_, le_of (by simp [dslot])⟩
          by_cases e : j = i
          · subst e; rw [hki] at hx; cases hx; simp [nameOkF, hb1, he]
          · exact hz2 j x (by omega) hx
        · exact retE (by simp [deferred, dslot]) rfl (by rw [hbad (by simp [nameOkF, hb1]; omega)]) rfl
    · intro hz2
      have hnames : allIdx (nameOkF g) g.sorts = true := allIdx_true fun i x hx => hz2 i x (List.getElem?_eq_some_iff.1 hx).1 hx
      simp -implicitDefEqProofs [lp1_ref13_Check]
      refine AWp.cnt g.rules.length [1] (fun i => [(5, i64 i)]) (fun _ => h) (fun i => ∀ j x, j < i → g.rules[j]? = some x → ruleOkF g x j = true) mixed (by simp) (le_of (by simp [dslot])) rfl ?_ ?_
      · intro i hi hz3
        obtain ⟨k, hki⟩ : ∃ k, g.rules[i]? = some k := ⟨g.rules[i], by simp [hi]⟩
        have hlt : (i : Int) < g.rules.length := by omega
        have hne : g.rules ≠ [] := by intro e; rw [e] at hi; simp at hi
        have hkp : (k.parts.length : Int) ≤ 200 := by
          have := take_all hz k (List.mem_of_getElem? hki)
          simp [longF] at this; omega
        have hbad : ruleOkF g k i = false → checkF g = 151 := fun hb => by
          unfold checkF
          rw [if_neg (by omega), if_neg hlong, if_pos hnames, if_neg (by rw [allIdx_false hki hb]; simp)]
        simp -implicitDefEqProofs [lp2_ref13_Check, hlt, hki, encR]
        refine callk (rrule_c g k hs (by omega)) (by simp [encG, encR]) rfl ?_
        generalize hb1 : rruleF g k = b1
        cases b1 with
        | false =>
          simp
          exact retE (by simp [deferred, dslot]) rfl (by rw [hbad (by simp [ruleOkF, hb1])]) rfl
        | true =>
          simp [hki, encR]
          refine callk (rfind_c g k.label hr) (by simp [encG]) rfl ?_
          simp
          refine ⟨fun he => ?_, fun he => ?_⟩
          · rw [IntWalk.i64_in ((i : Int) + 1) (by omega)]
            refine ⟨fun j x hj hx => ?_, le_of (by simp [dslot])⟩
            by_cases e : j = i
            · subst e; rw [hki] at hx; cases hx; simp [ruleOkF, hb1, he]
            · exact hz3 j x (by omega) hx
          · exact retE (by simp [deferred, dslot]) rfl (by rw [hbad (by simp [ruleOkF, hb1]; omega)]) rfl
      · intro hz3
        have hrules : allIdx (ruleOkF g) g.rules = true := allIdx_true fun i x hx => hz3 i x (List.getElem?_eq_some_iff.1 hx).1 hx
        simp -implicitDefEqProofs [lp2_ref13_Check]
        exact retE (by simp [deferred, dslot]) rfl (by unfold checkF; rw [if_neg (by omega), if_neg hlong, if_pos hnames, if_pos hrules]) rfl
end Go.Apx
