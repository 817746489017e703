/- Plain law: what a set of worlds reaches. -/
import Derived.Test.YtbijnfhclfimeaaDoorR5
namespace Go.Apx
open Go.Proofs
set_option linter.unusedVariables false
set_option linter.unusedSimpArgs false
set_option linter.unnecessarySimpa false

/-- The bit of a world. -/
def bit (x : U) (i : Nat) : Bool := decide ((x >>> i) &&& 1#64 = 1#64)
theorem bit_eq (x : U) (i : Nat) : bit x i = x.getLsbD i := by
  unfold bit
  rw [BitVec.and_one_eq_setWidth_ofBool_getLsbD]
  have : (x >>> i).getLsbD 0 = x.getLsbD i := by simp
  rw [this]
  cases x.getLsbD i <;> decide
theorem bits_ext {x y : U} (h : ∀ i, bit x i = true ↔ bit y i = true) : x = y := by
  apply BitVec.eq_of_getLsbD_eq
  intro i _
  rw [← bit_eq, ← bit_eq, Bool.eq_iff_iff]
  exact h i
@[simp] theorem bit_or (x y : U) (i : Nat) : bit (x ||| y) i = (bit x i || bit y i) := by simp [bit_eq]
@[simp] theorem bit_and (x y : U) (i : Nat) : bit (x &&& y) i = (bit x i && bit y i) := by simp [bit_eq]
@[simp] theorem bit_zero (i : Nat) : bit 0#64 i = false := by simp [bit_eq]
theorem bit_one {i w : Nat} (hw : w < 64) : bit (1#64 <<< w) i = decide (i = w) := by
  rw [bit_eq, Bool.eq_iff_iff]
  simp
  omega
theorem bit_lt {n : Nat} {x : U} (h : within n x) {i : Nat} (hi : bit x i = true) : i < n := h i (by rwa [← bit_eq])

def stepF (x : U) : List U → Nat → U → U
  | [], _, a => a
  | s :: r, w, a => stepF x r (w + 1) (if bit x w = true then a ||| s else a)
theorem stepF_append (x : U) : ∀ (l r : List U) (w : Nat) (a : U), stepF x (l ++ r) w a = stepF x r (w + l.length) (stepF x l w a)
  | [], r, w, a => rfl
  | s :: l, r, w, a => by simp only [List.cons_append, stepF, stepF_append x l r, List.length_cons]; congr 1; omega
theorem stepF_get (x a : U) {l : List U} {i : Nat} {s : U} (h : l[i]? = some s) : stepF x (l.take (i + 1)) 0 a = if bit x i = true then stepF x (l.take i) 0 a ||| s else stepF x (l.take i) 0 a := by
  have hi := (List.getElem?_eq_some_iff.1 h).1
  rw [take_succ_of h, stepF_append]
  simp [stepF, List.length_take, Nat.min_eq_left (Nat.le_of_lt hi)]
theorem stepF_bit (x : U) (i : Nat) : ∀ (l : List U) (w : Nat) (a : U), bit (stepF x l w a) i = true ↔ bit a i = true ∨ ∃ j s, l[j]? = some s ∧ bit x (w + j) = true ∧ bit s i = true
  | [], w, a => by simp [stepF]
  | t :: l, w, a => by
    rw [stepF, stepF_bit x i l]
    constructor
    · rintro (h | ⟨j, s, h1, h2, h3⟩)
      · split at h
        · rename_i hx
          simp at h
          rcases h with h | h
          · exact .inl h
          · exact .inr ⟨0, t, rfl, hx, h⟩
        · exact .inl h
      · exact .inr ⟨j + 1, s, h1, by rw [← h2]; congr 1; omega, h3⟩
    · rintro (h | ⟨j, s, h1, h2, h3⟩)
      · left; split <;> simp [h]
      · cases j with
        | zero => left; simp at h1 h2; subst h1; rw [if_pos h2]; simp [h3]
        | succ j => exact .inr ⟨j, s, h1, by rw [← h2]; congr 1; omega, h3⟩

def reachN (S : List U) (set : U) : Nat → U
  | 0 => 0#64
  | k + 1 => stepF (set ||| reachN S set k) S 0 (reachN S set k)
noncomputable def reachF (S : List U) (set : U) : U := reachN S set 64
theorem reachN_mono (S : List U) (set : U) (k i : Nat) (h : bit (reachN S set k) i = true) : bit (reachN S set (k + 1)) i = true := by
  rw [reachN, stepF_bit]; exact .inl h
theorem reachN_stable (S : List U) (set : U) {k : Nat} (h : reachN S set (k + 1) = reachN S set k) : ∀ j, reachN S set (k + j) = reachN S set k
  | 0 => rfl
  | j + 1 => by
    have ih := reachN_stable S set h j
    rw [← Nat.add_assoc, reachN, ih]
    exact h
/-- All sets of a frame lie within its worlds. -/
def right1 (S : List U) : Prop := ∀ (w : Nat) (s : U), S[w]? = some s → within S.length s
theorem right1_of {S : List U} (h : rightF S = true) : right1 S := by
  intro w s hs
  simp [rightF] at h
  exact (within_iff h.1.2).1 (h.2 s (List.mem_of_getElem? hs))
theorem reachN_within {S : List U} (set : U) (hS : right1 S) : ∀ k, within S.length (reachN S set k)
  | 0 => within_zero _
  | k + 1 => by
    intro i hi
    rw [← bit_eq, reachN, stepF_bit] at hi
    rcases hi with hi | ⟨j, s, h1, _, h3⟩
    · exact bit_lt (reachN_within set hS k) hi
    · exact bit_lt (hS j s h1) h3
theorem within_toNat {n : Nat} {x : U} (hn : n ≤ 6) (h : within n x) : x.toNat < 64 := small_word hn ((within_iff hn).2 h)
theorem toNat_lt {x y : U} (h : ∀ i, bit x i = true → bit y i = true) (hne : x ≠ y) : x.toNat < y.toNat := by
  have : y = x ||| y := bits_ext fun i => by simp; exact h i
  have h2 : x.toNat ≤ y.toNat := by rw [this, BitVec.toNat_or]; exact Nat.left_le_or
  refine Nat.lt_of_le_of_ne h2 fun e => hne (BitVec.eq_of_toNat_eq e)
theorem reachN_big {S : List U} (set : U) : ∀ k, (∀ j, j < k → reachN S set (j + 1) ≠ reachN S set j) → k ≤ (reachN S set k).toNat
  | 0, _ => Nat.zero_le _
  | k + 1, h => by
    have ih := reachN_big set k fun j hj => h j (by omega)
    have := toNat_lt (reachN_mono S set k) (Ne.symm (h k (by omega)))
    omega
theorem reachF_of {S : List U} (set : U) {k : Nat} (hk : k ≤ 64) (h : reachN S set (k + 1) = reachN S set k) : reachF S set = reachN S set k := by
  have := reachN_stable S set h (64 - k)
  rwa [show k + (64 - k) = 64 by omega] at this
theorem reachF_stable {S : List U} (set : U) (hS : right1 S) (hn : S.length ≤ 6) : reachN S set 65 = reachF S set := by
  by_cases h : ∀ j, j < 64 → reachN S set (j + 1) ≠ reachN S set j
  · have h1 := reachN_big set 64 h
    have h2 := within_toNat hn (reachN_within set hS 64)
    omega
  · have : ∃ j, j < 64 ∧ reachN S set (j + 1) = reachN S set j := by
      refine Classical.byContradiction fun hc => h fun j hj he => hc ⟨j, hj, he⟩
    obtain ⟨j, hj, he⟩ := this
    have e1 := reachN_stable S set he (65 - j)
    have e2 := reachN_stable S set he (64 - j)
    rw [show j + (65 - j) = 65 by omega] at e1
    rw [show j + (64 - j) = 64 by omega] at e2
    rw [reachF, e1, e2]
theorem reachF_closed {S : List U} (set : U) (hS : right1 S) (hn : S.length ≤ 6) {w : Nat} {s : U} (hs : S[w]? = some s) (hw : bit set w = true ∨ bit (reachF S set) w = true) {i : Nat} (hi : bit s i = true) : bit (reachF S set) i = true := by
  rw [← reachF_stable set hS hn, reachN, stepF_bit]
  exact .inr ⟨w, s, hs, by rw [Nat.zero_add, bit_or, Bool.or_eq_true]; exact hw, hi⟩
theorem reachF_least {S : List U} (set Y : U) (hY : ∀ w s, S[w]? = some s → (bit set w = true ∨ bit Y w = true) → ∀ i, bit s i = true → bit Y i = true) {i : Nat} (hi : bit (reachF S set) i = true) : bit Y i = true := by
  have : ∀ k i, bit (reachN S set k) i = true → bit Y i = true := by
    intro k
    induction k with
    | zero => intro i hi; simp [reachN] at hi
    | succ k ih =>
      intro i hi
      rw [reachN, stepF_bit] at hi
      rcases hi with hi | ⟨j, s, h1, h2, h3⟩
      · exact ih i hi
      · rw [Nat.zero_add, bit_or, Bool.or_eq_true] at h2
        exact hY j s h1 (h2.imp id (ih j)) i h3
  exact this 64 i hi

/-! ## the reference's way -/
def passF : List U → Nat → U → U
  | [], _, s => s
  | t :: r, w, s => passF r (w + 1) (if bit s w = true then s ||| t else s)
theorem passF_append : ∀ (l r : List U) (w : Nat) (a : U), passF (l ++ r) w a = passF r (w + l.length) (passF l w a)
  | [], r, w, a => rfl
  | s :: l, r, w, a => by simp only [List.cons_append, passF, passF_append l r, List.length_cons]; congr 1; omega
theorem passF_get (a : U) {l : List U} {i : Nat} {s : U} (h : l[i]? = some s) : passF (l.take (i + 1)) 0 a = if bit (passF (l.take i) 0 a) i = true then passF (l.take i) 0 a ||| s else passF (l.take i) 0 a := by
  have hi := (List.getElem?_eq_some_iff.1 h).1
  rw [take_succ_of h, passF_append]
  simp [passF, List.length_take, Nat.min_eq_left (Nat.le_of_lt hi)]
theorem passF_mono (i : Nat) : ∀ (l : List U) (w : Nat) (a : U), bit a i = true → bit (passF l w a) i = true
  | [], w, a, h => h
  | t :: l, w, a, h => by
    rw [passF]
    refine passF_mono i l _ _ ?_
    split <;> simp [h]
theorem passF_closed : ∀ (l : List U) (w : Nat) (a : U) (j : Nat) (s : U), l[j]? = some s → bit a (w + j) = true → ∀ i, bit s i = true → bit (passF l w a) i = true
  | t :: l, w, a, 0, s, h1, h2, i, h3 => by
    simp at h1 h2; subst h1
    rw [passF, if_pos h2]
    exact passF_mono i l _ _ (by simp [h3])
  | t :: l, w, a, j + 1, s, h1, h2, i, h3 => by
    rw [passF]
    refine passF_closed l (w + 1) _ j s h1 ?_ i h3
    rw [show w + 1 + j = w + (j + 1) by omega]
    split <;> simp [h2]
theorem passF_least (Y : U) : ∀ (l : List U) (w : Nat) (a : U), (∀ j s, l[j]? = some s → bit Y (w + j) = true → ∀ i, bit s i = true → bit Y i = true) → (∀ i, bit a i = true → bit Y i = true) → ∀ i, bit (passF l w a) i = true → bit Y i = true
  | [], w, a, hl, ha, i, h => ha i h
  | t :: l, w, a, hl, ha, i, h => by
    rw [passF] at h
    refine passF_least Y l (w + 1) _ (fun j s hs hy => hl (j + 1) s hs (by rwa [show w + (j + 1) = w + 1 + j by omega])) (fun i hi => ?_) i h
    split at hi
    · rename_i hw
      simp at hi
      rcases hi with hi | hi
      · exact ha i hi
      · exact hl 0 t rfl (ha _ hw) i hi
    · exact ha i hi
def passN (S : List U) (a : U) : Nat → U
  | 0 => a
  | k + 1 => passF S 0 (passN S a k)
def cntB (x : U) : Nat → Nat
  | 0 => 0
  | n + 1 => cntB x n + if bit x n = true then 1 else 0
theorem cntB_le (x : U) : ∀ n, cntB x n ≤ n
  | 0 => Nat.le_refl _
  | n + 1 => by simp only [cntB]; have := cntB_le x n; split <;> omega
theorem cntB_mono {x y : U} (h : ∀ i, bit x i = true → bit y i = true) : ∀ n, cntB x n ≤ cntB y n
  | 0 => Nat.le_refl _
  | n + 1 => by
    simp only [cntB]
    have := cntB_mono h n
    by_cases hx : bit x n = true
    · rw [if_pos hx, if_pos (h n hx)]; omega
    · rw [if_neg hx]; omega
theorem cntB_lt {x y : U} (h : ∀ i, bit x i = true → bit y i = true) {i : Nat} (hx : bit x i = false) (hy : bit y i = true) : ∀ n, i < n → cntB x n < cntB y n
  | n + 1, hi => by
    simp only [cntB]
    by_cases e : i = n
    · subst e
      have := cntB_mono h i
      rw [if_neg (by simp [hx]), if_pos hy]; omega
    · have := cntB_lt h hx hy n (by omega)
      by_cases hxn : bit x n = true
      · rw [if_pos hxn, if_pos (h n hxn)]; omega
      · rw [if_neg hxn]; omega
theorem differ {x y : U} (h : ∀ i, bit x i = true → bit y i = true) (hne : x ≠ y) : ∃ i, bit x i = false ∧ bit y i = true := by
  refine Classical.byContradiction fun hc => hne (bits_ext fun i => ⟨h i, fun hy => ?_⟩)
  refine Classical.byContradiction fun hx => hc ⟨i, by simpa using hx, hy⟩
theorem within_of {n : Nat} {x : U} (h : ∀ i, bit x i = true → i < n) : within n x := fun i hi => h i (by rwa [bit_eq])
theorem passN_within {S : List U} (hS : right1 S) (hn : S.length ≤ 6) {a : U} (ha : within S.length a) : ∀ k, within S.length (passN S a k)
  | 0 => ha
  | k + 1 => by
    have hY : ∀ i, bit (passF S 0 (passN S a k)) i = true → bit (full S.length) i = true :=
      passF_least (full S.length) S 0 _ (fun j s hs _ i hi => by rw [bit_eq, full_bit _ _ hn]; simp; exact bit_lt (hS j s hs) hi) (fun i hi => by rw [bit_eq, full_bit _ _ hn]; simp; exact bit_lt (passN_within hS hn ha k) hi)
    exact within_of fun i hi => by
      have := hY i hi
      rw [bit_eq, full_bit _ _ hn] at this
      simpa using this
theorem passN_stable (S : List U) (a : U) {k : Nat} (h : passN S a (k + 1) = passN S a k) : ∀ j, passN S a (k + j) = passN S a k
  | 0 => rfl
  | j + 1 => by
    have ih := passN_stable S a h j
    rw [← Nat.add_assoc, passN, ih]
    exact h
theorem passN_big {S : List U} (hS : right1 S) (hn : S.length ≤ 6) {a : U} (ha : within S.length a) (h0 : 1 ≤ cntB a S.length) : ∀ k, (∀ j, j < k → passN S a (j + 1) ≠ passN S a j) → k + 1 ≤ cntB (passN S a k) S.length
  | 0, _ => by simpa [passN] using h0
  | k + 1, h => by
    have ih := passN_big hS hn ha h0 k fun j hj => h j (by omega)
    have hm : ∀ i, bit (passN S a k) i = true → bit (passN S a (k + 1)) i = true := fun i hi => passF_mono i S 0 _ hi
    obtain ⟨i, h1, h2⟩ := differ hm (Ne.symm (h k (by omega)))
    have := cntB_lt hm h1 h2 S.length (bit_lt (passN_within hS hn ha (k + 1)) h2)
    omega
theorem passN_zero (S : List U) : ∀ k, passN S 0#64 k = 0#64
  | 0 => rfl
  | k + 1 => by
    rw [passN, passN_zero S k]
    have : ∀ (l : List U) (w : Nat), passF l w 0#64 = 0#64 := by
      intro l
      induction l with
      | nil => intro w; rfl
      | cons t l ih => intro w; rw [passF]; simp [ih]
    exact this S 0
theorem cntB_zero {x : U} {n : Nat} (hx : within n x) (h : cntB x n = 0) : x = 0#64 := by
  apply bits_ext
  intro i
  simp only [bit_zero, Bool.false_eq_true, iff_false]
  intro hi
  have := cntB_lt (x := 0#64) (y := x) (fun i h => by simp at h) (i := i) (by simp) hi n (bit_lt hx hi)
  omega
theorem passN_end {S : List U} (hS : right1 S) (hn : S.length ≤ 6) {a : U} (ha : within S.length a) : passN S a (S.length + 1) = passN S a S.length := by
  by_cases h0 : cntB a S.length = 0
  · rw [cntB_zero ha h0, passN_zero, passN_zero]
  · by_cases h : ∀ j, j < S.length → passN S a (j + 1) ≠ passN S a j
    · have := passN_big hS hn ha (by omega) S.length h
      have := cntB_le (passN S a S.length) S.length
      omega
    · have : ∃ j, j < S.length ∧ passN S a (j + 1) = passN S a j := by
        refine Classical.byContradiction fun hc => h fun j hj he => hc ⟨j, hj, he⟩
      obtain ⟨j, hj, he⟩ := this
      have e1 := passN_stable S a he (S.length + 1 - j)
      have e2 := passN_stable S a he (S.length - j)
      rw [show j + (S.length + 1 - j) = S.length + 1 by omega] at e1
      rw [show j + (S.length - j) = S.length by omega] at e2
      rw [e1, e2]
theorem getD_of {S : List U} {i : Nat} {s : U} (h : S[i]? = some s) : S.getD i 0#64 = s := by simp [List.getD, h]
/-- Both ways lead to the same set. -/
theorem reach_both {S : List U} (hS : right1 S) (hn : S.length ≤ 6) {w : Nat} (hw : w < S.length) : passN S (S.getD w 0#64) S.length = reachF S (1#64 <<< w) := by
  obtain ⟨t, ht⟩ : ∃ t, S[w]? = some t := ⟨S[w], by simp [hw]⟩
  rw [getD_of ht]
  have htw := hS w t ht
  have hend := passN_end hS hn htw
  have hone : bit (1#64 <<< w) w = true := by rw [bit_one (by omega)]; simp
  refine bits_ext fun i => ⟨?_, fun hi => ?_⟩
  · have : ∀ k i, bit (passN S t k) i = true → bit (reachF S (1#64 <<< w)) i = true := by
      intro k
      induction k with
      | zero => intro i hi; exact reachF_closed _ hS hn ht (.inl hone) hi
      | succ k ih => exact passF_least _ S 0 _ (fun j s hs hy i hi => reachF_closed _ hS hn hs (.inr (by rwa [Nat.zero_add] at hy)) hi) ih
    exact this _ i
  · refine reachF_least _ _ (fun j s hs hj i hi => ?_) hi
    rcases hj with hj | hj
    · rw [bit_one (by omega)] at hj
      simp at hj
      subst hj
      rw [ht] at hs; cases hs
      have : ∀ k, bit (passN S t k) i = true := by
        intro k
        induction k with
        | zero => exact hi
        | succ k ih => exact passF_mono i S 0 _ ih
      exact this _
    · rw [← hend, passN]
      exact passF_closed S 0 _ j s hs (by rwa [Nat.zero_add]) i hi
end Go.Apx
