/- Plain law: the formulas and the properties of frames. -/
import Derived.Test.YtbijnfhclfimeaaDoorK0
import Derived.Test.YtbijnfhclfimeaaDoorF3
import Derived.Test.YtbijnfhclfimeaaDoorL2
namespace Go.Apx
open Go.Proofs
set_option linter.unusedVariables false
set_option linter.unusedSimpArgs false
set_option linter.unnecessarySimpa false

def m0 : Means := [(sNot, 1), (sImp, 2), (sBox, 8), (sDia, 9)]
theorem started0 (S : List U) (h : rightF S = true) : startedF S rolesL = (some m0, 0) := by
  have h1 : meaningsF rolesL [] = some m0 := by decide +kernel
  simp only [startedF, h1]
  rw [if_neg (by simp [h])]

/-! ## what formulas mean -/
theorem g_imp (S : List U) (f : Val) (a b : Tr) (c : Cap) : holdsG S m0 f (.node sImp [a, b] c) = (full S.length &&& ~~~ holdsG S m0 f a) ||| holdsG S m0 f b := by
  have h : sget m0 sImp = 2 := by decide +kernel
  rw [holdsG, h]; rfl
theorem g_not (S : List U) (f : Val) (a : Tr) (c : Cap) : holdsG S m0 f (.node sNot [a] c) = full S.length &&& ~~~ holdsG S m0 f a := by
  have h : sget m0 sNot = 1 := by decide +kernel
  rw [holdsG, h]; rfl
theorem g_box (S : List U) (f : Val) (a : Tr) (c : Cap) : holdsG S m0 f (.node sBox [a] c) = boxF S (holdsG S m0 f a) := by
  have h : sget m0 sBox = 8 := by decide +kernel
  rw [holdsG, h]; rfl
theorem g_dia (S : List U) (f : Val) (a : Tr) (c : Cap) : holdsG S m0 f (.node sDia [a] c) = diaF S (holdsG S m0 f a) := by
  have h : sget m0 sDia = 9 := by decide +kernel
  rw [holdsG, h]; rfl
theorem g_var (S : List U) (f : Val) (s : ByteArray) (ks : List Tr) (c : Cap) (h : sget m0 s = 0) : holdsG S m0 f (.node s ks c) = f s := by
  rw [holdsG, if_pos h]
theorem bitsF_bit (p : U → Bool) (i : Nat) : ∀ (l : List U) (w : Nat) (a : U), w + l.length ≤ 64 → (bit (bitsF p l w a) i = true ↔ bit a i = true ∨ ∃ j s, l[j]? = some s ∧ i = w + j ∧ p s = true)
  | [], w, a, h => by simp [bitsF]
  | t :: l, w, a, h => by
    rw [List.length_cons] at h
    rw [bitsF, bitsF_bit p i l (w + 1) _ (by omega)]
    constructor
    · rintro (h1 | ⟨j, s, h1, h2, h3⟩)
      · split at h1
        · rename_i hp
          rw [bit_or, bit_one (by omega)] at h1
          simp at h1
          rcases h1 with h1 | h1
          · exact .inl h1
          · exact .inr ⟨0, t, rfl, h1, hp⟩
        · exact .inl h1
      · exact .inr ⟨j + 1, s, h1, by omega, h3⟩
    · rintro (h1 | ⟨j, s, h1, h2, h3⟩)
      · left; split <;> simp [h1]
      · cases j with
        | zero =>
          left
          simp at h1 h2; subst h1 h2
          rw [if_pos h3, bit_or, bit_one (by omega)]
          simp
        | succ j => exact .inr ⟨j, s, h1, by omega, h3⟩
theorem bit_full {n : Nat} (hn : n ≤ 6) (i : Nat) : bit (full n) i = decide (i < n) := by rw [bit_eq, full_bit _ _ hn]
theorem sub_iff {s a : U} {n : Nat} (hs : within n s) : s &&& ~~~ a = 0#64 ↔ ∀ v, bit s v = true → bit a v = true := by
  constructor
  · intro h v hv
    have := congrArg (fun z : U => z.getLsbD v) h
    rw [bit_eq] at hv ⊢
    simp only [BitVec.getLsbD_and, BitVec.getLsbD_not, hv] at this
    have hlt : v < 64 := by
      rcases Nat.lt_or_ge v 64 with h1 | h1
      · exact h1
      · rw [BitVec.getLsbD_of_ge _ _ h1] at hv; cases hv
    simpa [hlt] using this
  · intro h
    apply bits_ext
    intro i
    simp only [bit_zero, Bool.false_eq_true, iff_false]
    intro hi
    rw [bit_and, Bool.and_eq_true] at hi
    have h3 := h i hi.1
    have h4 := hi.2
    rw [bit_eq, BitVec.getLsbD_not, ← bit_eq, h3] at h4
    simp at h4
theorem meet_iff {s a : U} : s &&& a ≠ 0#64 ↔ ∃ v, bit s v = true ∧ bit a v = true := by
  constructor
  · intro h
    refine Classical.byContradiction fun hc => h (bits_ext fun i => ?_)
    simp only [bit_zero, Bool.false_eq_true, iff_false, bit_and, Bool.and_eq_true]
    exact fun hi => hc ⟨i, hi⟩
  · rintro ⟨v, h1, h2⟩ h
    have : bit (s &&& a) v = true := by rw [bit_and, h1, h2]; rfl
    rw [h] at this; simp at this
theorem box_bit {S : List U} (h1 : right1 S) (hn : S.length ≤ 6) (a : U) (i : Nat) : bit (boxF S a) i = true ↔ i < S.length ∧ ∀ v, seesF S i v = true → bit a v = true := by
  rw [boxF, bitsF_bit _ _ _ _ _ (by omega)]
  constructor
  · rintro (h | ⟨j, s, h2, h3, h4⟩)
    · simp at h
    · have : i = j := by omega
      subst this
      refine ⟨(List.getElem?_eq_some_iff.1 h2).1, ?_⟩
      rw [decide_eq_true_eq, sub_iff (h1 i s h2)] at h4
      intro v hv
      rw [seesF, getD_of h2] at hv
      exact h4 v hv
  · rintro ⟨hi, h⟩
    obtain ⟨s, hs⟩ : ∃ s, S[i]? = some s := ⟨S[i], by simp [hi]⟩
    refine .inr ⟨i, s, hs, by omega, ?_⟩
    rw [decide_eq_true_eq, sub_iff (h1 i s hs)]
    intro v hv
    exact h v (by rw [seesF, getD_of hs]; exact hv)
theorem dia_bit {S : List U} (hn : S.length ≤ 6) (a : U) (i : Nat) : bit (diaF S a) i = true ↔ i < S.length ∧ ∃ v, seesF S i v = true ∧ bit a v = true := by
  rw [diaF, bitsF_bit _ _ _ _ _ (by omega)]
  constructor
  · rintro (h | ⟨j, s, h2, h3, h4⟩)
    · simp at h
    · have : i = j := by omega
      subst this
      refine ⟨(List.getElem?_eq_some_iff.1 h2).1, ?_⟩
      have h5 : s &&& a ≠ 0#64 := by simpa using h4
      obtain ⟨v, h6, h7⟩ := meet_iff.1 h5
      exact ⟨v, by rw [seesF, getD_of h2]; exact h6, h7⟩
  · rintro ⟨hi, v, h2, h3⟩
    obtain ⟨s, hs⟩ : ∃ s, S[i]? = some s := ⟨S[i], by simp [hi]⟩
    rw [seesF, getD_of hs] at h2
    exact .inr ⟨i, s, hs, by omega, by simpa using meet_iff.2 ⟨v, h2, h3⟩⟩
theorem imp_bit {n : Nat} (hn : n ≤ 6) (a b : U) {i : Nat} (hi : i < n) : bit ((full n &&& ~~~ a) ||| b) i = true ↔ (bit a i = true → bit b i = true) := by
  rw [bit_or, bit_and, bit_full hn]
  have : bit (~~~ a) i = !bit a i := by rw [bit_eq, BitVec.getLsbD_not, ← bit_eq]; simp; intro _; omega
  rw [this]
  simp [hi]
  cases bit a i <;> simp
theorem full_iff {n : Nat} (hn : n ≤ 6) {x : U} (hx : within n x) : x = full n ↔ ∀ i, i < n → bit x i = true := by
  constructor
  · rintro rfl i hi; rw [bit_full hn]; simpa using hi
  · intro h
    refine bits_ext fun i => ⟨fun hi => ?_, fun hi => ?_⟩
    · rw [bit_full hn]; simpa using bit_lt hx hi
    · rw [bit_full hn] at hi; exact h i (by simpa using hi)
theorem g_within {S : List U} (hn : S.length ≤ 6) (m : Means) (f : Val) (hf : ∀ s, within S.length (f s)) (t : Tr) : within S.length (holdsG S m f t) := by
  have hget : ∀ (l : List U) (i : Nat), (∀ x ∈ l, within S.length x) → within S.length (l.getD i 0#64) := by
    intro l i h
    rw [List.getD_eq_getElem?_getD]
    cases hx : l[i]? with
    | none => exact within_zero _
    | some x => exact h x (List.mem_of_getElem? hx)
  have hfull := within_full S.length hn
  have hmean : ∀ n l, (∀ x ∈ l, within S.length x) → within S.length (meanF S n l) := by
    intro n l h
    have ha := hget l 0 h
    have hb := hget l 1 h
    unfold meanF
    simp only
    split; exact within_and hfull
    split; exact within_or (within_and hfull) hb
    split; exact within_and ha
    split; exact within_or ha hb
    split; exact within_and hfull
    split; exact hfull
    split; exact within_zero _
    split
    · exact within_bits _ S 0 _ _ (by omega) (within_zero _)
    · exact within_bits _ S 0 _ _ (by omega) (within_zero _)
  have hL : ∀ l, holdsGL S m f l = l.map (holdsG S m f) := by
    intro l; induction l with
    | nil => rfl
    | cons x l ih => rw [holdsGL, ih]; rfl
  match t with
  | .node l ks c =>
    rw [holdsG]
    split
    · exact hf l
    · refine hmean _ _ fun x hx => ?_
      rw [hL] at hx
      obtain ⟨k, hk, rfl⟩ := List.mem_map.1 hx
      have : SizeOf.sizeOf k < SizeOf.sizeOf (Tr.node l ks c) := by
        obtain ⟨i, hi⟩ := List.getElem?_of_mem hk
        exact Tr.sizeOf_kids (t := .node l ks c) hi
      exact g_within hn m f hf k
termination_by SizeOf.sizeOf t

/-- The set of those worlds that have a property. -/
def mkSet (P : Nat → Bool) : Nat → U
  | 0 => 0#64
  | k + 1 => if P k = true then mkSet P k ||| (1#64 <<< k) else mkSet P k
theorem mkSet_bit (P : Nat → Bool) : ∀ (n i : Nat), n ≤ 64 → (bit (mkSet P n) i = true ↔ i < n ∧ P i = true)
  | 0, i, h => by simp [mkSet]
  | k + 1, i, h => by
    have ih := mkSet_bit P k i (by omega)
    rw [mkSet]
    by_cases hP : P k = true
    · rw [if_pos hP, bit_or, bit_one (by omega), Bool.or_eq_true, ih, decide_eq_true_eq]
      constructor
      · rintro (h1 | rfl)
        · exact ⟨by omega, h1.2⟩
        · exact ⟨by omega, hP⟩
      · rintro ⟨h1, h2⟩
        by_cases hik : i = k
        · exact .inr hik
        · exact .inl ⟨by omega, h2⟩
    · rw [if_neg hP, ih]
      constructor
      · rintro ⟨h1, h2⟩; exact ⟨by omega, h2⟩
      · rintro ⟨h1, h2⟩
        refine ⟨?_, h2⟩
        by_cases hik : i = k
        · subst hik; exact absurd h2 hP
        · omega
end Go.Apx
