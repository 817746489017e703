/- Plain law: the frame that a world generates. -/
import Derived.Test.YtbijnfhclfimeaaDoorK4
import Derived.Test.YtbijnfhclfimeaaDoorF2
namespace Go.Apx
open Go.Proofs
set_option linter.unusedVariables false
set_option linter.unusedSimpArgs false
set_option linter.unnecessarySimpa false
set_option linter.unusedSectionVars false

theorem m0_cases (s : ByteArray) : sget m0 s = 0 ∨ sget m0 s = 1 ∨ sget m0 s = 2 ∨ sget m0 s = 8 ∨ sget m0 s = 9 := by
  simp only [m0, sget, sfind]
  split; simp
  split; simp
  split; simp
  split <;> simp

/-! ## a frame inside another one -/
/-- The frame T lies in S: its i-th world is L[i], and S leads nowhere else. -/
structure Inside (S T : List U) (L : List Nat) : Prop where
  len : T.length = L.length
  lt : ∀ (i w : Nat), L[i]? = some w → w < S.length
  sees : ∀ (i j w v : Nat), L[i]? = some w → L[j]? = some v → (seesF T i j = true ↔ seesF S w v = true)
  closed : ∀ (i w v : Nat), L[i]? = some w → seesF S w v = true → ∃ j : Nat, L[j]? = some v

section
variable {S T : List U} {L : List Nat} (hI : Inside S T L) (hS : right1 S) (hn : S.length ≤ 6) (hT : right1 T) (hm : T.length ≤ 6)
include hI hS hn hT hm
mutual
theorem inside_holds {f g : Val} (hfg : ∀ (s : ByteArray) (i w : Nat), L[i]? = some w → bit (g s) i = bit (f s) w) : ∀ (t : Tr), formed m0 t = true → ∀ (i w : Nat), L[i]? = some w → bit (holdsG T m0 g t) i = bit (holdsG S m0 f t) w
  | .node lb ks c, hf, i, w, hi => by
    have hil : i < T.length := by rw [hI.len]; exact (List.getElem?_eq_some_iff.1 hi).1
    have hwl := hI.lt i w hi
    rw [formed, Bool.and_eq_true, decide_eq_true_eq] at hf
    obtain ⟨hk, hfl⟩ := hf
    have hks := inside_holdsL hfg ks hfl
    rcases m0_cases lb with h | h | h | h | h
    · rw [holdsG, holdsG, if_pos h, if_pos h]; exact hfg lb i w hi
    · rw [h] at hk
      have hk1 : ks.length = 1 := by simp [kidsN] at hk; omega
      obtain ⟨a, rfl⟩ : ∃ a, ks = [a] := by cases ks with | nil => cases hk1 | cons a r => cases r with | nil => exact ⟨a, rfl⟩ | cons b r => simp at hk1
      have ha := hks 0 a rfl i w hi
      rw [holdsG, holdsG, if_neg (by omega), if_neg (by omega), h]
      show bit (full T.length &&& ~~~ holdsG T m0 g a) i = bit (full S.length &&& ~~~ holdsG S m0 f a) w
      have hnot : ∀ (x : U) (j : Nat), j < 64 → bit (~~~ x) j = !bit x j := fun x j hj => by rw [bit_eq, BitVec.getLsbD_not, ← bit_eq]; simp [hj]
      rw [bit_and, bit_and, bit_full hm, bit_full hn, hnot _ _ (by omega), hnot _ _ (by omega), ha]
      simp [hil, hwl]
    · rw [h] at hk
      have hk1 : ks.length = 2 := by simp [kidsN] at hk; omega
      obtain ⟨a, b, rfl⟩ : ∃ a b, ks = [a, b] := by
        cases ks with
        | nil => cases hk1
        | cons a r => cases r with
          | nil => cases hk1
          | cons b r => cases r with
            | nil => exact ⟨a, b, rfl⟩
            | cons d r => simp at hk1
      have ha := hks 0 a rfl i w hi
      have hb := hks 1 b rfl i w hi
      rw [holdsG, holdsG, if_neg (by omega), if_neg (by omega), h]
      show bit ((full T.length &&& ~~~ holdsG T m0 g a) ||| holdsG T m0 g b) i = bit ((full S.length &&& ~~~ holdsG S m0 f a) ||| holdsG S m0 f b) w
      rw [Bool.eq_iff_iff, imp_bit hm _ _ hil, imp_bit hn _ _ hwl, ha, hb]
    · rw [h] at hk
      have hk1 : ks.length = 1 := by simp [kidsN] at hk; omega
      obtain ⟨a, rfl⟩ : ∃ a, ks = [a] := by cases ks with | nil => cases hk1 | cons a r => cases r with | nil => exact ⟨a, rfl⟩ | cons b r => simp at hk1
      have ha := hks 0 a rfl
      rw [holdsG, holdsG, if_neg (by omega), if_neg (by omega), h]
      show bit (boxF T (holdsG T m0 g a)) i = bit (boxF S (holdsG S m0 f a)) w
      rw [Bool.eq_iff_iff, box_bit hT hm, box_bit hS hn]
      constructor
      · rintro ⟨_, h1⟩
        refine ⟨hwl, fun v hv => ?_⟩
        obtain ⟨j, hj⟩ := hI.closed i w v hi hv
        rw [← ha j v hj]
        exact h1 j ((hI.sees i j w v hi hj).2 hv)
      · rintro ⟨_, h1⟩
        refine ⟨hil, fun j hj => ?_⟩
        have hjl := (R_lt hT hj).2
        rw [hI.len] at hjl
        have hLj : L[j]? = some L[j] := by simp [hjl]
        rw [ha j _ hLj]
        exact h1 _ ((hI.sees i j w _ hi hLj).1 hj)
    · rw [h] at hk
      have hk1 : ks.length = 1 := by simp [kidsN] at hk; omega
      obtain ⟨a, rfl⟩ : ∃ a, ks = [a] := by cases ks with | nil => cases hk1 | cons a r => cases r with | nil => exact ⟨a, rfl⟩ | cons b r => simp at hk1
      have ha := hks 0 a rfl
      rw [holdsG, holdsG, if_neg (by omega), if_neg (by omega), h]
      show bit (diaF T (holdsG T m0 g a)) i = bit (diaF S (holdsG S m0 f a)) w
      rw [Bool.eq_iff_iff, dia_bit hm, dia_bit hn]
      constructor
      · rintro ⟨_, j, hj, h1⟩
        have hjl := (R_lt hT hj).2
        rw [hI.len] at hjl
        have hLj : L[j]? = some L[j] := by simp [hjl]
        refine ⟨hwl, L[j], (hI.sees i j w _ hi hLj).1 hj, ?_⟩
        rw [← ha j _ hLj]; exact h1
      · rintro ⟨_, v, hv, h1⟩
        obtain ⟨j, hj⟩ := hI.closed i w v hi hv
        refine ⟨hil, j, (hI.sees i j w v hi hj).2 hv, ?_⟩
        rw [ha j v hj]; exact h1
theorem inside_holdsL {f g : Val} (hfg : ∀ (s : ByteArray) (i w : Nat), L[i]? = some w → bit (g s) i = bit (f s) w) : ∀ (l : List Tr), formedL m0 l = true → ∀ (q : Nat) (t : Tr), l[q]? = some t → ∀ (i w : Nat), L[i]? = some w → bit (holdsG T m0 g t) i = bit (holdsG S m0 f t) w
  | [], hf, q, t, hq => by simp at hq
  | x :: r, hf, q, t, hq => by
    rw [formedL, Bool.and_eq_true] at hf
    cases q with
    | zero => simp at hq; subst hq; exact inside_holds hfg x hf.1
    | succ q => exact inside_holdsL hfg r hf.2 q t hq
end
end

/-! ## the generated frame lies inside -/
theorem cutF_bit (x : U) (i : Nat) : ∀ (l : List Nat) (k : Nat) (a : U), k + l.length ≤ 64 → (bit (cutF x l k a) i = true ↔ bit a i = true ∨ ∃ j v, l[j]? = some v ∧ i = k + j ∧ bit x v = true)
  | [], k, a, h => by simp [cutF]
  | v :: l, k, a, h => by
    rw [List.length_cons] at h
    have h1 : bit (((x >>> v) &&& 1#64) <<< k) i = (decide (i = k) && bit x v) := by
      have e : (x >>> v) &&& 1#64 = if bit x v = true then 1#64 else 0#64 := by
        by_cases h : bit x v = true
        · rw [if_pos h]; simpa [bit] using h
        · rw [if_neg h]
          apply BitVec.eq_of_getLsbD_eq
          intro i hi
          rw [BitVec.getLsbD_and, BitVec.getLsbD_one]
          by_cases h0 : i = 0
          · subst h0
            rw [bit_eq] at h
            simp at h ⊢
            exact h
          · simp [h0]
      rw [e]
      by_cases h : bit x v = true
      · rw [if_pos h, bit_one (by omega), h]; simp
      · rw [if_neg h]; simp [h]
    rw [cutF, cutF_bit x i l (k + 1) _ (by omega), bit_or, h1]
    constructor
    · rintro (h2 | ⟨j, u, h2, h3, h4⟩)
      · simp at h2
        rcases h2 with h2 | ⟨h2, h3⟩
        · exact .inl h2
        · exact .inr ⟨0, v, rfl, h2, h3⟩
      · exact .inr ⟨j + 1, u, h2, by omega, h4⟩
    · rintro (h2 | ⟨j, u, h2, h3, h4⟩)
      · exact .inl (by simp [h2])
      · cases j with
        | zero => simp at h2 h3; subst h2 h3; exact .inl (by simp [h4])
        | succ j => exact .inr ⟨j, u, h2, by omega, h4⟩
theorem cutF_at {x : U} {l : List Nat} (hl : l.length ≤ 6) {i w : Nat} (hi : l[i]? = some w) : bit (cutF x l 0 0#64) i = bit x w := by
  rw [Bool.eq_iff_iff, cutF_bit x i l 0 _ (by omega)]
  constructor
  · rintro (h | ⟨j, v, h1, h2, h3⟩)
    · simp at h
    · have : i = j := by omega
      subst this
      rw [hi] at h1; cases h1; exact h3
  · intro h; exact .inr ⟨i, w, hi, by omega, h⟩
theorem cutF_within {x : U} {l : List Nat} (hl : l.length ≤ 6) : within l.length (cutF x l 0 0#64) := within_of fun i hi => by
  rcases (cutF_bit x i l 0 _ (by omega)).1 hi with h | ⟨j, v, h1, h2, h3⟩
  · simp at h
  · have := (List.getElem?_eq_some_iff.1 h1).1; omega
section
variable {S : List U} (hS : right1 S) (hn : S.length ≤ 6) {x : Nat} (hx : x < S.length)
include hn in
theorem genW_len : (genW S x).length ≤ 6 := Nat.le_trans (worldsL_len _ _) hn
theorem genS_len : (genS S x).length = (genW S x).length := by simp [genS]
include hS hn hx in
theorem gen_inside : Inside S (genS S x) (genW S x) where
  len := genS_len
  lt i w h := by
    have := List.mem_of_getElem? h
    rw [genW, worldsL, List.mem_filter] at this
    exact List.mem_range.1 this.1
  sees i j w v hi hj := by
    have e : (genS S x)[i]? = some (cutF (S.getD w 0#64) (genW S x) 0 0#64) := by rw [genS, List.getElem?_map, hi]; rfl
    rw [seesF, getD_of e, cutF_at (genW_len hn) hj]; rfl
  closed i w v hi hv := by
    have hw := List.mem_of_getElem? hi
    rw [genW, worldsL, List.mem_filter] at hw
    have hwb : bit (genSet S x) w = true := hw.2
    have l := R_lt hS hv
    obtain ⟨s, hs⟩ : ∃ s, S[w]? = some s := ⟨S[w]'l.1, by simp [l.1]⟩
    rw [seesF, getD_of hs] at hv
    rw [genSet, bit_or, Bool.or_eq_true] at hwb
    have hr := reachF_closed (1#64 <<< x) hS hn hs hwb.symm hv
    have : v ∈ genW S x := by
      rw [genW, worldsL, List.mem_filter]
      exact ⟨List.mem_range.2 l.2, by show bit (genSet S x) v = true; rw [genSet, bit_or, hr]; rfl⟩
    exact List.getElem?_of_mem this
include hn in
theorem gen_right1 : right1 (genS S x) := by
  intro i s hs
  rw [genS, List.getElem?_map, Option.map_eq_some_iff] at hs
  obtain ⟨w, _, rfl⟩ := hs
  rw [genS_len]
  exact cutF_within (genW_len hn)
include hn hx in
theorem gen_right : rightF (genS S x) = true := by
  have h1 := gen_right1 (S := S) (x := x) hn
  have hl : (genS S x).length ≤ 6 := by rw [genS_len]; exact genW_len hn
  have hne : 1 ≤ (genS S x).length := by
    rw [genS_len]
    have : x ∈ genW S x := by
      rw [genW, worldsL, List.mem_filter]
      exact ⟨List.mem_range.2 hx, by show bit (genSet S x) x = true; rw [genSet, bit_or, bit_one (by omega)]; simp⟩
    exact List.length_pos_of_mem this
  simp only [rightF, hl, hne, decide_true, Bool.true_and, Bool.not_eq_true', List.any_eq_false, Bool.not_eq_true, Bool.not_eq_false', decide_eq_true_eq]
  intro s hs
  obtain ⟨i, hi⟩ := List.getElem?_of_mem hs
  have := (within_iff hl).2 (h1 i s hi)
  simp [this]
end
end Go.Apx
