/- Walks: the reference: least, Follows, Valid. -/
import Derived.Test.YtbijnfhclfimeaaDoorR3
namespace Go.Apx
open Go.Proofs
set_option linter.unusedVariables false
set_option linter.unusedSimpArgs false
set_option linter.unnecessarySimpa false
set_option maxRecDepth 4000

/-! ## the least world that is missing -/
def leastF (s : U) : Nat := (List.range 7).findIdx fun w => decide ((s >>> w) &&& 1#64 ≠ 1#64)
def tzC (x : U) : Int := if x = 0#64 then 64 else ((tab64[(((x &&& -x) * 285870213051353865#64) >>> 58).toNat]?).getD 0 : Nat)
theorem tzF_eq (x : U) : tzF x = tzC x := by
  unfold tzF tzC nv
  rw [mulU_eq]
  rfl
theorem small_word {n : Nat} {s : U} (hn : n ≤ 6) (hs : s &&& ~~~ full n = 0#64) : s.toNat < 64 := by
  have h1 : ∀ n, n ≤ 6 → (~~~ full n) &&& ~~~ 63#64 = ~~~ 63#64 := by decide +kernel
  have h2 : s &&& ~~~ 63#64 = 0#64 := by
    rw [← h1 n hn, ← BitVec.and_assoc, hs]; simp
  have h3 : s = s &&& 63#64 := by
    have h4 : (63#64 ||| ~~~ 63#64 : U) = BitVec.allOnes 64 := by decide +kernel
    have : s = s &&& (63#64 ||| ~~~ 63#64) := by rw [h4, BitVec.and_allOnes]
    rw [BitVec.and_or_distrib_left, h2] at this
    simpa using this
  rw [h3, BitVec.toNat_and]
  exact Nat.lt_of_le_of_lt Nat.and_le_right (by decide)
theorem word_cases {p : U → Prop} {s : U} (hs : s.toNat < 64) (h : ∀ k, k < 64 → p (BitVec.ofNat 64 k)) : p s := by
  have := h s.toNat hs
  simpa using this
def chk (n k : Nat) : Bool :=
  let s : U := BitVec.ofNat 64 k
  !decide (s &&& ~~~ full n = 0#64) || (decide (leastF s ≤ 6) && !decide ((s >>> leastF s) &&& 1#64 = 1#64) && (List.range (leastF s)).all (fun j => decide ((s >>> j) &&& 1#64 = 1#64)) && (decide (s = full n) || decide (tzC (full n &&& ~~~ s) = (leastF s : Int))))
theorem chk_all : (List.range 7).all (fun n => (List.range 64).all (chk n)) = true := by decide +kernel
theorem least_spec (n : Nat) (s : U) (hn : n ≤ 6) (hs : s &&& ~~~ full n = 0#64) : leastF s ≤ 6 ∧ (s >>> leastF s) &&& 1#64 ≠ 1#64 ∧ (∀ j, j < leastF s → (s >>> j) &&& 1#64 = 1#64) ∧ (s ≠ full n → tzF (full n &&& ~~~ s) = leastF s) := by
  have h1 := List.all_eq_true.1 (List.all_eq_true.1 chk_all n (List.mem_range.2 (by omega))) s.toNat (List.mem_range.2 (small_word hn hs))
  rw [tzF_eq]
  unfold chk at h1
  simp only [BitVec.ofNat_toNat, BitVec.setWidth_eq, hs] at h1
  simp only [decide_true, Bool.not_true, Bool.false_or, Bool.and_eq_true, decide_eq_true_eq, Bool.or_eq_true, Bool.not_eq_true', decide_eq_false_iff_not, List.all_eq_true, List.mem_range] at h1
  obtain ⟨⟨⟨h2, h3⟩, h4⟩, h5⟩ := h1
  exact ⟨h2, h3, h4, fun hne => h5.resolve_left hne⟩

theorem least_c (S : List U) (c : Cap) (s : U) {h : AHeap} (hS : S.length ≤ 6) (hs : s &&& ~~~ full S.length = 0#64) : AEx PP Gl 41 [.agg [.sl 1 (S.map u64) c], u64 s] h (.ret (i64 (leastF s))) h := by
  obtain ⟨l1, l2, l3, _⟩ := least_spec S.length s hS hs
  refine enter_ref35_least (by simp) ?_
  simp [code_ref35_least, res_ref35_least, ann_ref35_least]
  refine AWp.till (S := Nat) 0 (fun i => 7 - i) [1] (fun i => [(5, i64 i)]) (fun _ => h) (fun i => i ≤ leastF s) mixed (Nat.zero_le _) (le_of (by simp [dslot])) rfl ?_
  intro i hi
  have him : i % 18446744073709551616 = i := by omega
  by_cases hlt : i < leastF s
  · have hb := l3 i hlt
    simp -implicitDefEqProofs [lp0_ref35_least, him, hb]
    rw [IntWalk.i64_in ((i : Int) + 1) (by omega)]
    exact ⟨i + 1, by omega, by omega, le_of (by simp [dslot])⟩
  · have hi' : i = leastF s := by omega
    simp -implicitDefEqProofs [lp0_ref35_least, him]
    rw [hi']
    simp -implicitDefEqProofs [l2]
    exact retE (by simp [deferred, dslot]) rfl (by simp) rfl
end Go.Apx
