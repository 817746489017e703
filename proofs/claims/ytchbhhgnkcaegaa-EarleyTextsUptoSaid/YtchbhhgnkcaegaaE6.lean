/- Walks: sort of a few numbers, and what it gives. -/
import Derived.Test.YtchbhhgnkcaegaaE5
import Derived.Test.YtchbhhgnkcaegaaCodeT
namespace Go.Apx
open Go.Proofs
set_option linter.unusedVariables false
set_option linter.unusedSimpArgs false
set_option linter.unnecessarySimpa false
set_option maxRecDepth 100000

/-! ## closed calls at any heap -/
theorem Lends.same {h : AHeap} : ∀ {us : List AV}, inbL 0 us = true → Lends h us us
  | [], _ => .nil
  | v :: r, hb => by
    simp only [inbL, Bool.and_eq_true] at hb
    exact .cons (lend_same hb.1) (Lends.same hb.2)
theorem KOk.at {P : Program} {G : Globs} {f : FuncId} {args : List AV} {v : AV} (hk : KOk P G ⟨f, args, [], v, []⟩) (hv : flatV v = true) (ha : inbL 0 args = true) {h : AHeap} : AEx P G f args h (.ret v) h := by
  refine lend (vs := args) ((hk [] rfl).mono fun r h' hr => ?_) hv (Lends.same ha)
  obtain ⟨h1, h2, _⟩ := hr
  refine ⟨h1, ?_⟩
  cases h' with
  | nil => rfl
  | cons a b => simp at h2

def lenK (n k : Nat) : KI := ⟨66, [.sc (.int .u64 n)], [], .sc (.int .i64 k), []⟩
theorem len_c (n : Nat) (hn : n ≤ 12) {h : AHeap} : ∃ k : Nat, AEx PP Gl 66 [.sc (.int .u64 n)] h (.ret (.sc (.int .i64 k))) h := by
  have key : ∀ n k : Nat, (match callI PP Gl (findT tbl) [] 20 [] (lenK n k).f (lenK n k).args (lenK n k).h with
      | some (v, h') => v.eqb (lenK n k).v && eqbH h' (lenK n k).h'
      | none => false) = true → AEx PP Gl 66 [.sc (.int .u64 n)] h (.ret (.sc (.int .i64 k))) h := fun n k hk =>
    KOk.at (KOk.interp (k := lenK n k) mixed (findT_ok tbl_ok) (by simp) 20 hk) rfl rfl
  have cases : n = 0 ∨ n = 1 ∨ n = 2 ∨ n = 3 ∨ n = 4 ∨ n = 5 ∨ n = 6 ∨ n = 7 ∨ n = 8 ∨ n = 9 ∨ n = 10 ∨ n = 11 ∨ n = 12 := by omega
  rcases cases with rfl | rfl | rfl | rfl | rfl | rfl | rfl | rfl | rfl | rfl | rfl | rfl | rfl
  · exact ⟨0, key 0 0 (by kernel_rfl)⟩
  · exact ⟨1, key 1 1 (by kernel_rfl)⟩
  · exact ⟨2, key 2 2 (by kernel_rfl)⟩
  · exact ⟨2, key 3 2 (by kernel_rfl)⟩
  · exact ⟨3, key 4 3 (by kernel_rfl)⟩
  · exact ⟨3, key 5 3 (by kernel_rfl)⟩
  · exact ⟨3, key 6 3 (by kernel_rfl)⟩
  · exact ⟨3, key 7 3 (by kernel_rfl)⟩
  · exact ⟨4, key 8 4 (by kernel_rfl)⟩
  · exact ⟨4, key 9 4 (by kernel_rfl)⟩
  · exact ⟨4, key 10 4 (by kernel_rfl)⟩
  · exact ⟨4, key 11 4 (by kernel_rfl)⟩
  · exact ⟨4, key 12 4 (by kernel_rfl)⟩

theorem pdq_c (l : List Int) (o g : Nat) (rc : RCap) (lim : Int) (hl : l.length ≤ 12) {h : AHeap} (ho : h[o]? = some (.cells g (l.map i64))) :
    AEx PP Gl 65 [.rf o g 0 l.length rc, i64 0, i64 l.length, i64 lim] h (.ret (.tup [])) (h.set o (.cells g ((sortF l).map i64))) := by
  refine enter_slices_pdqsortOrdered_int (by simp) ?_
  simp [code_slices_pdqsortOrdered_int, res_slices_pdqsortOrdered_int, ann_slices_pdqsortOrdered_int]
  refine AWp.cnt 0 [0, 1, 2, 3, 8, 9] (fun i => []) (fun i => h) (fun _ => True) mixed trivial (le_of (by simp [dslot])) rfl (fun i hi => by omega) ?_
  intro _
  have hle : (l.length : Int) ≤ 12 := by omega
  have hw : IntKind.i64.wrap (l.length : Int) = l.length := IntWalk.i64_in _ (by omega)
  simp -implicitDefEqProofs [lp0_slices_pdqsortOrdered_int, hle, hw]
  refine callk (insertion_c l o g rc (by omega) ho) rfl rfl ?_
  simp
  exact retE (by simp [deferred, dslot]) rfl rfl rfl

theorem sort_c (l : List Int) (o g : Nat) (rc : RCap) (hl : l.length ≤ 12) {h : AHeap} (ho : h[o]? = some (.cells g (l.map i64))) :
    AEx PP Gl 62 [.rf o g 0 l.length rc] h (.ret (.tup [])) (h.set o (.cells g ((sortF l).map i64))) := by
  obtain ⟨k, hk⟩ := len_c l.length hl (h := h)
  have hw : IntKind.u64.wrap (l.length : Int) = l.length := by
    simp only [IntKind.wrap, IntKind.bits, IntKind.signed]
    simp
    omega
  refine enter_slices_Sort_int_int (by simp) ?_
  simp [code_slices_Sort_int_int, res_slices_Sort_int_int, ann_slices_Sort_int_int, hw]
  refine callk hk rfl rfl ?_
  simp
  refine callk (pdq_c l o g rc k hl ho) rfl rfl ?_
  simp
  exact retE (by simp [deferred, dslot]) rfl rfl rfl

/-! ## what it gives -/
theorem swp_perm (l : List Int) (j : Nat) (h : j + 1 < l.length) : (swp l j).Perm l := by
  have e : swp l j = (l.set (j + 1) l[j]).set j l[j + 1] := by
    simp [swp, List.getD, List.getElem?_eq_getElem h, List.getElem?_eq_getElem (show j < l.length by omega)]
  rw [e]
  have h1 : l = l.take j ++ (l[j] :: l[j + 1] :: l.drop (j + 2)) := by
    rw [← List.drop_eq_getElem_cons (i := j + 1) h, ← List.drop_eq_getElem_cons (i := j) (by omega), List.take_append_drop]
  have h2 : (l.set (j + 1) l[j]).set j l[j + 1] = l.take j ++ (l[j + 1] :: l[j] :: l.drop (j + 2)) := by
    apply List.ext_getElem?
    intro i
    rw [List.getElem?_set, List.getElem?_set]
    simp only [List.length_set]
    by_cases c1 : j = i
    · subst c1
      rw [List.getElem?_append_right (by simp; omega)]
      simp [show j < l.length by omega, Nat.min_eq_left (show j ≤ l.length by omega)]
    · by_cases c2 : j + 1 = i
      · subst c2
        rw [List.getElem?_append_right (by simp; omega)]
        simp [h, Nat.min_eq_left (show j ≤ l.length by omega)]
      · rw [if_neg c1, if_neg c2]
        rcases Nat.lt_or_ge i j with c3 | c3
        · rw [List.getElem?_append_left (by simp; omega), List.getElem?_take, if_pos c3]
        · rw [List.getElem?_append_right (by simp; omega)]
          simp only [List.length_take, Nat.min_eq_left (show j ≤ l.length by omega)]
          obtain ⟨q, rfl⟩ : ∃ q, i = j + 2 + q := ⟨i - (j + 2), by omega⟩
          rw [show j + 2 + q - j = q + 1 + 1 by omega]
          simp
  rw [h2]
  conv => rhs; rw [h1]
  exact List.Perm.append_left _ (List.Perm.swap _ _ _)
theorem sink_perm : ∀ (j : Nat) (l : List Int), j < l.length → (sink j l).Perm l
  | 0, l, _ => .refl _
  | j + 1, l, h => by
    simp only [sink]
    split
    · exact (sink_perm j (swp l j) (by simp; omega)).trans (swp_perm l j h)
    · exact .refl _
theorem isortN_perm (l : List Int) : ∀ i, i < l.length → (isortN l i).Perm l
  | 0, _ => .refl _
  | i + 1, h => (sink_perm (i + 1) _ (by simp; omega)).trans (isortN_perm l i (by omega))
theorem sortF_perm (l : List Int) : (sortF l).Perm l := by
  unfold sortF
  cases l with
  | nil => exact .refl _
  | cons a l => exact isortN_perm _ _ (by simp)
@[simp] theorem sortF_length (l : List Int) : (sortF l).length = l.length := by simp [sortF]

/-- The first n are in order, leaving the place j out of it. -/
def Ord (l : List Int) (n : Nat) : Prop := ∀ i k (x y : Int), i < k → k < n → l[i]? = some x → l[k]? = some y → x ≤ y
def OrdBut (l : List Int) (n j : Nat) : Prop := ∀ i k (x y : Int), i < k → k < n → (k ≠ j) → l[i]? = some x → l[k]? = some y → x ≤ y
theorem swp_get (l : List Int) (j : Nat) (h : j + 1 < l.length) (i : Nat) : (swp l j)[i]? = if i = j then l[j + 1]? else if i = j + 1 then l[j]? else l[i]? := by
  have h0 : j < l.length := by omega
  simp only [swp, List.getD, List.getElem?_eq_getElem h, List.getElem?_eq_getElem h0, Option.getD_some]
  rw [List.getElem?_set, List.getElem?_set]
  simp only [List.length_set]
  by_cases c1 : j = i
  · subst c1; simp [h0]
  · by_cases c2 : j + 1 = i
    · subst c2; simp [h]
    · simp [c1, c2, Ne.symm c1, Ne.symm c2]
theorem sink_ord : ∀ (j : Nat) (l : List Int) (n : Nat), j < n → n ≤ l.length → OrdBut l n j → (∀ k (x y : Int), j < k → k < n → l[j]? = some x → l[k]? = some y → x ≤ y) → Ord (sink j l) n
  | 0, l, n, hj, hn, ho, hr => by
    intro i k x y hik hk hx hy
    exact ho i k x y hik hk (by omega) hx hy
  | j + 1, l, n, hj, hn, ho, hr => by
    have e1 : l[j + 1]? = some (l[j + 1]'(by omega)) := List.getElem?_eq_getElem _
    have e0 : l[j]? = some (l[j]'(by omega)) := List.getElem?_eq_getElem _
    generalize l[j + 1]'(by omega) = a at e1
    generalize l[j]'(by omega) = b at e0
    simp only [sink, List.getD, e1, e0, Option.getD_some]
    split
    · rename_i hlt
      refine sink_ord j (swp l j) n (by omega) (by simpa using hn) ?_ ?_
      · intro i k x y hik hk hkj hx hy
        rw [swp_get l j (by omega)] at hx hy
        rw [if_neg hkj] at hy
        by_cases c1 : k = j + 1
        · rw [if_pos c1, e0] at hy; cases hy
          by_cases c2 : i = j
          · rw [if_pos c2, e1] at hx; cases hx; omega
          · rw [if_neg c2, if_neg (by omega)] at hx
            exact ho i j x b (by omega) (by omega) (by omega) hx e0
        · rw [if_neg c1] at hy
          by_cases c2 : i = j
          · rw [if_pos c2, e1] at hx; cases hx
            exact hr k a y (by omega) hk e1 hy
          · rw [if_neg c2] at hx
            by_cases c3 : i = j + 1
            · rw [if_pos c3, e0] at hx; cases hx
              exact ho j k b y (by omega) hk (by omega) e0 hy
            · rw [if_neg c3] at hx
              exact ho i k x y hik hk c1 hx hy
      · intro k x y hjk hk hx hy
        rw [swp_get l j (by omega)] at hx hy
        rw [if_pos rfl, e1] at hx; cases hx
        rw [if_neg (by omega)] at hy
        by_cases c1 : k = j + 1
        · rw [if_pos c1, e0] at hy; cases hy; omega
        · rw [if_neg c1] at hy
          exact hr k a y (by omega) hk e1 hy
    · rename_i hge
      intro i k x y hik hk hx hy
      by_cases c1 : k = j + 1
      · subst c1
        rw [e1] at hy; cases hy
        by_cases c2 : i = j
        · subst c2; rw [e0] at hx; cases hx; omega
        · have := ho i j x b (by omega) (by omega) (by omega) hx e0
          omega
      · exact ho i k x y hik hk c1 hx hy
theorem isortN_ord (l : List Int) : ∀ i, i < l.length → Ord (isortN l i) (i + 1)
  | 0, h => by intro i k x y hik hk; omega
  | i + 1, h => by
    have ih := isortN_ord l i (by omega)
    refine sink_ord (i + 1) (isortN l i) (i + 2) (by omega) (by simp; omega) ?_ ?_
    · intro a k x y hak hk hki hx hy
      exact ih a k x y hak (by omega) hx hy
    · intro k x y h1 h2; omega
theorem sortF_ord (l : List Int) : Ord (sortF l) l.length := by
  cases l with
  | nil => intro i k x y h1 h2; simp at h2
  | cons a l =>
    have := isortN_ord (a :: l) l.length (by simp)
    simpa [sortF] using this
end Go.Apx
