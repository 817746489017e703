/- Walks: sorting a few numbers. -/
import Derived.Test.YtchbhhgnkcaegaaE4
namespace Go.Apx
open Go.Proofs
set_option linter.unusedVariables false
set_option linter.unusedSimpArgs false
set_option linter.unnecessarySimpa false
set_option maxRecDepth 4000

theorem nan_c (a : Int) {h : AHeap} : AEx PP Gl 83 [i64 a] h (.ret (.sc (.bool false))) h := by
  refine enter_cmp_isNaN_int (by simp) ?_
  simp [code_cmp_isNaN_int, res_cmp_isNaN_int, ann_cmp_isNaN_int]
  exact retE (by simp [deferred, dslot]) rfl (by simp) rfl
theorem less_c (a b : Int) {h : AHeap} : AEx PP Gl 73 [i64 a, i64 b] h (.ret (.sc (.bool (decide (a < b))))) h := by
  refine enter_cmp_Less_int (by simp) ?_
  simp [code_cmp_Less_int, res_cmp_Less_int, ann_cmp_Less_int]
  refine callk (nan_c a) rfl rfl ?_
  simp
  exact retE (by simp [deferred, dslot]) rfl (by simp) rfl

def swp (l : List Int) (j : Nat) : List Int := (l.set (j + 1) (l.getD j 0)).set j (l.getD (j + 1) 0)
def sink : Nat → List Int → List Int
  | 0, l => l
  | j + 1, l => if l.getD (j + 1) 0 < l.getD j 0 then sink j (swp l j) else l
def isortN (l : List Int) : Nat → List Int
  | 0 => l
  | i + 1 => sink (i + 1) (isortN l i)
def sortF (l : List Int) : List Int := isortN l (l.length - 1)
@[simp] theorem swp_length (l : List Int) (j : Nat) : (swp l j).length = l.length := by simp [swp]
@[simp] theorem sink_length (j : Nat) (l : List Int) : (sink j l).length = l.length := by
  induction j generalizing l with
  | zero => rfl
  | succ j ih => simp only [sink]; split <;> simp [ih]
@[simp] theorem isortN_length (l : List Int) (i : Nat) : (isortN l i).length = l.length := by
  induction i with
  | zero => rfl
  | succ i ih => simp [isortN, ih]

theorem put_eq {α : Type} (L : List α) (k : Nat) (v : α) (hk : k < L.length) : List.take k L ++ v :: List.drop (k + 1) L = L.set k v := by
  rw [List.set_eq_take_append_cons_drop, if_pos hk]
theorem set_same {α : Type} {h : List α} {o : Nat} {x : α} (ho : h[o]? = some x) : h.set o x = h := by
  obtain ⟨h1, rfl⟩ := List.getElem?_eq_some_iff.1 ho
  simp

theorem insertion_c (l : List Int) (o g : Nat) (rc : RCap) (hl : l.length ≤ 2 ^ 31) {h : AHeap} (ho : h[o]? = some (.cells g (l.map i64))) :
    AEx PP Gl 67 [.rf o g 0 l.length rc, i64 0, i64 l.length] h (.ret (.tup [])) (h.set o (.cells g ((sortF l).map i64))) := by
  have hol := (List.getElem?_eq_some_iff.1 ho).1
  refine enter_slices_insertionSortOrdered_int (by simp) ?_
  simp [code_slices_insertionSortOrdered_int, res_slices_insertionSortOrdered_int, ann_slices_insertionSortOrdered_int]
  refine AWp.cnt (l.length - 1) [0, 1, 2] (fun i => [(6, i64 ((i : Int) + 1))]) (fun i => h.set o (.cells g ((isortN l i).map i64))) (fun _ => True) mixed trivial (le_of (by simp [dslot])) (by simp [isortN, set_same ho]) ?_ ?_
  · intro i hi _
    have hlt : (i : Int) + 1 < l.length := by omega
    simp [lp0_slices_insertionSortOrdered_int, hlt]
    refine AWp.till (S := Nat × List Int) (i + 1, isortN l i) (·.1) [0, 1, 2, 6] (fun s => [(7, i64 s.1)]) (fun s => h.set o (.cells g (s.2.map i64))) (fun s => s.2.length = l.length ∧ s.1 < l.length ∧ sink s.1 s.2 = isortN l (i + 1)) mixed ⟨by simp, by simp; omega, rfl⟩ (le_of (by simp [dslot])) (by simp) ?_
    rintro ⟨j, cur⟩ ⟨z1, z2, z3⟩
    simp only at z1 z2 z3
    cases j with
    | zero =>
      simp [lp1_slices_insertionSortOrdered_int]
      rw [IntWalk.i64_in ((i : Int) + 1 + 1) (by omega)]
      simp only [sink] at z3
      exact ⟨le_of (by simp [dslot]), by rw [z3]⟩
    | succ j =>
      have hx : cur[j + 1]? = some cur[j + 1] := by simp [z1, z2]
      have hy : cur[j]? = some (cur[j]'(by omega)) := by simp [show j < cur.length by omega]
      have hd1 : cur.getD (j + 1) 0 = cur[j + 1] := by simp [List.getD, hx]
      have hd2 : cur.getD j 0 = cur[j]'(by omega) := by simp [List.getD, hy]
      generalize cur[j + 1] = x at hx hd1
      generalize cur[j]'(by omega) = y at hy hd2
      have hjl : (j : Int) + 1 < l.length := by omega
      have hj1 : ((j : Int) + 1).toNat = j + 1 := by omega
      have hj0 : (0 : Int) < (j : Int) + 1 := by omega
      have hjn : (0 : Int) ≤ (j : Int) + 1 := by omega
      have hz2 : j < l.length := by omega
      have hw : IntKind.i64.wrap (j : Int) = j := IntWalk.i64_in _ (by omega)
      simp [lp1_slices_insertionSortOrdered_int, hol, hx, hy, hj1, hj0, hjn, hjl, z2, hz2, hw]
      refine callk (less_c x y) rfl rfl ?_
      have hc1 : j + 1 + 1 ≤ cur.length := by omega
      have hc2 : j + 1 ≤ cur.length := by omega
      obtain ⟨L1, hL1⟩ : ∃ L1 : List Int, L1 = cur.set (j + 1) y := ⟨_, rfl⟩
      have hl1 : L1.length = cur.length := by rw [hL1]; simp
      have hp1 : List.take (j + 1) (List.map i64 cur) ++ AV.sc (.int .i64 y) :: List.drop (j + 1 + 1) (List.map i64 cur) = List.map i64 L1 := by
        rw [put_eq _ _ _ (by simp; omega), hL1, List.map_set]
      have hp2 : List.take j (List.map i64 L1) ++ AV.sc (.int .i64 x) :: List.drop (j + 1) (List.map i64 L1) = List.map i64 (swp cur j) := by
        rw [put_eq _ _ _ (by simp [hl1]; omega)]
        simp only [swp, hd1, hd2, hL1, List.map_set]
      have hLj : L1[j]? = some y := by rw [hL1, List.getElem?_set_ne (by omega), hy]
      simp [hol, hx, hy, hj1, hj0, hjn, hjl, z2, hz2, hw, hc1, hc2, hp1, hp2, hl1, hLj]
      refine ⟨fun hlt2 => ?_, fun hge => ?_⟩
      · refine ⟨j, by omega, swp cur j, ⟨by simp [z1], hz2, ?_⟩, le_of (by simp [dslot]), rfl⟩
        rw [← z3, sink, hd1, hd2, if_pos hlt2]
      · rw [IntWalk.i64_in ((i : Int) + 1 + 1) (by omega)]
        rw [sink, hd1, hd2, if_neg (by omega)] at z3
        exact ⟨le_of (by simp [dslot]), by rw [z3]⟩
  · intro _
    have hnl : ¬ ((l.length - 1 : Nat) : Int) + 1 < l.length := by omega
    simp [lp0_slices_insertionSortOrdered_int, hnl]
    exact retE (by simp [deferred, dslot]) rfl rfl rfl
end Go.Apx
