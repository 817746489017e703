/- Walks: the frame that a world generates. -/
import Derived.Test.YtbijnfhclfimeaaDoorF1
namespace Go.Apx
open Go.Proofs
set_option linter.unusedVariables false
set_option linter.unusedSimpArgs false
set_option linter.unnecessarySimpa false
set_option maxRecDepth 4000

/-- The worlds of a set, in order. -/
def worldsL (x : U) (n : Nat) : List Nat := (List.range n).filter (bit x)
theorem worldsL_succ (x : U) (n : Nat) : worldsL x (n + 1) = worldsL x n ++ (if bit x n = true then [n] else []) := by
  rw [worldsL, List.range_succ, List.filter_append, worldsL]
  by_cases h : bit x n = true <;> simp [h]
theorem worldsL_len (x : U) (n : Nat) : (worldsL x n).length ≤ n := by
  have := List.length_filter_le (bit x) (List.range n)
  simpa [worldsL] using this
/-- What a world of the new frame sees. -/
def cutF (x : U) : List Nat → Nat → U → U
  | [], _, a => a
  | v :: r, i, a => cutF x r (i + 1) (a ||| (((x >>> v) &&& 1#64) <<< i))
theorem cutF_append (x : U) : ∀ (l r : List Nat) (w : Nat) (a : U), cutF x (l ++ r) w a = cutF x r (w + l.length) (cutF x l w a)
  | [], r, w, a => rfl
  | s :: l, r, w, a => by simp only [List.cons_append, cutF, cutF_append x l r, List.length_cons]; congr 1; omega
theorem cutF_get (x a : U) {l : List Nat} {i : Nat} {s : Nat} (h : l[i]? = some s) : cutF x (l.take (i + 1)) 0 a = cutF x (l.take i) 0 a ||| (((x >>> s) &&& 1#64) <<< i) := by
  have hi := (List.getElem?_eq_some_iff.1 h).1
  rw [take_succ_of h, cutF_append]
  simp [cutF, List.length_take, Nat.min_eq_left (Nat.le_of_lt hi)]
def iw (n : Nat) : AV := .sc (.int .i64 n)
noncomputable def genSet (S : List U) (w : Nat) : U := reachF S (1#64 <<< w) ||| (1#64 <<< w)
noncomputable def genW (S : List U) (w : Nat) : List Nat := worldsL (genSet S w) S.length
noncomputable def genS (S : List U) (w : Nat) : List U := (genW S w).map fun v => cutF (S.getD v 0#64) (genW S w) 0 0#64
noncomputable def GenF (S : List U) (w : Int) : List U × List Nat × Int := if rightF S = false then ([], [], 371) else if w < 0 ∨ (S.length : Int) ≤ w then ([], [], 5) else (genS S w.toNat, genW S w.toNat, 0)
def genV (p : List U × List Nat × Int) : AV := .tup [.agg [grown 1 (p.1.map u64)], grown 1 (p.2.1.map iw), i64 p.2.2]

theorem apdU_strip (l : List U) (t : Nat) : (apd 1 (l.map u64) t).strip = grown 1 (l.map u64) := by
  simp [apd, grown, AV.strip, stripL_enc u64 (fun _ => rfl)]; split <;> rfl
theorem grownU_inb (n : Nat) (l : List U) : (grown 1 (l.map u64)).inb n = true := by
  simp [grown, AV.inb, inbL_enc u64 _ (fun _ => rfl)]; split <;> rfl

theorem Generated_c (S : List U) (c : Cap) (w : Int) {h : AHeap} (hS : S.length < 2 ^ 20) : AEx PP Gl 27 [.agg [.sl 1 (S.map u64) c], .sc (.int .i64 w)] h (.ret (genV (GenF S w))) h := by
  refine enter_modal_Generated (by simp) ?_
  simp -implicitDefEqProofs [code_modal_Generated, res_modal_Generated, ann_modal_Generated]
  refine callk (right_c S c (by omega)) (by simp) rfl ?_
  simp -implicitDefEqProofs
  refine ⟨fun hr => ?_, fun hr => ?_⟩
  rotate_left
  · refine retD (v := genV ([], [], 371)) (by simp [deferred, dslot]) (by simp [evalRes, evalRes1, genV, grown]) (by simp [genV, grown, AV.strip, stripL, AV.inb, inbL, Cap.strip, Cap.inb]) ?_ rfl
    simp [GenF, hr, genV, grown, AV.strip, stripL, Cap.strip]
  have hr' : rightF S = true := by simpa using hr
  have hn : S.length ≤ 6 := by simp [rightF] at hr'; exact hr'.1.2
  have h1 := right1_of hr'
  by_cases w0 : w < 0
  · simp -implicitDefEqProofs [w0]
    refine retD (v := genV ([], [], 5)) (by simp [deferred, dslot]) (by simp [evalRes, evalRes1, genV, grown]) (by simp [genV, grown, AV.strip, stripL, AV.inb, inbL, Cap.strip, Cap.inb]) ?_ rfl
    simp [GenF, hr', w0, genV, grown, AV.strip, stripL, Cap.strip]
  by_cases w6 : (S.length : Int) ≤ w
  · simp -implicitDefEqProofs [w0, w6]
    refine retD (v := genV ([], [], 5)) (by simp [deferred, dslot]) (by simp [evalRes, evalRes1, genV, grown]) (by simp [genV, grown, AV.strip, stripL, AV.inb, inbL, Cap.strip, Cap.inb]) ?_ rfl
    simp [GenF, hr', w6, genV, grown, AV.strip, stripL, Cap.strip]
  obtain ⟨x, rfl⟩ : ∃ x : Nat, w = x := ⟨w.toNat, by omega⟩
  have hx : x < S.length := by omega
  have hG : GenF S x = (genS S x, genW S x, 0) := by simp [GenF, hr', w6, w0]
  rw [hG]
  simp -implicitDefEqProofs [w0, w6]
  refine callk (reach_c S c (1#64 <<< x) h1 hn) (by simp) rfl ?_
  simp -implicitDefEqProofs
  obtain ⟨A, hA⟩ : ∃ A : Nat → List AV, ∀ i, A i = (worldsL (genSet S x) i).map iw := ⟨_, fun _ => rfl⟩
  have hA0 : A 0 = [] := by simp [hA, worldsL]
  have hAl : ∀ i, (A i).length ≤ i := fun i => by rw [hA, List.length_map]; exact worldsL_len _ _
  refine AWp.cnt S.length [2, 4, 7, 39] (fun i => [(8, apd 1 (A i) (h.length + 1)), (40, i64 i)]) (fun i => h ++ .cells 0 [.sl 0 [] .nil] :: apdH (A i).length) (fun _ => True) mixed trivial (le_of (by simp [dslot, hA0])) (by simp [hA0]) ?_ ?_
  · intro i hi _
    have hlt : (i : Int) < S.length := by omega
    have hAs : A (i + 1) = A i ++ (if bit (genSet S x) i = true then [iw i] else []) := by
      rw [hA, hA, worldsL_succ, List.map_append]; split <;> rfl
    simp -implicitDefEqProofs [lp0_modal_Generated, hlt]
    have hlen : (h ++ [AObj.cells 0 [.sl 0 [] .nil]]).length = h.length + 1 := by simp
    refine ⟨fun hb => ?_, fun hb => ?_⟩
    · have hb' : bit (genSet S x) i = true := by rw [genSet, bit, decide_eq_true_eq]; exact hb
      rw [if_pos hb'] at hAs
      have := hAl i
      refine appk (A i) (iw i) (h ++ [.cells 0 [.sl 0 [] .nil]]) (by rw [hlen]; simp) (by simp [iw]) (by simp) (len_tok (by omega)) ?_
      simp -implicitDefEqProofs
      rw [IntWalk.i64_in ((i : Int) + 1) (by omega)]
      exact ⟨le_of (by simp [dslot, hAs]), by simp [hAs]⟩
    · have hb' : ¬ bit (genSet S x) i = true := by rw [genSet, bit, decide_eq_true_eq]; exact hb
      rw [if_neg hb', List.append_nil] at hAs
      rw [IntWalk.i64_in ((i : Int) + 1) (by omega)]
      exact ⟨le_of (by simp [dslot, hAs]), by simp [hAs]⟩
  · intro _
    obtain ⟨W, hW⟩ : ∃ W, W = genW S x := ⟨_, rfl⟩
    have hWn : W ≠ [] := by
      intro e
      have : x ∈ genW S x := by
        rw [genW, worldsL, List.mem_filter]
        exact ⟨List.mem_range.2 hx, by rw [genSet, bit_or, bit_one (by omega)]; simp⟩
      rw [← hW, e] at this; simp at this
    have hWl : W.length ≤ 6 := by rw [hW]; exact Nat.le_trans (worldsL_len _ _) hn
    have hWm : ∀ v ∈ W, v < S.length := by
      intro v hv
      rw [hW, genW, worldsL, List.mem_filter] at hv
      exact List.mem_range.1 hv.1
    have hAn : A S.length = W.map iw := by rw [hA, hW, genW]
    obtain ⟨B, hB⟩ : ∃ B : Nat → List AV, ∀ j, B j = (W.take j).map fun v => u64 (cutF (S.getD v 0#64) W 0 0#64) := ⟨_, fun _ => rfl⟩
    have hB0 : B 0 = [] := by simp [hB]
    have hBn : B W.length = (genS S x).map u64 := by rw [hB, List.take_length, genS, ← hW]; simp
    have hSh : apdH (W.map iw).length = [.tok W.length] := by
      cases W with
      | nil => exact absurd rfl hWn
      | cons a W => simp
    have hapd : apd 1 (W.map iw) (h.length + 1) = .sl 1 (W.map iw) (.tok (h.length + 1)) := by
      cases W with
      | nil => exact absurd rfl hWn
      | cons a W => simp
    rw [hAn, hSh, hapd]
    simp -implicitDefEqProofs [lp0_modal_Generated]
    refine AWp.cnt W.length [2, 4, 8, 10, 53, 54] (fun j => [(55, i64 j)]) (fun j => h ++ .cells 0 [.sl 0 [] .nil] :: .tok W.length :: .cells 0 [apd 1 (B j) (h.length + 3)] :: apdH (B j).length) (fun _ => True) mixed trivial (le_of (by simp [dslot])) (by simp [hB0]) ?_ ?_
    · intro j hj _
      obtain ⟨v, hv⟩ : ∃ v, W[j]? = some v := ⟨W[j], by simp [hj]⟩
      have hlt : (j : Int) < W.length := by omega
      have hvS := hWm v (List.mem_of_getElem? hv)
      obtain ⟨s, hs⟩ : ∃ s, S[v]? = some s := ⟨S[v], by simp [hvS]⟩
      have hBl : (B j).length ≤ 6 := by rw [hB, List.length_map, List.length_take]; omega
      have hBs : B (j + 1) = B j ++ [u64 (cutF s W 0 0#64)] := by
        rw [hB, hB, take_succ_of hv, List.map_append, List.map_cons, List.map_nil, getD_of hs]
      simp -implicitDefEqProofs [lp1_modal_Generated, hlt, hv, iw]
      refine AWp.cnt W.length [2, 4, 8, 10, 12, 53, 54, 55, 59, 60] (fun k => [(13, u64 (cutF s (W.take k) 0 0#64)), (61, i64 k)]) (fun k => h ++ .cells 0 [.sl 0 [] .nil] :: .tok W.length :: .cells 0 [apd 1 (B j) (h.length + 3)] :: apdH (B j).length) (fun _ => True) mixed trivial (le_of (by simp [dslot, cutF])) (by simp) ?_ ?_
      · intro k hk _
        obtain ⟨u, hu⟩ : ∃ u, W[k]? = some u := ⟨W[k], by simp [hk]⟩
        have hltk : (k : Int) < W.length := by omega
        have hg := cutF_get s 0#64 hu
        simp -implicitDefEqProofs [lp2_modal_Generated, hltk, hu, iw, hs]
        rw [IntWalk.i64_in ((k : Int) + 1) (by omega)]
        exact le_of (by simp [dslot, hg, iw])
      · intro _
        simp -implicitDefEqProofs [lp2_modal_Generated]
        have hlen : (h ++ [AObj.cells 0 [.sl 0 [] .nil], .tok W.length, .cells 0 [apd 1 (B j) (h.length + 3)]]).length = h.length + 3 := by simp
        refine appk (B j) (u64 (cutF s W 0 0#64)) (h ++ [.cells 0 [.sl 0 [] .nil], .tok W.length, .cells 0 [apd 1 (B j) (h.length + 3)]]) (by rw [hlen]; simp) (by simp) (by simp) (len_tok (by omega)) ?_
        simp -implicitDefEqProofs
        rw [IntWalk.i64_in ((j : Int) + 1) (by omega)]
        exact ⟨le_of (by simp [dslot]), by rw [hBs], by rw [hBs]; simp⟩
    · intro _
      simp -implicitDefEqProofs [lp1_modal_Generated, hBn]
      refine retD (v := .tup [.agg [apd 1 ((genS S x).map u64) (h.length + 3)], .sl 1 (W.map iw) (.tok (h.length + 1)), .sc (.int .i64 0)]) (by simp [deferred, dslot]) (by simp [evalRes, evalRes1]) ?_ ?_ rfl
      · simp only [AV.strip, stripL, AV.inb, inbL, apdU_strip, grownU_inb, Cap.strip, Cap.inb, stripL_enc iw (fun _ => rfl), inbL_enc iw _ (fun _ => rfl)]
        rfl
      · simp only [AV.strip, stripL, apdU_strip, Cap.strip, stripL_enc iw (fun _ => rfl), genV, ← hW, grown]
        simp [hWn]
end Go.Apx
