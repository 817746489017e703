/- Walks: the reference: Generated. -/
import Derived.Test.YtbijnfhclfimeaaDoorF4
namespace Go.Apx
open Go.Proofs
set_option linter.unusedVariables false
set_option linter.unusedSimpArgs false
set_option linter.unnecessarySimpa false
set_option maxRecDepth 4000

theorem and_one_bit (x : U) (u : Nat) : (x >>> u) &&& 1#64 = if bit x u = true then 1#64 else 0#64 := by
  by_cases h : bit x u = true
  · rw [if_pos h]; simpa [bit] using h
  · rw [if_neg h]
    apply BitVec.eq_of_getLsbD_eq
    intro i hi
    rw [BitVec.getLsbD_and, BitVec.getLsbD_one]
    by_cases h0 : i = 0
    · subst h0
      rw [bit_eq] at h
      simp at h ⊢
      exact h
    · simp [h0]
theorem GeneratedR_c (S : List U) (c : Cap) (w : Int) {h : AHeap} (hS : S.length < 2 ^ 20) : AEx PP Gl 29 [.agg [.sl 1 (S.map u64) c], .sc (.int .i64 w)] h (.ret (genV (GenF S w))) h := by
  refine enter_ref35_Generated (by simp) ?_
  simp -implicitDefEqProofs [code_ref35_Generated, res_ref35_Generated, ann_ref35_Generated]
  refine callk (frameOK_c S c hS) (by simp) rfl ?_
  simp -implicitDefEqProofs
  refine ⟨fun hr => ?_, fun hr => ?_⟩
  rotate_left
  · refine retD (v := genV ([], [], 371)) (by simp [deferred, dslot]) (by simp [evalRes, evalRes1, genV, grown]) (by simp [genV, grown, AV.strip, stripL, AV.inb, inbL, Cap.strip, Cap.inb]) ?_ rfl
    simp [GenF, hr, genV, grown, AV.strip, stripL, Cap.strip]
  have hr' : rightF S = true := by simpa using hr
  have hn : S.length ≤ 6 := by simp [rightF] at hr'; exact hr'.1.2
  have h1 := right1_of hr'
  by_cases w0 : w < 0
  · simp -implicitDefEqProofs [w0]
    refine retD (v := genV ([], [], 5)) (by simp [deferred, dslot]) (by simp [evalRes, evalRes1, genV, grown]) (by simp [genV, grown, AV.strip, stripL, AV.inb, inbL, Cap.strip, Cap.inb]) ?_ rfl
    simp [GenF, hr', w0, genV, grown, AV.strip, stripL, Cap.strip]
  by_cases w6 : (S.length : Int) ≤ w
  · simp -implicitDefEqProofs [w0, w6]
    refine retD (v := genV ([], [], 5)) (by simp [deferred, dslot]) (by simp [evalRes, evalRes1, genV, grown]) (by simp [genV, grown, AV.strip, stripL, AV.inb, inbL, Cap.strip, Cap.inb]) ?_ rfl
    simp [GenF, hr', w6, genV, grown, AV.strip, stripL, Cap.strip]
  obtain ⟨x, rfl⟩ : ∃ x : Nat, w = x := ⟨w.toNat, by omega⟩
  have hx : x < S.length := by omega
  have hG : GenF S x = (genS S x, genW S x, 0) := by simp [GenF, hr', w6, w0]
  rw [hG]
  simp -implicitDefEqProofs [w0, w6]
  refine callk (reachR_c S c x h1 hn hx) (by simp) rfl ?_
  have hxm : x % 18446744073709551616 = x := by omega
  simp -implicitDefEqProofs [hxm]
  obtain ⟨A, hA⟩ : ∃ A : Nat → List AV, ∀ i, A i = (worldsL (genSet S x) i).map iw := ⟨_, fun _ => rfl⟩
  have hA0 : A 0 = [] := by simp [hA, worldsL]
  have hAl : ∀ i, (A i).length ≤ i := fun i => by rw [hA, List.length_map]; exact worldsL_len _ _
  refine AWp.cnt S.length [2, 4, 7] (fun i => [(8, apd 1 (A i) (h.length + 1)), (9, i64 i)]) (fun i => h ++ .cells 0 [.sl 0 [] .nil] :: apdH (A i).length) (fun _ => True) mixed trivial (le_of (by simp [dslot, hA0])) (by simp [hA0]) ?_ ?_
  · intro i hi _
    have hlt : (i : Int) < S.length := by omega
    have hAs : A (i + 1) = A i ++ (if bit (genSet S x) i = true then [iw i] else []) := by
      rw [hA, hA, worldsL_succ, List.map_append]; split <;> rfl
    have him : i % 18446744073709551616 = i := by omega
    simp -implicitDefEqProofs [lp0_ref35_Generated, hlt, him]
    have hlen : (h ++ [AObj.cells 0 [.sl 0 [] .nil]]).length = h.length + 1 := by simp
    refine ⟨fun hb => ?_, fun hb => ?_⟩
    · have hb' : bit (genSet S x) i = true := by rw [genSet, bit, decide_eq_true_eq]; exact hb
      rw [if_pos hb'] at hAs
      have := hAl i
      refine appk (A i) (iw i) (h ++ [.cells 0 [.sl 0 [] .nil]]) (by rw [hlen]; simp) (by simp [iw]) (by simp) (len_tok (by omega)) ?_
      simp -implicitDefEqProofs
      rw [IntWalk.i64_in ((i : Int) + 1) (by omega)]
      exact ⟨le_of (by simp [dslot, hAs]), by simp [hAs]⟩
    · have hb' : ¬ bit (genSet S x) i = true := by rw [genSet, bit, decide_eq_true_eq]; exact hb
      rw [if_neg hb', List.append_nil] at hAs
      rw [IntWalk.i64_in ((i : Int) + 1) (by omega)]
      exact ⟨le_of (by simp [dslot, hAs]), by simp [hAs]⟩
  · intro _
    obtain ⟨W, hW⟩ : ∃ W, W = genW S x := ⟨_, rfl⟩
    have hWn : W ≠ [] := by
      intro e
      have : x ∈ genW S x := by
        rw [genW, worldsL, List.mem_filter]
        exact ⟨List.mem_range.2 hx, by rw [genSet, bit_or, bit_one (by omega)]; simp⟩
      rw [← hW, e] at this; simp at this
    have hWl : W.length ≤ 6 := by rw [hW]; exact Nat.le_trans (worldsL_len _ _) hn
    have hWm : ∀ v ∈ W, v < S.length := by
      intro v hv
      rw [hW, genW, worldsL, List.mem_filter] at hv
      exact List.mem_range.1 hv.1
    have hAn : A S.length = W.map iw := by rw [hA, hW, genW]
    obtain ⟨B, hB⟩ : ∃ B : Nat → List AV, ∀ j, B j = (W.take j).map fun v => u64 (cutF (S.getD v 0#64) W 0 0#64) := ⟨_, fun _ => rfl⟩
    have hB0 : B 0 = [] := by simp [hB]
    have hBn : B W.length = (genS S x).map u64 := by rw [hB, List.take_length, genS, ← hW]; simp
    have hSh : apdH (W.map iw).length = [.tok W.length] := by
      cases W with
      | nil => exact absurd rfl hWn
      | cons a W => simp
    have hapd : apd 1 (W.map iw) (h.length + 1) = .sl 1 (W.map iw) (.tok (h.length + 1)) := by
      cases W with
      | nil => exact absurd rfl hWn
      | cons a W => simp
    rw [hAn, hSh, hapd]
    simp -implicitDefEqProofs [lp0_ref35_Generated]
    refine AWp.cnt W.length [2, 4, 8, 10] (fun j => [(11, i64 j)]) (fun j => h ++ .cells 0 [.sl 0 [] .nil] :: .tok W.length :: .cells 0 [apd 1 (B j) (h.length + 3)] :: apdH (B j).length) (fun _ => True) mixed trivial (le_of (by simp [dslot])) (by simp [hB0]) ?_ ?_
    · intro j hj _
      obtain ⟨v, hv⟩ : ∃ v, W[j]? = some v := ⟨W[j], by simp [hj]⟩
      have hlt : (j : Int) < W.length := by omega
      have hvS := hWm v (List.mem_of_getElem? hv)
      obtain ⟨s, hs⟩ : ∃ s, S[v]? = some s := ⟨S[v], by simp [hvS]⟩
      have hBl : (B j).length ≤ 6 := by rw [hB, List.length_map, List.length_take]; omega
      have hBs : B (j + 1) = B j ++ [u64 (cutF s W 0 0#64)] := by
        rw [hB, hB, take_succ_of hv, List.map_append, List.map_cons, List.map_nil, getD_of hs]
      simp -implicitDefEqProofs [lp1_ref35_Generated, hlt, hv, iw]
      refine AWp.cnt W.length [2, 4, 8, 10, 11] (fun k => [(12, u64 (cutF s (W.take k) 0 0#64)), (13, i64 k)]) (fun k => h ++ .cells 0 [.sl 0 [] .nil] :: .tok W.length :: .cells 0 [apd 1 (B j) (h.length + 3)] :: apdH (B j).length) (fun _ => True) mixed trivial (le_of (by simp [dslot, cutF])) (by simp) ?_ ?_
      · intro k hk _
        obtain ⟨u, hu⟩ : ∃ u, W[k]? = some u := ⟨W[k], by simp [hk]⟩
        have hltk : (k : Int) < W.length := by omega
        have hg := cutF_get s 0#64 hu
        have hkm : k % 18446744073709551616 = k := by omega
        have huS := hWm u (List.mem_of_getElem? hu)
        rw [and_one_bit] at hg
        simp -implicitDefEqProofs [lp2_ref35_Generated, hltk, hu, hv, iw, hWn]
        refine callk (seesR_c S c v u (by omega) hvS huS) (by simp) rfl ?_
        have hse : seesF S v u = bit s u := by rw [seesF, getD_of hs]
        rw [hse]
        cases hb : bit s u with
        | true =>
          rw [hb, if_pos rfl] at hg
          simp -implicitDefEqProofs [hkm]
          rw [IntWalk.i64_in ((k : Int) + 1) (by omega)]
          exact le_of (by simp [dslot, hg, iw])
        | false =>
          rw [hb] at hg
          simp at hg
          simp -implicitDefEqProofs [hkm]
          rw [IntWalk.i64_in ((k : Int) + 1) (by omega)]
          exact le_of (by simp [dslot, hg, iw])
      · intro _
        simp -implicitDefEqProofs [lp2_ref35_Generated]
        have hlen : (h ++ [AObj.cells 0 [.sl 0 [] .nil], .tok W.length, .cells 0 [apd 1 (B j) (h.length + 3)]]).length = h.length + 3 := by simp
        refine appk (B j) (u64 (cutF s W 0 0#64)) (h ++ [.cells 0 [.sl 0 [] .nil], .tok W.length, .cells 0 [apd 1 (B j) (h.length + 3)]]) (by rw [hlen]; simp) (by simp) (by simp) (len_tok (by omega)) ?_
        simp -implicitDefEqProofs
        rw [IntWalk.i64_in ((j : Int) + 1) (by omega)]
        exact ⟨le_of (by simp [dslot]), by rw [hBs], by rw [hBs]; simp⟩
    · intro _
      simp -implicitDefEqProofs [lp1_ref35_Generated, hBn]
      refine retD (v := .tup [.agg [apd 1 ((genS S x).map u64) (h.length + 3)], .sl 1 (W.map iw) (.tok (h.length + 1)), .sc (.int .i64 0)]) (by simp [deferred, dslot]) (by simp [evalRes, evalRes1]) ?_ ?_ rfl
      · simp only [AV.strip, stripL, AV.inb, inbL, apdU_strip, grownU_inb, Cap.strip, Cap.inb, stripL_enc iw (fun _ => rfl), inbL_enc iw _ (fun _ => rfl)]
        rfl
      · simp only [AV.strip, stripL, apdU_strip, Cap.strip, stripL_enc iw (fun _ => rfl), genV, ← hW, grown]
        simp [hWn]
end Go.Apx
