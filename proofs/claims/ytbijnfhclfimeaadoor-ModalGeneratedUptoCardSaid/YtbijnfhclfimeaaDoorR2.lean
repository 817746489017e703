/- Walks: the reference: sizes, variables, holds. -/
import Derived.Test.YtbijnfhclfimeaaDoorR1
namespace Go.Apx
open Go.Proofs
set_option linter.unusedVariables false
set_option linter.unusedSimpArgs false
set_option linter.unnecessarySimpa false
set_option maxRecDepth 4000

mutual
def sizeR : Tr → Int → Int × Int
  | .node _ ks _, deep => sizeRL ks deep (1, deep)
def sizeRL : List Tr → Int → Int × Int → Int × Int
  | [], _, acc => acc
  | k :: r, deep, acc => if acc.1 ≤ 4000 then sizeRL r deep (acc.1 + (sizeR k (deep + 1)).1, max acc.2 (sizeR k (deep + 1)).2) else acc
end
theorem sizeR_eq (t : Tr) (deep : Int) : sizeR t deep = sizeRL t.kids deep (1, deep) := by cases t; rfl
/-- What is known of a size. -/
def SzOk (res : Int × Int) (a b deep : Int) (n d : Nat) : Prop :=
  a ≤ res.1 ∧ res.1 ≤ a + n ∧ b ≤ res.2 ∧ res.2 ≤ max b (deep + d) ∧ (a + n ≤ 4000 → res.1 = a + n ∧ res.2 = max b (deep + d)) ∧ (4000 < a + n → 4000 < res.1)
mutual
theorem sizeR_ok : ∀ (t : Tr) (deep : Int), SzOk (sizeR t deep) 0 deep (deep - 1) t.nodes t.depth ∧ 1 ≤ (sizeR t deep).1
  | .node _ ks _, deep => by
    have := sizeRL_ok ks deep (1, deep) (Int.le_refl _) (by simp)
    simp only [SzOk, sizeR, Tr.nodes, Tr.depth] at this ⊢
    omega
theorem sizeRL_ok : ∀ (l : List Tr) (deep : Int) (acc : Int × Int), deep ≤ acc.2 → 0 ≤ acc.1 → SzOk (sizeRL l deep acc) acc.1 acc.2 deep (Tr.nodesL l) (Tr.depthL l)
  | [], deep, acc, h, h' => by
    simp only [SzOk, sizeRL, Tr.nodesL, Tr.depthL]; omega
  | k :: r, deep, acc, h, h' => by
    have h1 := sizeR_ok k (deep + 1)
    have h2 := sizeRL_ok r deep (acc.1 + (sizeR k (deep + 1)).1, max acc.2 (sizeR k (deep + 1)).2) (by simp only; omega) (by simp only; have := h1.2; omega)
    have h3 := Tr.nodes_pos k
    have h4 := Tr.depth_eq k
    simp only [SzOk, sizeRL, Tr.nodesL, Tr.depthL] at h1 h2 ⊢
    generalize sizeR k (deep + 1) = p at h1 h2 ⊢
    split
    · omega
    · omega
end

theorem sizeR_c (t : Tr) (deep : Int) {h : AHeap} (hn : t.nodes ≤ 2 ^ 40) (hd : 0 ≤ deep) (hd' : deep + t.nodes ≤ 2 ^ 41) : AEx PP Gl 62 [encT t, .sc (.int .i64 deep)] h (.ret (.tup [i64 (sizeR t deep).1, i64 (sizeR t deep).2])) h := by
  have hne := Tr.nodes_eq t
  have hlen := Tr.length_le t.kids
  refine enter_ref35_size (by simp) ?_
  simp [code_ref35_size, res_ref35_size, ann_ref35_size, encT_eq t]
  refine AWp.till (S := Nat × (Int × Int)) (0, (1, deep)) (fun s => t.kids.length - s.1) [1, 2] (fun s => [(6, i64 s.2.1), (7, i64 s.2.2), (8, i64 s.1)]) (fun _ => h)
    (fun s => s.1 ≤ t.kids.length ∧ sizeR t deep = sizeRL (t.kids.drop s.1) deep s.2 ∧ 1 ≤ s.2.1 ∧ s.2.1 ≤ 1 + Tr.nodesL (t.kids.take s.1) ∧ deep ≤ s.2.2 ∧ s.2.2 ≤ deep + t.nodes) mixed ⟨Nat.zero_le _, by rw [sizeR_eq]; rfl, by simp, by simp [Tr.nodesL], by simp, by simp only; omega⟩ (le_of (by simp [dslot])) rfl ?_
  rintro ⟨i, n, d⟩ ⟨hi, hz, h1, h2, h3, h4⟩
  simp only at hi hz h1 h2 h3 h4
  have hnt := Tr.nodesL_take t.kids i
  by_cases hlt : i < t.kids.length
  · obtain ⟨k, hki⟩ : ∃ k, t.kids[i]? = some k := ⟨t.kids[i], by simp [hlt]⟩
    have hlt' : (i : Int) < t.kids.length := by omega
    have hne0 : t.kids ≠ [] := by intro e; rw [e] at hlt; simp at hlt
    rw [drop_get hki] at hz
    simp only [sizeRL] at hz
    by_cases hb : n ≤ 4000
    · rw [if_pos hb] at hz
      have g1 := Tr.nodes_get hki
      have g2 := Tr.nodesL_take t.kids (i + 1)
      have g3 := sizeR_ok k (deep + 1)
      have g4 := Tr.depth_le k
      simp only [SzOk] at g3
      simp [lp0_ref35_size, hlt', hb, hki, encT_eq k]
      rw [IntWalk.i64_in (deep + 1) (by omega)]
      refine callk (sizeR_c k (deep + 1) (by omega) (by omega) (by omega)) (by simp [encT_eq k]) rfl ?_
      simp
      rw [IntWalk.i64_in (n + (sizeR k (deep + 1)).1) (by omega), IntWalk.i64_in ((i : Int) + 1) (by omega)]
      have hmx : (if d < (sizeR k (deep + 1)).2 then (sizeR k (deep + 1)).2 else d) = max d (sizeR k (deep + 1)).2 := by split <;> omega
      refine ⟨i + 1, by omega, n + (sizeR k (deep + 1)).1, max d (sizeR k (deep + 1)).2, ⟨by omega, hz, by omega, by omega, by omega, by omega⟩, le_of ?_⟩
      simp [dslot, hmx]
    · rw [if_neg hb] at hz
      simp [lp0_ref35_size, hlt', hb]
      exact retE (by simp [deferred, dslot]) rfl (by rw [hz]) rfl
  · have hiN : i = t.kids.length := by omega
    subst hiN
    have hz' : sizeR t deep = (n, d) := by rw [hz]; simp [sizeRL]
    simp [lp0_ref35_size]
    exact retE (by simp [deferred, dslot]) rfl (by rw [hz']) rfl
termination_by SizeOf.sizeOf t
decreasing_by exact Tr.sizeOf_kids hki

theorem checkR_c (l : List Role) (cl : Cap) (m : Means) (hm : meaningsF l [] = some m) (t : Tr) {h : AHeap} (hl : l.length < 2 ^ 40) (hn : t.nodes ≤ 2 ^ 40) :
    AEx PP Gl 37 [.sl 2 (l.map encRole) cl, encT t] h (.ret (i64 (checkF m t))) h := by
  have hs := sizeR_ok t 1
  simp only [SzOk] at hs
  have hd := Tr.depth_le t
  refine enter_ref35_check (by simp) ?_
  simp [code_ref35_check, res_ref35_check, ann_ref35_check, encT_eq t]
  refine callk (sizeR_c t 1 hn (by omega) (by omega)) (by simp [encT_eq t]) rfl ?_
  generalize sizeR t 1 = p at hs
  simp
  refine ⟨fun h1 => ?_, fun h1 => ?_⟩
  · have : 4000 < t.nodes := by omega
    exact retE (by simp [deferred, dslot]) rfl (by simp [checkF, this]) rfl
  have h1' : ¬ 4000 < t.nodes := by omega
  refine ⟨fun h2 => ?_, fun h2 => ?_⟩
  · have : 100 < t.depth := by omega
    exact retE (by simp [deferred, dslot]) rfl (by simp [checkF, h1', this]) rfl
  have h2' : ¬ 100 < t.depth := by omega
  refine callk (formedR_c l cl m hm t hl hn) (by simp [encT_eq t]) rfl ?_
  simp
  refine ⟨fun hf => ?_, fun hf => ?_⟩
  · exact retE (by simp [deferred, dslot]) rfl (by simp [checkF, h1', h2', hf]) rfl
  · exact retE (by simp [deferred, dslot]) rfl (by simp [checkF, h1', h2', hf]) rfl

/-! ## variables -/
/-- A slice as the reference hands it on. -/
def slV (k : Nat) (es : List AV) (c : Cap) : AV := .sl (if es = [] then 0 else k) es c

theorem varsR_c (l : List Role) (cl : Cap) (m : Means) (hm : meaningsF l [] = some m) (t : Tr) (out : List ByteArray) (c : Cap) {h : AHeap} (hl : l.length < 2 ^ 40) (hn : out.length + t.nodes ≤ 2 ^ 31) (hf : formed m t = true) (hc : c.inb 0 = true) :
    ACalls PP Gl 38 [.sl 2 (l.map encRole) cl, encT t, slV 1 (out.map sv) c] h (fun r h' => (∃ c', c'.inb 0 = true ∧ r = .ret (slV 1 ((visitT m t out).map sv) c')) ∧ h' = h) := by
  have hlen := Tr.length_le t.kids
  have hne := Tr.nodes_eq t
  rw [formed_eq, Bool.and_eq_true, decide_eq_true_eq] at hf
  obtain ⟨hk, hfl⟩ := hf
  rw [formedL_all, List.all_eq_true] at hfl
  refine enter_ref35_variables (by simp) ?_
  simp [code_ref35_variables, res_ref35_variables, ann_ref35_variables, encT_eq t, slV]
  refine callk (meanR_c l cl t.label hl) rfl rfl ?_
  rw [meanR_eq hm]
  simp
  refine ⟨fun h0 => ?_, fun h0 => ?_⟩
  · have hk0 : t.kids = [] := by rw [h0] at hk; simp [kidsN] at hk; exact hk
    have hvis : visitT m t out = if t.label ∉ out then out ++ [t.label] else out := by rw [visitT_eq, hk0]; simp [visitL, h0]
    refine AWp.cnt out.length [2, 4] (fun i => [(7, i64 i)]) (fun _ => h) (fun i => t.label ∉ out.take i) mixed (by simp) (le_of (by simp [dslot])) rfl ?_ ?_
    · intro i hi hz
      obtain ⟨s, hs⟩ : ∃ s, out[i]? = some s := ⟨out[i], by simp [hi]⟩
      have hlt : (i : Int) < out.length := by omega
      have hne0 : out ≠ [] := by intro e; rw [e] at hi; simp at hi
      simp [lp0_ref35_variables, hlt, hs, hne0]
      refine ⟨fun he => ?_, fun he => ?_⟩
      · have : t.label ∈ out := by rw [← he]; exact List.mem_of_getElem? hs
        refine ret1 (by simp [deferred, dslot]) rfl ⟨⟨c, hc, ?_⟩, rfl⟩
        simp [hvis, this, slV, hne0]
      · rw [IntWalk.i64_in ((i : Int) + 1) (by omega)]
        refine ⟨?_, le_of (by simp [dslot])⟩
        rw [take_succ_of hs, List.mem_append]
        simp only [List.mem_singleton, not_or]
        exact ⟨hz, Ne.symm he⟩
    · intro hz
      have hni : t.label ∉ out := by simpa using hz
      have hs1 : ∀ l : List ByteArray, stripL (l.map sv) = l.map sv := stripL_enc sv (fun _ => rfl)
      have hb1 : ∀ (n : Nat) (l : List ByteArray), inbL n (l.map sv) = true := fun n => inbL_enc sv n (fun _ => rfl)
      cases out with
      | nil =>
        simp [lp0_ref35_variables, appW, len_tok]
        refine retCut h.length (by simp [deferred, dslot]) rfl (Nat.le_refl _) (by simp) (by simp [AV.strip, stripL, AV.inb, inbL, Cap.strip, Cap.inb]) (Cl.app _ _) ⟨⟨.any, rfl, ?_⟩, by simp⟩
        rw [hvis, if_pos hni]
        simp [slV, AV.strip, stripL, Cap.strip]
      | cons x out =>
        have hmx : out.length + 1 ≤ maxLenA := len_tok (by simp at hn; omega)
        have hmx2 : out.length + 1 + 1 ≤ maxLenA := len_tok (by simp at hn; omega)
        simp [lp0_ref35_variables, appW, hmx, hmx2]
        refine retCut h.length (by simp [deferred, dslot]) rfl (Nat.le_refl _) (by simp) (by simp [AV.strip, stripL, AV.inb, inbL, Cap.strip, Cap.inb, stripL_eq, inbL_eq]) (Cl.app _ _) ⟨⟨.any, rfl, ?_⟩, by simp⟩
        rw [hvis, if_pos hni]
        simp [slV, AV.strip, stripL, Cap.strip, stripL_eq]
  · have hvis : visitT m t out = visitL m t.kids out := by rw [visitT_eq, if_neg (by simp [h0])]
    refine AWp.till (S := Nat × Cap) (0, c) (fun s => t.kids.length - s.1) [0, 4] (fun s => [(2, slV 1 ((visitL m (t.kids.take s.1) out).map sv) s.2), (8, i64 s.1)]) (fun _ => h) (fun s => s.1 ≤ t.kids.length ∧ s.2.inb 0 = true) mixed ⟨Nat.zero_le _, hc⟩ (le_of (by simp [dslot, slV, visitL])) rfl ?_
    rintro ⟨i, c1⟩ ⟨hi, hc1⟩
    simp only at hi hc1
    by_cases hlt : i < t.kids.length
    · obtain ⟨k, hki⟩ : ∃ k, t.kids[i]? = some k := ⟨t.kids[i], by simp [hlt]⟩
      have hlt' : (i : Int) < t.kids.length := by omega
      have hne0 : t.kids ≠ [] := by intro e; rw [e] at hlt; simp at hlt
      have g1 := Tr.nodes_get hki
      have g2 := Tr.nodesL_take t.kids (i + 1)
      have g3 := visitL_len m (t.kids.take i) out
      simp [lp1_ref35_variables, hlt', hki, encT_eq k, slV]
      refine callr (varsR_c l cl m hm k (visitL m (t.kids.take i) out) c1 hl (by omega) (hfl k (List.mem_of_getElem? hki)) hc1) (by simp [encT_eq k, slV]) rfl ?_
      rintro r h' ⟨⟨c2, hc2, rfl⟩, rfl⟩
      simp [slV]
      rw [IntWalk.i64_in ((i : Int) + 1) (by omega)]
      refine ⟨i + 1, by omega, c2, ⟨by omega, hc2⟩, le_of ?_⟩
      simp [dslot, visitL_get m hki]
    · have hiN : i = t.kids.length := by omega
      subst hiN
      simp [lp1_ref35_variables, slV]
      refine ret1 (by simp [deferred, dslot]) rfl ⟨⟨c1, hc1, ?_⟩, rfl⟩
      simp [hvis, slV]
termination_by SizeOf.sizeOf t
decreasing_by exact Tr.sizeOf_kids hki

/-! ## holds -/
end Go.Apx
