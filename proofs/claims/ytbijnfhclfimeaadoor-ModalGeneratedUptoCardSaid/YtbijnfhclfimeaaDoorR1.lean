/- Walks: the reference: frames, roles, meanings. -/
import Derived.Test.YtbijnfhclfimeaaDoorM9
namespace Go.Apx
open Go.Proofs
set_option linter.unusedVariables false
set_option linter.unusedSimpArgs false
set_option linter.unnecessarySimpa false
set_option maxRecDepth 4000

theorem all_c {es : List AV} {c : Cap} {h : AHeap} (hl : es.length < 2 ^ 40) : AEx PP Gl 39 [.agg [.sl 1 es c]] h (.ret (u64 (full es.length))) h := by
  refine enter_ref35_all (by simp) ?_
  simp [code_ref35_all, res_ref35_all, ann_ref35_all]
  have : es.length % 18446744073709551616 = es.length := by omega
  exact retE (by simp [deferred, dslot]) rfl (by simp [full, this]) rfl

theorem frameOK_c (S : List U) (c : Cap) {h : AHeap} (hS : S.length < 2 ^ 20) : AEx PP Gl 49 [.agg [.sl 1 (S.map u64) c]] h (.ret (bool (rightF S))) h := by
  refine enter_ref35_frameOK (by simp) ?_
  by_cases h1 : (S.length : Int) < 1
  · simp [code_ref35_frameOK, res_ref35_frameOK, ann_ref35_frameOK, h1]
    refine retE (by simp [deferred, dslot]) rfl ?_ rfl
    have g1 : ¬ 1 ≤ S.length := by omega
    simp [rightF, g1]
  by_cases h2 : (6 : Int) < (S.length : Int)
  · simp [code_ref35_frameOK, res_ref35_frameOK, ann_ref35_frameOK, h1, h2]
    refine retE (by simp [deferred, dslot]) rfl ?_ rfl
    have g1 : ¬ S.length ≤ 6 := by omega
    simp [rightF, g1]
  simp [code_ref35_frameOK, res_ref35_frameOK, ann_ref35_frameOK, h1, h2]
  have g1 : 1 ≤ S.length := by omega
  have g2 : S.length ≤ 6 := by omega
  refine AWp.cnt S.length [1] (fun i => [(3, i64 i)]) (fun _ => h) (fun i => ∀ j, j < i → ∀ s, S[j]? = some s → s &&& ~~~ full S.length = 0#64) mixed (by simp) (le_of (by simp [dslot])) rfl ?_ ?_
  · intro i hi hz
    obtain ⟨s, hs⟩ : ∃ s, S[i]? = some s := ⟨S[i], by simp [hi]⟩
    have hlt : (i : Int) < S.length := by omega
    simp [lp0_ref35_frameOK, hlt, hs]
    refine callk (all_c (es := S.map u64) (c := c) (by simp; omega)) rfl rfl ?_
    simp
    refine ⟨fun hb => ?_, fun hb => ?_⟩
    · rw [IntWalk.i64_in ((i : Int) + 1) (by omega)]
      refine ⟨fun j hj s' hs' => ?_, le_of (by simp [dslot])⟩
      by_cases hji : j = i
      · subst hji; rw [hs] at hs'; cases hs'; exact hb
      · exact hz j (by omega) s' hs'
    · refine retE (by simp [deferred, dslot]) rfl ?_ rfl
      have : (S.any fun s => !decide (s &&& ~~~ full S.length = 0#64)) = true := by
        rw [List.any_eq_true]
        exact ⟨s, List.mem_of_getElem? hs, by simp [hb]⟩
      simp only [rightF, this]; simp
  · intro hz
    simp [lp0_ref35_frameOK]
    refine retE (by simp [deferred, dslot]) rfl ?_ rfl
    simp [rightF, g1, g2]
    intro s hs
    obtain ⟨j, hj⟩ := List.getElem?_of_mem hs
    exact hz j (List.getElem?_eq_some_iff.1 hj).1 s hj

/-- The meaning of a label by a list of roles. -/
def meanR : List Role → ByteArray → Int
  | [], _ => 0
  | r :: l, s => if r.label = s then r.m else meanR l s
theorem meanR_c (l : List Role) (c : Cap) (s : ByteArray) {h : AHeap} (hl : l.length < 2 ^ 40) : AEx PP Gl 64 [.sl 2 (l.map encRole) c, .sc (.string s)] h (.ret (i64 (meanR l s))) h := by
  refine enter_ref35_meaning (by simp) ?_
  simp [code_ref35_meaning, res_ref35_meaning, ann_ref35_meaning]
  refine AWp.cnt l.length [0, 1] (fun i => [(5, i64 i)]) (fun _ => h) (fun i => meanR l s = meanR (l.drop i) s) mixed (by simp) (le_of (by simp [dslot])) rfl ?_ ?_
  · intro i hi hz
    obtain ⟨r, hr⟩ : ∃ r, l[i]? = some r := ⟨l[i], by simp [hi]⟩
    have hlt : (i : Int) < l.length := by omega
    have enc : encRole r = .agg [.sc (.string r.label), .sc (.int .i64 r.m)] := rfl
    rw [drop_get hr] at hz
    simp only [meanR] at hz
    simp [lp0_ref35_meaning, hlt, hr, enc]
    refine ⟨fun hc => ?_, fun hc => ?_⟩
    · rw [if_pos hc] at hz
      exact retE (by simp [deferred, dslot]) rfl (by simp [hz]) rfl
    · rw [if_neg hc] at hz
      rw [IntWalk.i64_in ((i : Int) + 1) (by omega)]
      exact ⟨hz, le_of (by simp [dslot])⟩
  · intro hz
    simp [lp0_ref35_meaning]
    exact retE (by simp [deferred, dslot]) rfl (by rw [hz]; simp [meanR]) rfl

theorem wants_c (m : Int) {h : AHeap} : AEx PP Gl 74 [.sc (.int .i64 m)] h (.ret (i64 (kidsN m))) h := by
  refine enter_ref35_wants (by simp) ?_
  by_cases c1 : m = 1
  · simp [code_ref35_wants, res_ref35_wants, ann_ref35_wants, c1]
    exact retE (by simp [deferred, dslot]) rfl (by simp [kidsN]) rfl
  by_cases c2 : m = 8
  · simp [code_ref35_wants, res_ref35_wants, ann_ref35_wants, c2]
    exact retE (by simp [deferred, dslot]) rfl (by simp [kidsN]) rfl
  by_cases c3 : m = 9
  · simp [code_ref35_wants, res_ref35_wants, ann_ref35_wants, c3]
    exact retE (by simp [deferred, dslot]) rfl (by simp [kidsN]) rfl
  by_cases c4 : m = 3
  · simp [code_ref35_wants, res_ref35_wants, ann_ref35_wants, c4]
    exact retE (by simp [deferred, dslot]) rfl (by simp [kidsN]) rfl
  by_cases c5 : m = 4
  · simp [code_ref35_wants, res_ref35_wants, ann_ref35_wants, c5]
    exact retE (by simp [deferred, dslot]) rfl (by simp [kidsN]) rfl
  by_cases c6 : m = 2
  · simp [code_ref35_wants, res_ref35_wants, ann_ref35_wants, c6]
    exact retE (by simp [deferred, dslot]) rfl (by simp [kidsN]) rfl
  by_cases c7 : m = 5
  · simp [code_ref35_wants, res_ref35_wants, ann_ref35_wants, c7]
    exact retE (by simp [deferred, dslot]) rfl (by simp [kidsN]) rfl
  simp [code_ref35_wants, res_ref35_wants, ann_ref35_wants, c1, c2, c3, c4, c5, c6, c7]
  exact retE (by simp [deferred, dslot]) rfl (by simp [kidsN, c1, c2, c3, c4, c5, c6, c7]) rfl

/-- Are roles right? -/
def rolesR : List Role → List ByteArray → Bool
  | [], _ => true
  | r :: l, old => if r.label = ⟨#[]⟩ ∨ r.m < 1 ∨ 9 < r.m ∨ r.label ∈ old then false else rolesR l (old ++ [r.label])
theorem rolesR_means : ∀ (l : List Role) (m : Means) (old : List ByteArray), (∀ s, sget m s ≠ 0 ↔ s ∈ old) → rolesR l old = (meaningsF l m).isSome
  | [], m, old, h => rfl
  | r :: l, m, old, h => by
    simp only [rolesR, meaningsF]
    by_cases hc : r.label = ⟨#[]⟩ ∨ r.m < 1 ∨ 9 < r.m ∨ r.label ∈ old
    · rw [if_pos hc, if_pos]; rfl
      rcases hc with h1 | h1 | h1 | h1
      · exact .inl h1
      · exact .inr (.inr (.inl h1))
      · exact .inr (.inr (.inr h1))
      · exact .inr (.inl ((h _).2 h1))
    · simp only [not_or] at hc
      rw [if_neg (by simp only [not_or]; exact hc), if_neg]
      · refine rolesR_means l _ _ fun s => ?_
        rw [sget_sset, List.mem_append, List.mem_singleton]
        by_cases hs : s = r.label
        · rw [if_pos hs]; exact ⟨fun _ => .inr hs, fun _ => by omega⟩
        · rw [if_neg hs, h s]; exact ⟨.inl, fun h => h.resolve_right hs⟩
      · simp only [not_or]
        exact ⟨hc.1, fun h1 => hc.2.2.2 ((h _).1 h1), hc.2.1, hc.2.2.1⟩
theorem meanR_means : ∀ (l : List Role) (m m' : Means) (s : ByteArray), meaningsF l m = some m' → sget m' s = if sget m s ≠ 0 then sget m s else meanR l s
  | [], m, m', s, h => by
    simp only [meaningsF, Option.some.injEq] at h; subst h
    simp only [meanR]; split <;> simp_all
  | r :: l, m, m', s, h => by
    simp only [meaningsF] at h
    split at h
    · cases h
    · rename_i hc
      simp only [not_or, ne_eq, Decidable.not_not] at hc
      rw [meanR_means l _ m' s h, sget_sset]
      simp only [meanR]
      by_cases hs : s = r.label
      · subst hs
        have : r.m ≠ 0 := by omega
        simp [this, hc.2.1]
      · simp [hs, Ne.symm hs]
theorem meanR_eq {l : List Role} {m : Means} (h : meaningsF l [] = some m) (s : ByteArray) : meanR l s = sget m s := by
  rw [meanR_means l [] m s h]; simp [sget, sfind]


theorem rolesR_get (l : List Role) (i : Nat) (r : Role) (hr : l[i]? = some r) : rolesR (l.drop i) ((l.take i).map Role.label) = if r.label = ⟨#[]⟩ ∨ r.m < 1 ∨ 9 < r.m ∨ r.label ∈ (l.take i).map Role.label then false else rolesR (l.drop (i + 1)) ((l.take (i + 1)).map Role.label) := by
  rw [drop_get hr]
  simp only [rolesR, take_succ_of hr, List.map_append, List.map_cons, List.map_nil]

theorem rolesOK_c (l : List Role) (c : Cap) {h : AHeap} (hl : l.length < 2 ^ 40) : AEx PP Gl 61 [.sl 2 (l.map encRole) c] h (.ret (bool (rolesR l []))) h := by
  refine enter_ref35_rolesOK (by simp) ?_
  simp [code_ref35_rolesOK, res_ref35_rolesOK, ann_ref35_rolesOK]
  refine AWp.cnt l.length [0] (fun i => [(3, i64 i)]) (fun _ => h) (fun i => rolesR l [] = rolesR (l.drop i) ((l.take i).map Role.label)) mixed (by simp) (le_of (by simp [dslot])) rfl ?_ ?_
  · intro i hi hz
    obtain ⟨r, hr⟩ : ∃ r, l[i]? = some r := ⟨l[i], by simp [hi]⟩
    have hlt : (i : Int) < l.length := by omega
    have enc : ∀ r, encRole r = .agg [.sc (.string r.label), .sc (.int .i64 r.m)] := fun _ => rfl
    rw [rolesR_get l i r hr] at hz
    have bad : (r.label = ⟨#[]⟩ ∨ r.m < 1 ∨ 9 < r.m ∨ r.label ∈ (l.take i).map Role.label) → rolesR l [] = false := fun hb => by rw [hz, if_pos hb]
    by_cases c1 : r.label = ⟨#[]⟩
    · simp [lp0_ref35_rolesOK, hlt, hr, enc, c1]
      exact retE (by simp [deferred, dslot]) rfl (by simp [bad (.inl c1)]) rfl
    by_cases c3 : r.m < 1
    · simp [lp0_ref35_rolesOK, hlt, hr, enc, c1, c3]
      exact retE (by simp [deferred, dslot]) rfl (by simp [bad (.inr (.inl c3))]) rfl
    by_cases c4 : 9 < r.m
    · simp [lp0_ref35_rolesOK, hlt, hr, enc, c1, c3, c4]
      exact retE (by simp [deferred, dslot]) rfl (by simp [bad (.inr (.inr (.inl c4)))]) rfl
    simp [lp0_ref35_rolesOK, hlt, hr, enc, c1, c3, c4]
    refine AWp.cnt i [0, 3] (fun k => [(4, i64 k)]) (fun _ => h) (fun k => r.label ∉ (l.take k).map Role.label) mixed (by simp) (le_of (by simp [dslot])) rfl ?_ ?_
    · intro k hk hzk
      obtain ⟨q, hq⟩ : ∃ q, l[k]? = some q := ⟨l[k], by simp⟩
      have hkt : (k : Int) < (i : Int) := by omega
      simp [lp1_ref35_rolesOK, hkt, hq, hr, enc]
      refine ⟨fun hc => ?_, fun hc => ?_⟩
      · refine retE (by simp [deferred, dslot]) rfl ?_ rfl
        have : r.label ∈ (l.take i).map Role.label := List.mem_map.2 ⟨q, List.mem_of_getElem? (i := k) (by rw [List.getElem?_take, if_pos hk]; exact hq), hc⟩
        simp [bad (.inr (.inr (.inr this)))]
      · rw [IntWalk.i64_in ((k : Int) + 1) (by omega)]
        have hnew : r.label ∉ (l.take (k + 1)).map Role.label := by
          rw [take_succ_of hq, List.map_append, List.mem_append]
          simp only [List.map_cons, List.map_nil, List.mem_singleton, not_or]
          exact ⟨hzk, Ne.symm hc⟩
        exact ⟨by simpa using hnew, le_of (by simp [dslot])⟩
    · intro hzk
      simp [lp1_ref35_rolesOK]
      rw [IntWalk.i64_in ((i : Int) + 1) (by omega)]
      have hnew : rolesR l [] = rolesR (l.drop (i + 1)) ((l.take (i + 1)).map Role.label) := by
        rw [hz, if_neg]
        simp only [not_or]
        exact ⟨c1, c3, c4, hzk⟩
      exact ⟨by simpa using hnew, le_of (by simp [dslot])⟩
  · intro hz
    simp [lp0_ref35_rolesOK]
    exact retE (by simp [deferred, dslot]) rfl (by rw [hz]; simp [rolesR]) rfl

theorem begin_c (S : List U) (c : Cap) (l : List Role) (cl : Cap) {h : AHeap} (hS : S.length < 2 ^ 20) (hl : l.length < 2 ^ 20) : AEx PP Gl 36 [.agg [.sl 1 (S.map u64) c], .sl 2 (l.map encRole) cl] h (.ret (i64 (startedF S l).2)) h := by
  refine enter_ref35_begin (by simp) ?_
  simp [code_ref35_begin, res_ref35_begin, ann_ref35_begin]
  refine callk (frameOK_c S c hS) rfl rfl ?_
  simp
  refine ⟨fun hr => ?_, fun hr => ?_⟩
  rotate_left
  · exact retE (by simp [deferred, dslot]) rfl (by simp [startedF, hr]) rfl
  refine callk (rolesOK_c l cl (by omega)) rfl rfl ?_
  simp
  have hR := rolesR_means l [] [] (fun s => by simp [sget, sfind])
  refine ⟨fun hq => ?_, fun hq => ?_⟩
  · refine retE (by simp [deferred, dslot]) rfl ?_ rfl
    rw [hR] at hq
    cases hm : meaningsF l [] with
    | none => rw [hm] at hq; cases hq
    | some m => simp [startedF, hr, hm]
  · refine retE (by simp [deferred, dslot]) rfl ?_ rfl
    rw [hR] at hq
    cases hm : meaningsF l [] with
    | none => simp [startedF, hr, hm]
    | some m => rw [hm] at hq; cases hq

/-! ## trees -/
theorem formedR_c (l : List Role) (cl : Cap) (m : Means) (hm : meaningsF l [] = some m) (t : Tr) {h : AHeap} (hl : l.length < 2 ^ 40) (hn : t.nodes ≤ 2 ^ 40) :
    AEx PP Gl 63 [.sl 2 (l.map encRole) cl, encT t] h (.ret (bool (formed m t))) h := by
  have hlen := Tr.length_le t.kids
  have hne := Tr.nodes_eq t
  refine enter_ref35_formed (by simp) ?_
  simp [code_ref35_formed, res_ref35_formed, ann_ref35_formed, encT_eq t]
  refine callk (meanR_c l cl t.label hl) rfl rfl ?_
  simp
  refine callk (wants_c _) rfl rfl ?_
  rw [meanR_eq hm]
  simp
  refine ⟨fun hk => ?_, fun hk => ?_⟩
  rotate_left
  · exact retE (by simp [deferred, dslot]) rfl (by rw [formed_eq]; simp [hk]) rfl
  refine AWp.cnt t.kids.length [0, 3] (fun i => [(5, i64 i)]) (fun i => h) (fun i => formedL m (t.kids.take i) = true) mixed (by simp [formedL]) (le_of (by simp [dslot])) rfl ?_ ?_
  · intro i hi hz
    obtain ⟨k, hki⟩ : ∃ k, t.kids[i]? = some k := ⟨t.kids[i], by simp [hi]⟩
    have hlt : (i : Int) < t.kids.length := by omega
    have hne0 : t.kids ≠ [] := by intro e; rw [e] at hi; simp at hi
    have h1 := Tr.nodes_get hki
    have h2 := Tr.nodesL_take t.kids (i + 1)
    simp [lp0_ref35_formed, hlt, hki, encT_eq k]
    refine callk (formedR_c l cl m hm k hl (by omega)) (by simp [encT_eq k]) rfl ?_
    simp
    refine ⟨fun hf => ?_, fun hf => ?_⟩
    · rw [IntWalk.i64_in ((i : Int) + 1) (by omega)]
      exact ⟨by rw [formedL_get hki, hz, hf]; rfl, le_of (by simp [dslot])⟩
    · refine retE (by simp [deferred, dslot]) rfl ?_ rfl
      have : t.kids.all (formed m) = false := by
        rw [List.all_eq_false]
        exact ⟨k, List.mem_of_getElem? hki, by simp [hf]⟩
      rw [formed_eq, formedL_all, this]; simp
  · intro hz
    simp [lp0_ref35_formed]
    refine retE (by simp [deferred, dslot]) rfl ?_ rfl
    have : formedL m t.kids = true := by simpa using hz
    rw [formed_eq, this]; simp [hk]
termination_by SizeOf.sizeOf t
decreasing_by exact Tr.sizeOf_kids hki
end Go.Apx
