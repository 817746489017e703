/- Walks: the reference's Holds. -/
import Derived.Test.YtbijnfhclfimeaaDoorH1
namespace Go.Apx
open Go.Proofs
set_option linter.unusedVariables false
set_option linter.unusedSimpArgs false
set_option linter.unnecessarySimpa false
set_option maxRecDepth 4000

theorem sfind_isSome {α : Type} : ∀ (l : List (ByteArray × α)) (s : ByteArray), (sfind l s).isSome = decide (s ∈ l.map (·.1))
  | [], s => rfl
  | (k, v) :: l, s => by
    simp only [sfind]
    by_cases h : s = k
    · simp [h]
    · rw [if_neg h, sfind_isSome l s]; simp [h]

theorem HoldsR_c (S : List U) (c : Cap) (l : List Role) (cl : Cap) (M : Model) (cm : Cap) (t : Tr) {h : AHeap} (hS : S.length < 2 ^ 20) (hl : l.length < 2 ^ 20) (hM : M.length < 2 ^ 20) (hk : t.ok = true ∧ t.nodes ≤ 2 ^ 20) :
    AEx PP Gl 24 [.agg [.sl 1 (S.map u64) c], .sl 2 (l.map encRole) cl, .sl 2 (M.map encM) cm, encT t] h (.ret (holdsV (HoldsF S l M t))) h := by
  refine enter_ref35_Holds (by simp) ?_
  simp [code_ref35_Holds, res_ref35_Holds, ann_ref35_Holds, encT_eq t]
  refine callk (begin_c S c l cl hS hl) rfl rfl ?_
  rcases startedF_cases S l with ⟨e, he, hst⟩ | ⟨m, hst, hr, hm, hok, hS6⟩
  · rw [hst]
    simp [he]
    exact retE (by simp [deferred, dslot]) rfl (by simp [HoldsF, hst, holdsV]) rfl
  rw [hst]
  simp
  refine callk (checkR_c l cl m hm t (by omega) (by omega)) (by simp [encT_eq t]) rfl ?_
  simp
  refine ⟨fun hc => ?_, fun hc => ?_⟩
  rotate_left
  · exact retE (by simp [deferred, dslot]) rfl (by simp [HoldsF, hst, hc, holdsV]) rfl
  have hc0 : checkF m t = 0 := hc
  refine AWp.cnt M.length [1, 2, 4, 7] (fun i => [(12, i64 i)]) (fun i => h) (fun i => modelE S.length M [] = modelE S.length (M.drop i) (M.take i)) mixed (by simp) (le_of (by simp [dslot])) (by simp) ?_ ?_
  · intro i hi hz
    obtain ⟨p, hp⟩ : ∃ p, M[i]? = some p := ⟨M[i], by simp [hi]⟩
    have hlt : (i : Int) < M.length := by omega
    have enc : ∀ p, encM p = .agg [.sc (.string p.1), .sc (v64 p.2)] := fun _ => rfl
    rw [drop_get hp] at hz
    simp only [modelE] at hz
    simp [lp0_ref35_Holds, hlt]
    refine AWp.cnt i [1, 2, 4, 7, 12] (fun k => [(13, i64 k)]) (fun k => h) (fun k => p.1 ∉ (M.take k).map (·.1)) mixed (by simp) (le_of (by simp [dslot])) (by simp) ?_ ?_
    · intro k hk hzk
      obtain ⟨q, hq⟩ : ∃ q, M[k]? = some q := ⟨M[k]'(by omega), by simp⟩
      have hkt : (k : Int) < (i : Int) := by omega
      simp [lp1_ref35_Holds, hkt, hq, hp, enc]
      refine ⟨fun h1 => ?_, fun h1 => ?_⟩
      · have : (sfind (M.take i) p.1).isSome = true := by
          rw [sfind_isSome, decide_eq_true_eq]
          exact List.mem_map.2 ⟨q, List.mem_of_getElem? (i := k) (by rw [List.getElem?_take, if_pos hk]; exact hq), h1⟩
        rw [if_pos this] at hz
        exact retE (by simp [deferred, dslot]) rfl (by simp [HoldsF, hst, hc0, hz, holdsV]) rfl
      · rw [IntWalk.i64_in ((k : Int) + 1) (by omega)]
        refine ⟨?_, le_of (by simp [dslot])⟩
        have : p.1 ∉ (M.take (k + 1)).map (·.1) := by
          rw [take_succ_of hq, List.map_append, List.mem_append]
          simp only [List.map_cons, List.map_nil, List.mem_singleton, not_or]
          exact ⟨hzk, Ne.symm h1⟩
        simpa using this
    · intro hzk
      have : ¬ (sfind (M.take i) p.1).isSome = true := by rw [sfind_isSome, decide_eq_true_eq]; exact hzk
      rw [if_neg this] at hz
      simp [lp1_ref35_Holds, hp, enc]
      refine callk (all_c (es := S.map u64) (c := c) (by simp; omega)) rfl rfl ?_
      simp
      refine ⟨fun h2 => ?_, fun h2 => ?_⟩
      rotate_left
      · rw [if_neg h2] at hz
        exact retE (by simp [deferred, dslot]) rfl (by simp [HoldsF, hst, hc0, hz, holdsV]) rfl
      rw [if_pos h2] at hz
      rw [IntWalk.i64_in ((i : Int) + 1) (by omega)]
      exact ⟨by rw [hz, take_succ_of hp], le_of (by simp [dslot])⟩
  · intro hz
    simp [modelE] at hz
    have hf := checkF_zero hc0
    simp [lp0_ref35_Holds, encT_eq t]
    refine callr (varsR_c l cl m hm t [] .nil (by omega) (by simp; omega) hf.2 rfl) (by simp [encT_eq t, slV]) rfl ?_
    rintro r h' ⟨⟨c', hc', rfl⟩, rfl⟩
    obtain ⟨vs, hvs⟩ : ∃ vs, vs = varsF m [t] := ⟨_, rfl⟩
    have hvl : vs.length ≤ 2 ^ 31 := by rw [hvs]; have := visitL_len m [t] []; simp [Tr.nodesL] at this; simp [varsF]; omega
    have hvs' : visitT m t [] = vs := by rw [hvs]; rfl
    rw [hvs']
    simp [slV]
    refine AWp.cnt vs.length [1, 2, 4, 7, 14] (fun i => [(15, i64 i)]) (fun i => h') (fun i => (vs.take i).all (fun s => (sfind M s).isSome) = true) mixed (by simp) (le_of (by simp [dslot])) (by simp) ?_ ?_
    · intro i hi hv
      obtain ⟨p, hp⟩ : ∃ p, vs[i]? = some p := ⟨vs[i], by simp [hi]⟩
      have hlt : (i : Int) < vs.length := by omega
      have hne0 : vs ≠ [] := by intro e; rw [e] at hi; simp at hi
      simp [lp2_ref35_Holds, hlt]
      obtain ⟨B, hB⟩ : ∃ B : Nat → Bool, ∀ k, B k = decide (p ∈ (M.take k).map (·.1)) := ⟨_, fun _ => rfl⟩
      have hB0 : B 0 = false := by simp [hB]
      have hBn : B M.length = (sfind M p).isSome := by rw [hB, List.take_length, sfind_isSome]
      refine AWp.cnt M.length [1, 2, 4, 7, 14, 15] (fun k => [(16, .sc (.bool (B k))), (17, i64 k)]) (fun k => h') (fun k => True) mixed (by simp) (le_of (by simp [dslot, hB0])) (by simp) ?_ ?_
      · intro k hk _
        obtain ⟨q, hq⟩ : ∃ q, M[k]? = some q := ⟨M[k], by simp [hk]⟩
        have hkt : (k : Int) < (M.length : Int) := by omega
        have enc : ∀ p, encM p = .agg [.sc (.string p.1), .sc (v64 p.2)] := fun _ => rfl
        have hnew : B (k + 1) = (B k || decide (q.1 = p)) := by
          rw [hB, hB, take_succ_of hq, List.map_append, Bool.eq_iff_iff, Bool.or_eq_true, decide_eq_true_eq, decide_eq_true_eq, decide_eq_true_eq, List.mem_append]
          exact or_congr Iff.rfl (by rw [List.map_cons, List.map_nil, List.mem_singleton]; exact ⟨Eq.symm, Eq.symm⟩)
        cases hb : B k with
        | true =>
          rw [hb] at hnew
          simp [lp3_ref35_Holds, hkt, hb]
          rw [IntWalk.i64_in ((k : Int) + 1) (by omega)]
          exact le_of (by simp [dslot, hnew])
        | false =>
          rw [hb] at hnew
          simp [lp3_ref35_Holds, hkt, hb, hq, hp, hne0, enc]
          rw [IntWalk.i64_in ((k : Int) + 1) (by omega)]
          exact le_of (by simp [dslot, hnew])
      · intro _
        cases hb : B M.length with
        | true =>
          simp [lp3_ref35_Holds, hb]
          rw [IntWalk.i64_in ((i : Int) + 1) (by omega)]
          rw [hBn] at hb
          refine ⟨?_, le_of (by simp [dslot])⟩
          have h2 := take_all_get (p := fun s => (sfind M s).isSome) hp
          rw [hv, hb] at h2
          simpa using h2
        | false =>
          simp [lp3_ref35_Holds, hb]
          rw [hBn] at hb
          have hall : vs.all (fun s => (sfind M s).isSome) = false := by
            rw [List.all_eq_false]; exact ⟨p, List.mem_of_getElem? hp, by simp [hb]⟩
          refine retE (by simp [deferred, dslot]) rfl ?_ rfl
          have : HoldsF S l M t = (0#64, 5) := by simp only [HoldsF, hst]; rw [if_neg (by simp [hc0]), if_neg (by simp [hz]), ← hvs, hall]; rfl
          simp [this, holdsV]
    · intro hv
      rw [List.take_length] at hv
      simp [lp2_ref35_Holds, encT_eq t]
      refine callk (holdsR_c S c l cl m hm hok M 2 cm (.inr rfl) t (by omega) (by omega) (by omega) (by omega) hf.2) (by simp [encT_eq t]) rfl ?_
      simp
      refine retE (by simp [deferred, dslot]) rfl ?_ rfl
      have : HoldsF S l M t = (holdsF S m M t, 0) := by simp only [HoldsF, hst]; rw [if_neg (by simp [hc0]), if_neg (by simp [hz]), ← hvs, hv]; rfl
      simp [this, holdsV]
end Go.Apx
