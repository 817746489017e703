/- Walks: Holds. -/
import Derived.Test.YtbijnfhclfimeaaDoorL2
namespace Go.Apx
open Go.Proofs
set_option linter.unusedVariables false
set_option linter.unusedSimpArgs false
set_option linter.unnecessarySimpa false
set_option maxRecDepth 4000

/-- What is wrong with a model. -/
def modelE (n : Nat) : Model → Model → Int
  | [], _ => 0
  | p :: r, old => if (sfind old p.1).isSome = true then 6 else if p.2 &&& ~~~ full n = 0#64 then modelE n r (old ++ [p]) else 3
def HoldsF (S : List U) (l : List Role) (M : Model) (t : Tr) : U × Int :=
  match startedF S l with
  | (some m, _) => if checkF m t ≠ 0 then (0#64, checkF m t) else if modelE S.length M [] ≠ 0 then (0#64, modelE S.length M []) else if (varsF m [t]).all (fun s => (sfind M s).isSome) = true then (holdsF S m M t, 0) else (0#64, 5)
  | (none, e) => (0#64, e)
def holdsV (p : U × Int) : AV := .tup [u64 p.1, i64 p.2]

theorem take_all_get {α : Type} {l : List α} {p : α → Bool} {i : Nat} {x : α} (h : l[i]? = some x) : (l.take (i + 1)).all p = ((l.take i).all p && p x) := by
  rw [take_succ_of h, List.all_append]; simp

theorem HoldsM_c (S : List U) (c : Cap) (l : List Role) (cl : Cap) (M : Model) (cm : Cap) (t : Tr) {h : AHeap} (hS : S.length < 2 ^ 20) (hl : l.length < 2 ^ 20) (hM : M.length < 2 ^ 20) (hk : t.ok = true ∧ t.nodes ≤ 2 ^ 20) :
    AEx PP Gl 23 [.agg [.sl 1 (S.map u64) c], .sl 2 (l.map encRole) cl, .sl 2 (M.map encM) cm, encT t] h (.ret (holdsV (HoldsF S l M t))) h := by
  refine enter_modal_Holds (by simp) ?_
  simp [code_modal_Holds, res_modal_Holds, ann_modal_Holds, encT_eq t]
  refine callk (started_c S c l cl (by omega) (by omega)) rfl rfl ?_
  rcases startedF_cases S l with ⟨e, he, hst⟩ | ⟨m, hst, hr, hm, hok, hS6⟩
  · rw [hst]
    simp [startedR, meansH, he]
    exact retE (by simp [deferred, dslot]) rfl (by simp [HoldsF, hst, holdsV]) rfl
  rw [hst]
  simp [startedR, meansH]
  refine callk (check_c m h.length t hk.1 (by omega) (by simp)) (by simp [encT_eq t]) rfl ?_
  simp
  refine ⟨fun hc => ?_, fun hc => ?_⟩
  rotate_left
  · refine retD (v := holdsV (0#64, checkF m t)) (by simp [deferred, dslot]) (by simp [evalRes, evalRes1, holdsV]) (by simp [AV.strip, stripL, AV.inb, inbL, holdsV]) ?_ rfl
    simp [HoldsF, hst, hc, holdsV, AV.strip, stripL]
  have hc0 : checkF m t = 0 := hc
  refine AWp.cnt M.length [4, 7, 10, 13, 41, 42] (fun i => [(43, i64 i)]) (fun i => h ++ [.amap (smap iv m), .amap (smap uv (M.take i))]) (fun i => modelE S.length M [] = modelE S.length (M.drop i) (M.take i)) mixed (by simp) (le_of (by simp [dslot])) (by simp) ?_ ?_
  · intro i hi hz
    obtain ⟨p, hp⟩ : ∃ p, M[i]? = some p := ⟨M[i], by simp [hi]⟩
    have hlt : (i : Int) < M.length := by omega
    have enc : encM p = .agg [.sc (.string p.1), .sc (v64 p.2)] := rfl
    rw [drop_get hp] at hz
    simp only [modelE] at hz
    simp [lp0_modal_Holds, hlt, hp, enc]
    refine ⟨fun h1 => ?_, fun h1 => ?_⟩
    · rw [if_pos h1] at hz
      refine retD (v := holdsV (0#64, 6)) (by simp [deferred, dslot]) (by simp [evalRes, evalRes1, holdsV]) (by simp [AV.strip, stripL, AV.inb, inbL, holdsV]) ?_ rfl
      simp [HoldsF, hst, hc0, hz, holdsV, AV.strip, stripL]
    rw [if_neg (by simp [h1])] at hz
    refine callk worlds_c rfl rfl ?_
    simp
    refine ⟨fun h2 => ?_, fun h2 => ?_⟩
    rotate_left
    · rw [if_neg h2] at hz
      refine retD (v := holdsV (0#64, 3)) (by simp [deferred, dslot]) (by simp [evalRes, evalRes1, holdsV]) (by simp [AV.strip, stripL, AV.inb, inbL, holdsV]) ?_ rfl
      simp [HoldsF, hst, hc0, hz, holdsV, AV.strip, stripL]
    rw [if_pos h2] at hz
    rw [IntWalk.i64_in ((i : Int) + 1) (by omega)]
    refine ⟨?_, le_of (by simp [dslot]), ?_⟩
    · rw [hz, take_succ_of hp]
    · rw [take_succ_of hp, sset_none _ _ _ (by simpa using h1)]
  · intro hz
    simp [modelE] at hz
    simp [lp0_modal_Holds, encT_eq t]
    have hf := checkF_zero hc0
    refine callk (variables_c m h.length [t] .full (by simp [Tr.nodesL]; omega) (by simp)) (by simp [encT_eq t]) rfl ?_
    obtain ⟨vs, hvs⟩ : ∃ vs, vs = varsF m [t] := ⟨_, rfl⟩
    have hvl : vs.length ≤ 2 ^ 31 := by rw [hvs]; have := visitL_len m [t] []; simp [Tr.nodesL] at this; simp [varsF]; omega
    rw [← hvs]
    simp [grown]
    refine AWp.cnt vs.length [7, 13, 72, 73] (fun i => [(74, i64 i)]) (fun i => h ++ [.amap (smap iv m), .amap (smap uv M)]) (fun i => (vs.take i).all (fun s => (sfind M s).isSome) = true) mixed (by simp) (le_of (by simp [dslot])) (by simp) ?_ ?_
    · intro i hi hv
      obtain ⟨p, hp⟩ : ∃ p, vs[i]? = some p := ⟨vs[i], by simp [hi]⟩
      have hlt : (i : Int) < vs.length := by omega
      have hne0 : vs ≠ [] := by intro e; rw [e] at hi; simp at hi
      simp [lp1_modal_Holds, hlt, hp, hne0]
      refine ⟨fun h1 => ?_, fun h1 => ?_⟩
      · have hall : vs.all (fun s => (sfind M s).isSome) = false := by
          rw [List.all_eq_false]; exact ⟨p, List.mem_of_getElem? hp, by simp [h1]⟩
        refine retD (v := holdsV (0#64, 5)) (by simp [deferred, dslot]) (by simp [evalRes, evalRes1, holdsV]) (by simp [AV.strip, stripL, AV.inb, inbL, holdsV]) ?_ rfl
        have : HoldsF S l M t = (0#64, 5) := by simp only [HoldsF, hst]; rw [if_neg (by simp [hc0]), if_neg (by simp [hz]), ← hvs, hall]; rfl
        simp [this, holdsV, AV.strip, stripL]
      · rw [IntWalk.i64_in ((i : Int) + 1) (by omega)]
        refine ⟨?_, le_of (by simp [dslot])⟩
        have h2 := take_all_get (p := fun s => (sfind M s).isSome) hp
        rw [hv] at h2
        have h3 : (sfind M p).isSome = true := by simpa using h1
        rw [h3] at h2
        simpa using h2
    · intro hv
      rw [List.take_length] at hv
      simp [lp1_modal_Holds, encT_eq t]
      refine callk (holds_c S c m M h.length (h.length + 1) t (by omega) hok (by omega) hf.2 (by simp) (by simp)) (by simp [encT_eq t, plc]) rfl ?_
      simp
      refine retD (v := holdsV (holdsF S m M t, 0)) (by simp [deferred, dslot]) (by simp [evalRes, evalRes1, holdsV]) (by simp [AV.strip, stripL, AV.inb, inbL, holdsV]) ?_ rfl
      have : HoldsF S l M t = (holdsF S m M t, 0) := by simp only [HoldsF, hst]; rw [if_neg (by simp [hc0]), if_neg (by simp [hz]), ← hvs, hv]; rfl
      simp [this, holdsV, AV.strip, stripL]
end Go.Apx
