/- Walks: properties of frames, frames that a world generates. -/
import Derived.Test.YtbijnfhclfimeaaDoorF0
namespace Go.Apx
open Go.Proofs
set_option linter.unusedVariables false
set_option linter.unusedSimpArgs false
set_option linter.unnecessarySimpa false
set_option maxRecDepth 4000

/-- A frame as an array. -/
def rowL (S : List U) : List U := S ++ List.replicate (6 - S.length) 0#64
theorem row_c (S : List U) (c : Cap) {h : AHeap} (hS : S.length ≤ 6) : AEx PP Gl 46 [.agg [.sl 1 (S.map u64) c]] h (.ret (.agg ((rowL S).map u64))) h := by
  refine enter_modal_Frame_row (by simp) ?_
  rcases S with _ | ⟨a, _ | ⟨b, _ | ⟨d, _ | ⟨x, _ | ⟨y, _ | ⟨z, _ | ⟨w, S⟩⟩⟩⟩⟩⟩⟩
  all_goals try (exfalso; simp at hS; done)
  all_goals simp [code_modal_Frame_row, res_modal_Frame_row, ann_modal_Frame_row, u64]
  · exact retD (v := .agg ((rowL []).map u64)) (by simp [deferred, dslot]) (by simp [evalRes, evalRes1, rowL, u64, List.replicate]) (by simp [AV.strip, stripL, AV.inb, inbL, rowL, u64, List.replicate]) (by simp [AV.strip, stripL, rowL, u64, List.replicate]) rfl
  · exact retD (v := .agg ((rowL [a]).map u64)) (by simp [deferred, dslot]) (by simp [evalRes, evalRes1, rowL, u64, List.replicate]) (by simp [AV.strip, stripL, AV.inb, inbL, rowL, u64, List.replicate]) (by simp [AV.strip, stripL, rowL, u64, List.replicate]) rfl
  · exact retD (v := .agg ((rowL [a, b]).map u64)) (by simp [deferred, dslot]) (by simp [evalRes, evalRes1, rowL, u64, List.replicate]) (by simp [AV.strip, stripL, AV.inb, inbL, rowL, u64, List.replicate]) (by simp [AV.strip, stripL, rowL, u64, List.replicate]) rfl
  · exact retD (v := .agg ((rowL [a, b, d]).map u64)) (by simp [deferred, dslot]) (by simp [evalRes, evalRes1, rowL, u64, List.replicate]) (by simp [AV.strip, stripL, AV.inb, inbL, rowL, u64, List.replicate]) (by simp [AV.strip, stripL, rowL, u64, List.replicate]) rfl
  · exact retD (v := .agg ((rowL [a, b, d, x]).map u64)) (by simp [deferred, dslot]) (by simp [evalRes, evalRes1, rowL, u64, List.replicate]) (by simp [AV.strip, stripL, AV.inb, inbL, rowL, u64, List.replicate]) (by simp [AV.strip, stripL, rowL, u64, List.replicate]) rfl
  · exact retD (v := .agg ((rowL [a, b, d, x, y]).map u64)) (by simp [deferred, dslot]) (by simp [evalRes, evalRes1, rowL, u64, List.replicate]) (by simp [AV.strip, stripL, AV.inb, inbL, rowL, u64, List.replicate]) (by simp [AV.strip, stripL, rowL, u64, List.replicate]) rfl
  · exact retD (v := .agg ((rowL [a, b, d, x, y, z]).map u64)) (by simp [deferred, dslot]) (by simp [evalRes, evalRes1, rowL, u64, List.replicate]) (by simp [AV.strip, stripL, AV.inb, inbL, rowL, u64, List.replicate]) (by simp [AV.strip, stripL, rowL, u64, List.replicate]) rfl

def seesF (S : List U) (a b : Nat) : Bool := bit (S.getD a 0#64) b
theorem rowL_get {S : List U} {i : Nat} {s : U} (h : S[i]? = some s) : (rowL S)[i]? = some s := by
  rw [rowL, List.getElem?_append_left (List.getElem?_eq_some_iff.1 h).1]; exact h
theorem rowL_len {S : List U} (h : S.length ≤ 6) : (rowL S).length = 6 := by simp [rowL]; omega

theorem Is1_c (S : List U) (a b : Nat) {h : AHeap} (hS : S.length ≤ 6) (ha : a < S.length) (hb : b < S.length) : AEx PP Gl 47 [.sc (.int .i64 a), .sc (.int .i64 b), .ip (.agg ((rowL S).map u64))] h (.ret (bool (seesF S a b))) h := by
  obtain ⟨s, hs⟩ : ∃ s, S[a]? = some s := ⟨S[a], by simp [ha]⟩
  have hr := rowL_get hs
  have hl := rowL_len hS
  refine enter_modal_Is_1 (by simp) ?_
  have ha6 : a < 6 := by omega
  simp -implicitDefEqProofs [code_modal_Is_1, res_modal_Is_1, ann_modal_Is_1, hr, hl, ha6]
  have hr2 : (rowL S)[a] = s := (List.getElem?_eq_some_iff.1 hr).2
  exact retE (by simp [deferred, dslot]) rfl (by rw [hr2, seesF, getD_of hs, bit]) rfl

theorem reach_c (S : List U) (c : Cap) (set : U) {h : AHeap} (hS : right1 S) (hn : S.length ≤ 6) : AEx PP Gl 48 [.agg [.sl 1 (S.map u64) c], u64 set] h (.ret (u64 (reachF S set))) h := by
  refine enter_modal_Frame_reach (by simp) ?_
  simp -implicitDefEqProofs [code_modal_Frame_reach, res_modal_Frame_reach, ann_modal_Frame_reach]
  refine AWp.till (S := Nat) 0 (fun k => 64 - k) [1, 2] (fun k => [(5, u64 (reachN S set k))]) (fun _ => h) (fun k => ∀ j, j < k → reachN S set (j + 1) ≠ reachN S set j) mixed (by simp) (le_of (by simp [dslot, reachN])) rfl ?_
  intro k hk
  have hk64 : k < 64 := by
    have h1 := reachN_big set k hk
    have h2 := within_toNat hn (reachN_within set hS k)
    omega
  simp -implicitDefEqProofs [lp0_modal_Frame_reach]
  refine AWp.cnt S.length [1, 2, 5, 11, 12] (fun i => [(6, u64 (stepF (set ||| reachN S set k) (S.take i) 0 (reachN S set k))), (13, i64 i)]) (fun _ => h) (fun _ => True) mixed trivial (le_of (by simp [dslot, stepF])) rfl ?_ ?_
  · intro i hi _
    obtain ⟨s, hs⟩ : ∃ s, S[i]? = some s := ⟨S[i], by simp [hi]⟩
    have hlt : (i : Int) < S.length := by omega
    have hg := stepF_get (set ||| reachN S set k) (reachN S set k) hs
    simp -implicitDefEqProofs [lp1_modal_Frame_reach, hlt, hs]
    rw [IntWalk.i64_in ((i : Int) + 1) (by omega)]
    refine ⟨fun hb => le_of ?_, fun hb => le_of ?_⟩
    · rw [if_pos (by simpa [bit] using hb)] at hg
      simp [dslot, hg]
    · rw [if_neg (by simpa [bit] using hb)] at hg
      simp [dslot, hg]
  · intro _
    have hnx : stepF (set ||| reachN S set k) S 0 (reachN S set k) = reachN S set (k + 1) := rfl
    simp -implicitDefEqProofs [lp1_modal_Frame_reach, hnx]
    refine ⟨fun he => ?_, fun he => ⟨k + 1, by omega, fun j hj => ?_, le_of (by simp [dslot])⟩⟩
    · exact retE (by simp [deferred, dslot]) rfl (by rw [reachF_of set (by omega) he]) rfl
    · by_cases hjk : j = k
      · subst hjk; exact he
      · exact hk j (by omega)

/-- What is wrong with a world. -/
def badV (S : List U) (p : Int) (w v : Nat) : Bool :=
  seesF S w v && ((decide (p = 2) && !decide (S.getD v 0#64 &&& ~~~ S.getD w 0#64 = 0#64)) || (decide (p = 3) && !seesF S v w) || (decide (p = 5) && !decide (S.getD w 0#64 &&& ~~~ S.getD v 0#64 = 0#64)))
noncomputable def badW (S : List U) (p : Int) (w : Nat) : Bool :=
  if p = 1 then !seesF S w w else if p = 4 then decide (S.getD w 0#64 = 0#64) else if p = 6 then bit (reachF S (1#64 <<< w)) w else false

theorem isInner (S : List U) (p : Int) (w : Nat) (env : Env) (Q : APost) {h : AHeap} (k : Nat) (hn : S.length ≤ 6) (hw : w < S.length)
    (e1 : env.get 1 = some (.sc (.int .i64 p))) (e2 : ∃ v2, env.get 2 = some v2) (e6 : env.get 6 = some (.ip (.agg ((rowL S).map u64)))) (e7 : env.get 7 = some (.sc (.int .i64 S.length))) (e8 : env.get 8 = some (.fn (.func 47) [] [.ip (.agg ((rowL S).map u64))]))
    (e9 : env.get 9 = some (.sc (.int .i64 w))) (e26 : env.get 26 = some (.sc (.int .i64 S.length))) (e27 : env.get 27 = some (.sc (.int .i64 w))) (e54 : env.get 54 = some (.sc (.int .i64 S.length))) (e55 : env.get 55 = some (i64 0)) (ed : env.get dslot = none)
    (hQ : (∀ v, v < S.length → badV S p w v = false) → ∀ env', env'.get 1 = env.get 1 → env'.get 2 = env.get 2 → env'.get 6 = env.get 6 → env'.get 7 = env.get 7 → env'.get 8 = env.get 8 → env'.get 26 = env.get 26 → env'.get 27 = env.get 27 → env'.get dslot = none → Q (.exit 3) env' h)
    (hR : (∃ v, v < S.length ∧ badV S p w v = true) → ∀ env', env'.get 4 = some (.sc (.bool false)) → env'.get 5 = some (.sc (.int .i64 0)) → env'.get dslot = none → Q .ret env' h) : AWp ⟨PP, Gl, 102, [2, 6], k, none⟩ (.loop lp1_modal_Is) Q env h := by
  obtain ⟨v2, e2⟩ := e2
  have hl := rowL_len hn
  have hw6 : w < 6 := by omega
  obtain ⟨sw, hsw⟩ : ∃ s, S[w]? = some s := ⟨S[w], by simp [hw]⟩
  have hrw := rowL_get hsw
  refine AWp.cnt S.length [1, 2, 6, 7, 8, 9, 26, 27, 54] (fun i => [(55, i64 i)]) (fun _ => h) (fun i => ∀ v, v < i → badV S p w v = false) mixed (by simp) (le_of (by simp [dslot, e1, e2, e6, e7, e8, e9, e26, e27, e54, e55]; exact ed.symm)) rfl ?_ ?_
  · intro i hi hz
    obtain ⟨s, hs⟩ : ∃ s, S[i]? = some s := ⟨S[i], by simp [hi]⟩
    have hri := rowL_get hs
    have hlt : (i : Int) < S.length := by omega
    have hi6 : i < 6 := by omega
    have next : badV S p w i = false → ∀ v, v < i + 1 → badV S p w v = false := fun hb v hv => by
      by_cases hvi : v = i
      · subst hvi; exact hb
      · exact hz v (by omega)
    simp -implicitDefEqProofs [lp1_modal_Is, hlt, e1, e2, e6, e7, e8, e9, e26, e27, e54]
    refine callk (Is1_c S w i hn hw hi) (by simp) rfl ?_
    cases hsee : seesF S w i with
    | false =>
      simp -implicitDefEqProofs
      rw [IntWalk.i64_in ((i : Int) + 1) (by omega)]
      exact ⟨next (by simp [badV, hsee]), le_of (by simp [dslot, e1, e2, e6, e7, e8, e9, e26, e27, e54])⟩
    | true =>
      have gi : (rowL S)[i]'(by omega) = s := (List.getElem?_eq_some_iff.1 hri).2
      have gw : (rowL S)[w]'(by omega) = sw := (List.getElem?_eq_some_iff.1 hrw).2
      by_cases p2 : p = 2
      · subst p2
        by_cases hd : s &&& ~~~ sw = 0#64
        · simp -implicitDefEqProofs [e1, e2, e6, e7, e8, e9, e26, e27, e54, hl, hi6, hri, hrw, hw6, gi, gw, hd]
          rw [IntWalk.i64_in ((i : Int) + 1) (by omega)]
          exact ⟨next (by simp [badV, hsee, hs, hsw, hd]), le_of (by simp [dslot, e1, e2, e6, e7, e8, e9, e26, e27, e54])⟩
        · simp -implicitDefEqProofs [e1, e2, e6, e7, e8, e9, e26, e27, e54, hl, hi6, hri, hrw, hw6, gi, gw, hd]
          exact hR ⟨i, hi, by simp [badV, hsee, hs, hsw, hd]⟩ _ (by simp) (by simp) (by simp [dslot])
      by_cases p3 : p = 3
      · subst p3
        simp -implicitDefEqProofs [e1, e2, e6, e7, e8, e9, e26, e27, e54, hl, hi6, hri, hrw, hw6, gi, gw]
        refine callk (Is1_c S i w hn hi hw) (by simp) rfl ?_
        cases hd : seesF S i w with
        | true =>
          simp -implicitDefEqProofs [e1, e2, e6, e7, e8, e9, e26, e27, e54, hl, hi6, hri, hrw, hw6, gi, gw]
          rw [IntWalk.i64_in ((i : Int) + 1) (by omega)]
          exact ⟨next (by simp [badV, hsee, hs, hsw, hd]), le_of (by simp [dslot, e1, e2, e6, e7, e8, e9, e26, e27, e54])⟩
        | false =>
          simp -implicitDefEqProofs [e1, e2, e6, e7, e8, e9, e26, e27, e54, hl, hi6, hri, hrw, hw6, gi, gw]
          exact hR ⟨i, hi, by simp [badV, hsee, hs, hsw, hd]⟩ _ (by simp) (by simp) (by simp [dslot])
      by_cases p5 : p = 5
      · subst p5
        by_cases hd : sw &&& ~~~ s = 0#64
        · simp -implicitDefEqProofs [e1, e2, e6, e7, e8, e9, e26, e27, e54, hl, hi6, hri, hrw, hw6, gi, gw, hd]
          rw [IntWalk.i64_in ((i : Int) + 1) (by omega)]
          exact ⟨next (by simp [badV, hsee, hs, hsw, hd]), le_of (by simp [dslot, e1, e2, e6, e7, e8, e9, e26, e27, e54])⟩
        · simp -implicitDefEqProofs [e1, e2, e6, e7, e8, e9, e26, e27, e54, hl, hi6, hri, hrw, hw6, gi, gw, hd]
          exact hR ⟨i, hi, by simp [badV, hsee, hs, hsw, hd]⟩ _ (by simp) (by simp) (by simp [dslot])
      simp -implicitDefEqProofs [p2, p3, p5, e1, e2, e6, e7, e8, e9, e26, e27, e54, hl, hi6, hri, hrw, hw6, gi, gw]
      rw [IntWalk.i64_in ((i : Int) + 1) (by omega)]
      exact ⟨next (by simp [badV, p2, p3, p5]), le_of (by simp [dslot, e1, e2, e6, e7, e8, e9, e26, e27, e54])⟩
  · intro hz
    simp -implicitDefEqProofs [lp1_modal_Is, e1, e2, e6, e7, e8, e9, e26, e27, e54]
    exact hQ hz _ (by simp [e1]) (by simp [e2]) (by simp [e6]) (by simp [e7]) (by simp [e8]) (by simp [e26]) (by simp [e27]) (by simp [dslot])

noncomputable def isF (S : List U) (p : Int) : Bool := !((List.range S.length).any fun w => badW S p w || (List.range S.length).any (badV S p w))
noncomputable def IsF (S : List U) (p : Int) : Bool × Int := if rightF S = false then (false, 371) else if p < 1 ∨ 6 < p then (false, 1) else (isF S p, 0)
def isV (p : Bool × Int) : AV := .tup [bool p.1, i64 p.2]
theorem isF_false {S : List U} {p : Int} {w : Nat} (hw : w < S.length) (h : badW S p w = true ∨ ∃ v, v < S.length ∧ badV S p w v = true) : isF S p = false := by
  have : ((List.range S.length).any fun w => badW S p w || (List.range S.length).any (badV S p w)) = true := by
    rw [List.any_eq_true]
    refine ⟨w, List.mem_range.2 hw, ?_⟩
    rw [Bool.or_eq_true, List.any_eq_true]
    exact h.imp id fun ⟨v, h1, h2⟩ => ⟨v, List.mem_range.2 h1, h2⟩
  rw [isF, this]; rfl
theorem isF_true {S : List U} {p : Int} (h : ∀ w, w < S.length → badW S p w = false ∧ ∀ v, v < S.length → badV S p w v = false) : isF S p = true := by
  have : ((List.range S.length).any fun w => badW S p w || (List.range S.length).any (badV S p w)) = false := by
    rw [List.any_eq_false]
    intro w hw
    obtain ⟨h1, h2⟩ := h w (List.mem_range.1 hw)
    rw [Bool.or_eq_true, List.any_eq_true, h1]
    rintro (h3 | ⟨v, h3, h4⟩)
    · cases h3
    · rw [h2 v (List.mem_range.1 h3)] at h4; cases h4
  rw [isF, this]; rfl

set_option maxHeartbeats 1000000 in
theorem Is_c (S : List U) (c : Cap) (p : Int) {h : AHeap} (hS : S.length < 2 ^ 20) : AEx PP Gl 26 [.agg [.sl 1 (S.map u64) c], .sc (.int .i64 p)] h (.ret (isV (IsF S p))) h := by
  refine enter_modal_Is (by simp) ?_
  simp -implicitDefEqProofs [code_modal_Is, res_modal_Is, ann_modal_Is]
  refine callk (right_c S c (by omega)) (by simp) rfl ?_
  simp -implicitDefEqProofs
  refine ⟨fun hr => ?_, fun hr => ?_⟩
  rotate_left
  · exact retE (by simp [deferred, dslot]) rfl (by simp [IsF, isV, hr]) rfl
  have hr' : rightF S = true := by simpa using hr
  have hn : S.length ≤ 6 := by simp [rightF] at hr'; exact hr'.1.2
  have h1 := right1_of hr'
  by_cases p0 : p < 1
  · simp -implicitDefEqProofs [p0]
    exact retE (by simp [deferred, dslot]) rfl (by simp [IsF, isV, hr', p0]) rfl
  by_cases p6 : 6 < p
  · simp -implicitDefEqProofs [p0, p6]
    exact retE (by simp [deferred, dslot]) rfl (by simp [IsF, isV, hr', p6]) rfl
  have hI : IsF S p = (isF S p, 0) := by simp [IsF, hr', p0, p6]
  rw [hI]
  simp -implicitDefEqProofs [p0, p6]
  have hl := rowL_len hn
  refine callk (row_c S c hn) (by simp) rfl ?_
  simp -implicitDefEqProofs [hl]
  refine AWp.cnt S.length [1, 2, 6, 7, 8, 26] (fun i => [(27, i64 i)]) (fun _ => h) (fun i => ∀ w, w < i → badW S p w = false ∧ ∀ v, v < S.length → badV S p w v = false) mixed (by simp) (le_of (by simp [dslot])) rfl ?_ ?_
  · intro i hi hz
    obtain ⟨s, hs⟩ : ∃ s, S[i]? = some s := ⟨S[i], by simp [hi]⟩
    have hlt : (i : Int) < S.length := by omega
    have next : badW S p i = false → (∀ v, v < S.length → badV S p i v = false) → ∀ w, w < i + 1 → badW S p w = false ∧ ∀ v, v < S.length → badV S p w v = false := fun hb hv w hw => by
      by_cases hwi : w = i
      · subst hwi; exact ⟨hb, hv⟩
      · exact hz w (by omega)
    have hi6 : i < 6 := by omega
    have gi : (rowL S)[i]'(by omega) = s := (List.getElem?_eq_some_iff.1 (rowL_get hs)).2
    by_cases p1 : p = 1
    · subst p1
      simp -implicitDefEqProofs [lp0_modal_Is, hlt]
      refine callk (Is1_c S i i hn hi hi) (by simp) rfl ?_
      cases hd : seesF S i i with
      | true =>
        simp -implicitDefEqProofs
        refine isInner S 1 i _ _ _ hn hi (by simp) ⟨_, by simp; rfl⟩ (by simp) (by simp) (by simp) (by simp) (by simp) (by simp) (by simp) (by simp) (by simp [dslot]) ?_ ?_
        · intro hb env' g1 g2 g6 g7 g8 g26 g27 gd
          simp at g1 g2 g6 g7 g8 g26 g27
          simp -implicitDefEqProofs [g1, g2, g6, g7, g8, g26, g27]
          rw [IntWalk.i64_in ((i : Int) + 1) (by omega)]
          exact ⟨next (by simp [badW, hd]) hb, le_of (by simp [g1, g2, g6, g7, g8, g26, g27]; simp [dslot] at gd ⊢; exact gd.symm)⟩
        · rintro hex env' g4 g5 gd
          simp -implicitDefEqProofs
          exact retE (by simp [deferred, gd]) (by simp [evalRes, evalRes1, g4, g5]; rfl) (by simp [isV, isF_false hi (.inr hex)]) rfl
      | false =>
        simp -implicitDefEqProofs
        exact retE (by simp [deferred, dslot]) rfl (by simp [isV, isF_false (p := 1) hi (.inl (by simp [badW, hd]))]) rfl
    by_cases p4 : p = 4
    · subst p4
      by_cases hd : s = 0#64
      · simp -implicitDefEqProofs [lp0_modal_Is, hlt, hl, hi6, gi, hd]
        exact retE (by simp [deferred, dslot]) rfl (by simp [isV, isF_false (p := 4) hi (.inl (by simp [badW, hs, hd]))]) rfl
      · simp -implicitDefEqProofs [lp0_modal_Is, hlt, hl, hi6, gi, hd]
        refine isInner S 4 i _ _ _ hn hi (by simp) ⟨_, by simp; rfl⟩ (by simp) (by simp) (by simp) (by simp) (by simp) (by simp) (by simp) (by simp) (by simp [dslot]) ?_ ?_
        · intro hb env' g1 g2 g6 g7 g8 g26 g27 gd
          simp at g1 g2 g6 g7 g8 g26 g27
          simp -implicitDefEqProofs [g1, g2, g6, g7, g8, g26, g27]
          rw [IntWalk.i64_in ((i : Int) + 1) (by omega)]
          exact ⟨next (by simp [badW, hs, hd]) hb, le_of (by simp [g1, g2, g6, g7, g8, g26, g27]; simp [dslot] at gd ⊢; exact gd.symm)⟩
        · rintro hex env' g4 g5 gd
          simp -implicitDefEqProofs
          exact retE (by simp [deferred, gd]) (by simp [evalRes, evalRes1, g4, g5]; rfl) (by simp [isV, isF_false hi (.inr hex)]) rfl
    by_cases p6 : p = 6
    · subst p6
      simp -implicitDefEqProofs [lp0_modal_Is, hlt]
      refine callk (reach_c S c (1#64 <<< i) h1 hn) (by simp) rfl ?_
      simp -implicitDefEqProofs
      refine ⟨fun hd => ?_, fun hd => ?_⟩
      · skip
        exact retE (by simp [deferred, dslot]) rfl (by simp [isV, isF_false (p := 6) hi (.inl (by simp [badW, bit, hd]))]) rfl
      · skip
        refine isInner S 6 i _ _ _ hn hi (by simp) ⟨_, by simp; rfl⟩ (by simp) (by simp) (by simp) (by simp) (by simp) (by simp) (by simp) (by simp) (by simp [dslot]) ?_ ?_
        · intro hb env' g1 g2 g6 g7 g8 g26 g27 gd
          simp at g1 g2 g6 g7 g8 g26 g27
          simp -implicitDefEqProofs [g1, g2, g6, g7, g8, g26, g27]
          rw [IntWalk.i64_in ((i : Int) + 1) (by omega)]
          exact ⟨next (by simp [badW, bit, hd]) hb, le_of (by simp [g1, g2, g6, g7, g8, g26, g27]; simp [dslot] at gd ⊢; exact gd.symm)⟩
        · rintro hex env' g4 g5 gd
          simp -implicitDefEqProofs
          exact retE (by simp [deferred, gd]) (by simp [evalRes, evalRes1, g4, g5]; rfl) (by simp [isV, isF_false hi (.inr hex)]) rfl
    simp -implicitDefEqProofs [lp0_modal_Is, hlt, p1, p4, p6]
    refine isInner S p i _ _ _ hn hi (by simp) ⟨_, by simp; rfl⟩ (by simp) (by simp) (by simp) (by simp) (by simp) (by simp) (by simp) (by simp) (by simp [dslot]) ?_ ?_
    · intro hb env' g1 g2 g6 g7 g8 g26 g27 gd
      simp at g1 g2 g6 g7 g8 g26 g27
      simp -implicitDefEqProofs [g1, g2, g6, g7, g8, g26, g27]
      rw [IntWalk.i64_in ((i : Int) + 1) (by omega)]
      exact ⟨next (by simp [badW, p1, p4, p6]) hb, le_of (by simp [g1, g2, g6, g7, g8, g26, g27]; simp [dslot] at gd ⊢; exact gd.symm)⟩
    · rintro hex env' g4 g5 gd
      simp -implicitDefEqProofs
      exact retE (by simp [deferred, gd]) (by simp [evalRes, evalRes1, g4, g5]; rfl) (by simp [isV, isF_false hi (.inr hex)]) rfl
  · intro hz
    simp -implicitDefEqProofs [lp0_modal_Is]
    exact retE (by simp [deferred, dslot]) rfl (by simp [isV, isF_true hz]) rfl
end Go.Apx
