/- Walks: follows. -/
import Derived.Test.YtbijnfhclfimeaaDoorM7
namespace Go.Apx
open Go.Proofs
set_option linter.unusedVariables false
set_option linter.unusedSimpArgs false
set_option linter.unnecessarySimpa false
set_option maxRecDepth 4000

/-! ## variables are different -/
mutual
theorem visitT_nodup (m : Means) : ∀ (t : Tr) (out : List ByteArray), out.Nodup → (visitT m t out).Nodup
  | .node l ks _, out, h => by
    simp only [visitT]
    refine visitL_nodup m ks _ ?_
    split
    · rename_i h1
      rw [List.nodup_append]
      exact ⟨h, by simp, fun a ha b hb e => by simp at hb; subst hb; subst e; exact h1.2 ha⟩
    · exact h
theorem visitL_nodup (m : Means) : ∀ (l : List Tr) (out : List ByteArray), out.Nodup → (visitL m l out).Nodup
  | [], out, h => h
  | t :: r, out, h => visitL_nodup m r _ (visitT_nodup m t out h)
end
theorem varsF_nodup (m : Means) (l : List Tr) : (varsF m l).Nodup := visitL_nodup m l [] (by simp)

theorem sfind_modFrom (n x : Nat) : ∀ (l : List ByteArray) (j : Nat) (s : ByteArray), (sfind (modFrom n x l j) s).isSome = decide (s ∈ l)
  | [], j, s => by simp [modFrom, sfind]
  | v :: l, j, s => by
    simp only [modFrom, sfind]
    by_cases h : s = v
    · simp [h]
    · simp [h, sfind_modFrom n x l (j + 1) s]
theorem modFrom_keys (n x : Nat) : ∀ (l : List ByteArray) (j : Nat), (modFrom n x l j).map (·.1) = l
  | [], j => rfl
  | v :: l, j => by simp [modFrom, modFrom_keys n x l (j + 1)]
theorem sfind_none {α : Type} : ∀ (l : List (ByteArray × α)) (s : ByteArray), s ∉ l.map (·.1) → sfind l s = none
  | [], s, h => rfl
  | (k, v) :: l, s, h => by
    simp at h
    simp only [sfind, if_neg h.1]
    exact sfind_none l s (by simpa using h.2)
theorem sfind_upd : ∀ (l V : Model) (s : ByteArray), (l.map (·.1)).Nodup → sfind (upd V l) s = (sfind l s).or (sfind V s)
  | [], V, s, h => by simp [upd, sfind]
  | (k, v) :: l, V, s, h => by
    simp only [List.map_cons, List.nodup_cons] at h
    have ih := sfind_upd l (sset V k v) s h.2
    have e : upd V ((k, v) :: l) = upd (sset V k v) l := rfl
    rw [e, ih, sfind_sset]
    simp only [sfind]
    by_cases hs : s = k
    · subst hs
      rw [sfind_none l s h.1]; simp
    · simp [hs]

/-- The map at the i-th round's beginning. -/
def vn (n : Nat) (vars : List ByteArray) : Nat → Model
  | 0 => []
  | i + 1 => upd (vn n vars i) (modF n i vars)
theorem vn_find (n : Nat) (vars : List ByteArray) (hd : vars.Nodup) (i : Nat) (s : ByteArray) : sfind (vn n vars (i + 1)) s = sfind (modF n i vars) s := by
  have key : ∀ i, s ∉ vars → sfind (vn n vars i) s = none := by
    intro i hs
    induction i with
    | zero => rfl
    | succ i ih =>
      rw [vn, sfind_upd _ _ _ (by rw [modF, modFrom_keys]; exact hd), ih]
      have := sfind_modFrom n i vars 0 s
      simp [hs] at this
      rw [modF, this]; rfl
  rw [vn, sfind_upd _ _ _ (by rw [modF, modFrom_keys]; exact hd)]
  have := sfind_modFrom n i vars 0 s
  by_cases hs : s ∈ vars
  · simp [hs] at this
    rw [modF]
    cases h : sfind (modFrom n i vars 0) s with
    | none => rw [h] at this; cases this
    | some v => rfl
  · rw [key i hs]; cases sfind (modF n i vars) s <;> rfl

mutual
theorem holdsF_congr (S : List U) (m : Means) {V V' : Model} (h : ∀ s, sfind V s = sfind V' s) : ∀ t, holdsF S m V t = holdsF S m V' t
  | .node l ks _ => by simp only [holdsF, h l, holdsL_congr S m h ks]
theorem holdsL_congr (S : List U) (m : Means) {V V' : Model} (h : ∀ s, sfind V s = sfind V' s) : ∀ l, holdsL S m V l = holdsL S m V' l
  | [] => rfl
  | t :: r => by simp only [holdsL, holdsF_congr S m h t, holdsL_congr S m h r]
end
theorem badF_congr (S : List U) (m : Means) {V V' : Model} (h : ∀ s, sfind V s = sfind V' s) (prem : List Tr) (concl : Tr) : badF S m prem concl V = badF S m prem concl V' := by
  have : failsF S m V = failsF S m V' := by funext t; simp only [failsF, holdsF_congr S m h t]
  simp only [badF, this]

/-! ## follows -/
abbrev Ans := Bool × Model × Int × Int
noncomputable def followsF (S : List U) (m : Means) (prem : List Tr) (concl : Tr) : Ans :=
  if 12 < (varsF m (prem ++ [concl])).length * S.length then (false, [], 0, 15) else
  match (List.range (2 ^ (S.length * (varsF m (prem ++ [concl])).length))).find? (fun i => badF S m prem concl (modF S.length i (varsF m (prem ++ [concl])))) with
  | some i => (false, modF S.length i (varsF m (prem ++ [concl])), tzF (full S.length &&& ~~~ holdsF S m (modF S.length i (varsF m (prem ++ [concl]))) concl), 0)
  | none => (true, [], 0, 0)
def ansV (a : Ans) : AV := .tup [.sc (.bool a.1), grown 2 (a.2.1.map encM), .sc (.int .i64 a.2.2.1), .sc (.int .i64 a.2.2.2)]

theorem stripL_enc {α : Type} (f : α → AV) (hf : ∀ a, (f a).strip = f a) (l : List α) : stripL (l.map f) = l.map f := by
  induction l with
  | nil => rfl
  | cons a l ih => simp [stripL, hf, ih]
theorem inbL_enc {α : Type} (f : α → AV) (n : Nat) (hf : ∀ a, (f a).inb n = true) (l : List α) : inbL n (l.map f) = true := by
  induction l with
  | nil => rfl
  | cons a l ih => simp [inbL, hf, ih]
theorem encM_strip (p : ByteArray × U) : (encM p).strip = encM p := rfl
theorem encM_inb (p : ByteArray × U) (n : Nat) : (encM p).inb n = true := rfl

theorem follows_iter (S : List U) (c : Cap) (m : Means) (om : Nat) (prem : List Tr) (cp : Cap) (concl : Tr) (vars : List ByteArray) (E : Env) (X : LoopX) (np : Nat) {h : AHeap} (hS : S.length ≤ 6) (hm : okM m) (hsm : S.length * vars.length ≤ 12) (hvl : vars.length ≤ 2 ^ 31) (hnd : vars.Nodup)
    (hp : prem.length < 2 ^ 20) (hn : ∀ p ∈ prem, p.nodes ≤ 2 ^ 31 ∧ formed m p = true) (hn' : concl.nodes ≤ 2 ^ 31 ∧ formed m concl = true) (ho : h[om]? = some (.amap (smap iv m)))
    (hX : XOk ⟨PP, Gl, 71, ann_modal_follows, 0, none⟩ [40] ra0_modal_follows rb0_modal_follows X)
    (e4 : E.get 4 = some (.ip (.agg [.sl 1 (S.map u64) c]))) (e6 : E.get 6 = some (.ip (.sl 2 (prem.map encT) cp))) (e7 : E.get 7 = some (.ip (encT concl))) (e8 : E.get 8 = some (.ptr h.length 0 0)) (e9 : E.get 9 = some (.ptr (h.length + 1) 0 0))
    (e10 : E.get 10 = some (.ptr (h.length + 2) 0 0)) (e11 : E.get 11 = some (.ptr (h.length + 3) 0 0)) (e13 : E.get 13 = some (.ip (plc S c om (h.length + 5)))) (e14 : E.get 14 = some (.ip (.fn (.func 57) [] [.ip (plc S c om (h.length + 5)), .ip (.agg [.sl 1 (S.map u64) c])]))) (ed : E.get dslot = none) :
    ∃ R, ACalls PP Gl 70 [.yld (h.length + 7), .ip (.agg [.sl 1 (S.map u64) c]), .ip (grown 1 (vars.map sv))] (fH h false (.sl 0 [] .nil) 0 0 np [] E X .ready none) R ∧ ∀ r h', R r h' →
      (r = .ret (.tup []) ∧ ∃ Y V, match (List.range (2 ^ (S.length * vars.length))).find? (fun i => badF S m prem concl (modF S.length i vars)) with
        | none => h' = fH h false (.sl 0 [] .nil) 0 0 np V E X .ready none ++ Y
        | some i => ∃ t, h' = fH h false (apd 2 ((modF S.length i vars).map encM) t) (tzF (full S.length &&& ~~~ (holdsF S m (modF S.length i vars) concl))) 0 np V E X .done (some .ret) ++ Y) := by
  refine ⟨_, models1_c S c vars (h.length + 7) (fun i => fH h false (.sl 0 [] .nil) 0 0 np (vn S.length vars i) E X .ready none)
    (fun i t => fH h false (apd 2 ((modF S.length i vars).map encM) t) (tzF (full S.length &&& ~~~ (holdsF S m (modF S.length i vars) concl))) 0 np (vn S.length vars (i + 1)) E X .done (some .ret))
    (fun i => badF S m prem concl (modF S.length i vars)) hsm hvl (fun i Y => by simp [fH, isLoop]) (fun i hi Y t => ?_), ?_⟩
  · have hb := badF_congr S m (vn_find S.length vars hnd i) prem concl
    have hh := holdsF_congr S m (vn_find S.length vars hnd i) concl
    have := fRound S c m om prem cp concl (modF S.length i vars) t (vn S.length vars i) E X np Y (by omega) hm (by rw [modF, modFrom_len]; exact hvl) (by omega) hn hn' ho hX e4 e6 e7 e8 e9 e10 e11 e13 e14 ed
    have hv : upd (vn S.length vars i) (modF S.length i vars) = vn S.length vars (i + 1) := rfl
    rw [hv, hb, hh] at this
    exact this
  · rintro r h' ⟨rfl, Y, hY⟩
    cases hfi : (List.range (2 ^ (S.length * vars.length))).find? (fun i => badF S m prem concl (modF S.length i vars)) with
    | none =>
      rw [hfi] at hY
      exact ⟨rfl, Y, _, hY⟩
    | some i =>
      rw [hfi] at hY
      obtain ⟨t, ht⟩ := hY
      exact ⟨rfl, Y, _, t, ht⟩

theorem follows_c (S : List U) (c : Cap) (m : Means) (om : Nat) (prem : List Tr) (cp : Cap) (concl : Tr) {h : AHeap} (hS : S.length ≤ 6) (hm : okM m) (hcp : cp = .nil → prem = [])
    (hp : prem.length < 2 ^ 20) (hN : Tr.nodesL (prem ++ [concl]) ≤ 2 ^ 31) (hf : ∀ p ∈ prem, formed m p = true) (hf' : formed m concl = true) (ho : h[om]? = some (.amap (smap iv m))) :
    AEx PP Gl 35 [.agg [.sl 1 (S.map u64) c], .mp om, .sl 2 (prem.map encT) cp, encT concl] h (.ret (ansV (followsF S m prem concl))) h := by
  have hom : om < h.length := (List.getElem?_eq_some_iff.1 ho).1
  have ho1 : ∀ x, (h ++ x)[om]? = some (.amap (smap iv m)) := fun x => by rw [List.getElem?_append_left hom, ho]
  refine enter_modal_follows (by simp) ?_
  simp [code_modal_follows, res_modal_follows, ann_modal_follows, encT_eq concl]
  refine callk (clone_c (prem.map encT) cp (by intro e; simp [hcp e]) (len_tok (by simp; omega))) rfl rfl ?_
  simp
  refine appc (prem.map encT) (encT concl) cp (h ++ [.cells 0 [.sc (.bool false)], .cells 0 [.sl 0 [] .nil], .cells 0 [.sc (.int .i64 0)], .cells 0 [.sc (.int .i64 0)]]) (by simp) (by simp [encT_eq concl]) (by simp) (by intro e; simp [hcp e]) (len_tok (by simp; omega)) ?_
  simp
  refine callk (variables_c m om (prem ++ [concl]) (.tok (h.length + 4)) hN (ho1 _)) (by simp [encT_eq concl]) rfl ?_
  obtain ⟨vars, hvars⟩ : ∃ vars, vars = varsF m (prem ++ [concl]) := ⟨_, rfl⟩
  have hvl : vars.length ≤ 2 ^ 31 := by rw [hvars]; have := visitL_len m (prem ++ [concl]) []; simp at this; simp [varsF]; omega
  have hme : ((vars.length : Int) * (S.length : Int)) = ((vars.length * S.length : Nat) : Int) := by simp
  have hmb : vars.length * S.length ≤ 2 ^ 31 * 6 := Nat.mul_le_mul hvl hS
  have hmulw : IntKind.i64.wrap ((vars.length : Int) * (S.length : Int)) = ((vars.length * S.length : Nat) : Int) := by rw [hme]; exact IntWalk.i64_in _ (by omega)
  rw [← hvars]
  simp [grown]
  rw [hmulw]
  refine ⟨fun hb => ?_, fun hb => ?_⟩
  · have hbig : 12 < vars.length * S.length := by omega
    refine retD (v := .tup [.sc (.bool false), .sl 0 [] .nil, .sc (.int .i64 0), .sc (.int .i64 15)]) (by simp [deferred, dslot]) (by simp [evalRes, evalRes1]) (by simp [AV.strip, stripL, AV.inb, inbL, Cap.strip, Cap.inb]) ?_ rfl
    have : followsF S m prem concl = (false, [], 0, 15) := by simp only [followsF, ← hvars]; rw [if_pos hbig]
    simp [this, ansV, grown, AV.strip, stripL, Cap.strip]
  have hsm : S.length * vars.length ≤ 12 := by rw [Nat.mul_comm]; omega
  have hbig : ¬ 12 < vars.length * S.length := by omega
  have hnd : vars.Nodup := by rw [hvars]; exact varsF_nodup m _
  refine callk (models_c (S.map u64) c (vars.map sv)) (by simp [grown]) rfl ?_
  simp
  refine AWp.keep [4, 6, 7, 8, 9, 10, 11, 13, 14, 39] (le_of (by simp [dslot])) ?_
  simp
  refine AWp.rangeF (gf := 70) (fa := []) (fb := [.ip (.agg [.sl 1 (S.map u64) c]), .ip (grown 1 (vars.map sv))]) (dl := []) rfl (by simp [grown]) (by simp [noPend]) (by simp [deferred, dslot]) ?_
  intro X hX
  simp [dslot]
  refine iterk (follows_iter S c m om prem cp concl vars _ X prem.length hS hm hsm hvl hnd hp (fun p hp => ⟨?_, hf p hp⟩) ⟨?_, hf'⟩ ho hX ?_ ?_ ?_ ?_ ?_ ?_ ?_ ?_ ?_ ?_) rfl rfl ?_
  all_goals first | (simp [plc, encT_eq concl, dslot]; done) | skip
  · obtain ⟨i, hi⟩ := List.getElem?_of_mem hp
    have h1 := Tr.nodes_get hi
    have h2 := Tr.nodesL_take prem (i + 1)
    have h3 := Tr.nodesL_append prem [concl]
    omega
  · have h3 := Tr.nodesL_append prem [concl]
    simp [Tr.nodesL] at h3
    omega
  · rintro r h' ⟨rfl, Y, V, hY⟩
    have e67 : h.length + 6 + 1 = h.length + 7 := rfl
    cases hfi : (List.range (2 ^ (S.length * vars.length))).find? (fun i => badF S m prem concl (modF S.length i vars)) with
    | none =>
      rw [hfi] at hY
      have hY' := hY
      subst hY'
      simp [rangeEnd, fH, e67, dslot]
      refine retDefer [.it (h.length + 6)] (by simp [deferred, dslot]) (leaveIt (by simp [isQueue]) ?_)
      simp
      refine leaveD (v := .tup [.sc (.bool true), .sl 0 [] .nil, .sc (.int .i64 0), .sc (.int .i64 0)]) (by simp [evalRes, evalRes1]) (by simp [AV.strip, stripL, AV.inb, inbL, Cap.strip, Cap.inb]) ?_ rfl
      have : followsF S m prem concl = (true, [], 0, 0) := by simp only [followsF, ← hvars]; rw [if_neg hbig, hfi]
      simp [this, ansV, grown, AV.strip, stripL, Cap.strip]
    | some i =>
      rw [hfi] at hY
      obtain ⟨t, ht⟩ := hY
      subst ht
      simp [rangeEnd, fH, e67, dslot]
      refine retDefer [.it (h.length + 6)] (by simp [deferred, dslot]) (leaveIt (by simp [isQueue]) ?_)
      simp
      refine leaveD (v := .tup [.sc (.bool false), apd 2 ((modF S.length i vars).map encM) t, .sc (.int .i64 (tzF (full S.length &&& ~~~ (holdsF S m (modF S.length i vars) concl)))), .sc (.int .i64 0)]) (by simp [evalRes, evalRes1]) ?_ ?_ rfl
      · simp [apd, AV.strip, stripL, AV.inb, inbL, stripL_enc _ encM_strip, inbL_enc _ _ (fun a => encM_inb a _)]
        split <;> rfl
      · have : followsF S m prem concl = (false, modF S.length i vars, tzF (full S.length &&& ~~~ holdsF S m (modF S.length i vars) concl), 0) := by simp only [followsF, ← hvars]; rw [if_neg hbig, hfi]
        simp [this, ansV, grown, apd, AV.strip, stripL, stripL_enc _ encM_strip]
        split <;> rfl
end Go.Apx
