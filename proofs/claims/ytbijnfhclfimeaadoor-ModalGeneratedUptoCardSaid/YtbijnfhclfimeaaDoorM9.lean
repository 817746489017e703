/- Walks: Follows, Valid. -/
import Derived.Test.YtbijnfhclfimeaaDoorM8
namespace Go.Apx
open Go.Proofs
set_option linter.unusedVariables false
set_option linter.unusedSimpArgs false
set_option linter.unnecessarySimpa false
set_option maxRecDepth 4000

theorem sget_sset (m : Means) (s t : ByteArray) (v : Int) : sget (sset m s v) t = if t = s then v else sget m t := by
  unfold sget; rw [sfind_sset]; split <;> rfl
theorem meaningsF_ok : ∀ (l : List Role) (m m' : Means), okM m → meaningsF l m = some m' → okM m'
  | [], m, m', h, e => by simp only [meaningsF, Option.some.injEq] at e; subst e; exact h
  | r :: l, m, m', h, e => by
    simp only [meaningsF] at e
    split at e
    · cases e
    · rename_i hc
      refine meaningsF_ok l _ m' (fun s => ?_) e
      simp only [not_or, ne_eq] at hc
      rw [sget_sset]
      split
      · exact ⟨by omega, by omega⟩
      · exact h s
theorem startedF_cases (S : List U) (l : List Role) : (∃ e, e ≠ 0 ∧ startedF S l = (none, e)) ∨ (∃ m, startedF S l = (some m, 0) ∧ rightF S = true ∧ meaningsF l [] = some m ∧ okM m ∧ S.length ≤ 6) := by
  unfold startedF
  by_cases h : rightF S = false
  · rw [if_pos h]; exact .inl ⟨371, by decide, rfl⟩
  · rw [if_neg h]
    cases hm : meaningsF l [] with
    | none => exact .inl ⟨370, by decide, rfl⟩
    | some m =>
      have hr : rightF S = true := by simpa using h
      refine .inr ⟨m, rfl, hr, rfl, meaningsF_ok l [] m (fun s => by simp [sget, sfind]) hm, ?_⟩
      simp [rightF] at hr
      exact hr.1.2

/-- The first error of trees. -/
def errsF (m : Means) : List Tr → Int
  | [] => 0
  | t :: r => if checkF m t = 0 then errsF m r else checkF m t
theorem errsF_zero (m : Means) : ∀ l, errsF m l = 0 → ∀ t ∈ l, checkF m t = 0
  | [], _, t, h => by cases h
  | x :: r, he, t, h => by
    simp only [errsF] at he
    split at he
    · rename_i hx
      rcases List.mem_cons.1 h with rfl | h
      · exact hx
      · exact errsF_zero m r he t h
    · rename_i hx; exact absurd he hx
theorem checkF_zero {m : Means} {t : Tr} (h : checkF m t = 0) : t.nodes ≤ 4000 ∧ formed m t = true := by
  unfold checkF at h
  by_cases h1 : 4000 < t.nodes
  · rw [if_pos h1] at h; cases h
  · rw [if_neg h1] at h
    split at h
    · cases h
    · split at h
      · rename_i hf; exact ⟨by omega, hf⟩
      · cases h

noncomputable def FollowsF (S : List U) (l : List Role) (prem : List Tr) (concl : Tr) : Ans :=
  match startedF S l with
  | (some m, _) => if 40 < prem.length then (false, [], 0, 4) else if errsF m (prem ++ [concl]) ≠ 0 then (false, [], 0, errsF m (prem ++ [concl])) else followsF S m prem concl
  | (none, e) => (false, [], 0, e)

theorem Follows_c (S : List U) (c : Cap) (l : List Role) (cl : Cap) (prem : List Tr) (cp : Cap) (concl : Tr) {h : AHeap} (hS : S.length < 2 ^ 20) (hl : l.length < 2 ^ 20) (hcp : cp = .nil → prem = []) (hp : prem.length < 2 ^ 20)
    (hk : ∀ p ∈ prem ++ [concl], p.ok = true ∧ p.nodes ≤ 2 ^ 20) : AEx PP Gl 12 [.agg [.sl 1 (S.map u64) c], .sl 2 (l.map encRole) cl, .sl 2 (prem.map encT) cp, encT concl] h (.ret (ansV (FollowsF S l prem concl))) h := by
  refine enter_modal_Follows (by simp) ?_
  simp [code_modal_Follows, res_modal_Follows, ann_modal_Follows, encT_eq concl]
  refine callk (started_c S c l cl (by omega) (by omega)) rfl rfl ?_
  rcases startedF_cases S l with ⟨e, he, hst⟩ | ⟨m, hst, hr, hm, hok, hS6⟩
  · rw [hst]
    simp [startedR, meansH, he]
    refine retE (by simp [deferred, dslot]) rfl ?_ rfl
    simp [FollowsF, hst, ansV, grown]
  rw [hst]
  simp [startedR, meansH]
  refine ⟨fun hb => ?_, fun hb => ?_⟩
  · have hb' : 40 < prem.length := by omega
    refine retD (by simp [deferred, dslot]) rfl (by simp [AV.strip, stripL, AV.inb, inbL, Cap.strip, Cap.inb]) ?_ rfl
    simp [FollowsF, hst, ansV, grown, hb', AV.strip, stripL, Cap.strip]
  have hb' : ¬ 40 < prem.length := by omega
  refine callk (clone_c (prem.map encT) cp (by intro e; simp [hcp e]) (len_tok (by simp; omega))) rfl rfl ?_
  simp
  refine appc (prem.map encT) (encT concl) cp (h ++ [.amap (smap iv m)]) (by simp) (by simp [encT_eq concl]) (by simp) (by intro e; simp [hcp e]) (len_tok (by simp; omega)) ?_
  simp
  obtain ⟨all, hall⟩ : ∃ all, all = prem ++ [concl] := ⟨_, rfl⟩
  have hmap : prem.map encT ++ [encT concl] = all.map encT := by rw [hall]; simp
  have hlen : (prem.length : Int) + 1 = all.length := by rw [hall]; simp
  have hlen2 : all.length = prem.length + 1 := by rw [hall]; simp
  rw [← hall] at hk
  simp [hmap, hlen]
  refine AWp.cnt all.length [2, 4, 7, 12, 32, 33] (fun i => [(34, i64 i)]) (fun _ => h ++ [.amap (smap iv m), .tok (prem.length + 1)]) (fun i => errsF m all = errsF m (all.drop i)) mixed (by simp) (le_of (by simp [dslot])) (by simp) ?_ ?_
  · intro i hi hz
    obtain ⟨k, hki⟩ : ∃ k, all[i]? = some k := ⟨all[i], by simp [hi]⟩
    have hlt : (i : Int) < all.length := by omega
    have hkk := hk k (List.mem_of_getElem? hki)
    rw [drop_get hki] at hz
    simp only [errsF] at hz
    simp [lp0_modal_Follows, hlt, hki, encT_eq k]
    refine callk (check_c m h.length k hkk.1 (by omega) (by simp)) (by simp [encT_eq k]) rfl ?_
    simp
    refine ⟨fun hc => ?_, fun hc => ?_⟩
    · rw [IntWalk.i64_in ((i : Int) + 1) (by omega)]
      rw [if_pos hc] at hz
      exact ⟨hz, le_of (by simp [dslot])⟩
    · rw [if_neg hc] at hz
      refine retD (by simp [deferred, dslot]) rfl (by simp [AV.strip, stripL, AV.inb, inbL, Cap.strip, Cap.inb]) ?_ rfl
      simp [FollowsF, hst, ansV, grown, hb', ← hall, hz, hc, AV.strip, stripL, Cap.strip]
  · intro hz
    have hz' : errsF m all = 0 := by rw [hz]; simp [errsF]
    have hall0 := errsF_zero m all hz'
    have hp0 : prem.length ≤ 40 := by omega
    have hnod : ∀ l : List Tr, (∀ t ∈ l, checkF m t = 0) → Tr.nodesL l ≤ 4000 * l.length := by
      intro l
      induction l with
      | nil => intro _; simp [Tr.nodesL]
      | cons x l ih =>
        intro hx
        have h1 := (checkF_zero (hx x (by simp))).1
        have h2 := ih fun t ht => hx t (by simp [ht])
        simp only [Tr.nodesL, List.length_cons]; omega
    have hN := hnod all hall0
    rw [hall] at hN
    simp [lp0_modal_Follows]
    refine callk (follows_c S c m h.length prem cp concl hS6 hok hcp hp (by simp at hN; omega) (fun p hp => (checkF_zero (hall0 p (by rw [hall]; simp [hp]))).2) (checkF_zero (hall0 concl (by rw [hall]; simp))).2 (by simp)) (by simp [encT_eq concl]) rfl ?_
    have hF : FollowsF S l prem concl = followsF S m prem concl := by simp only [FollowsF, hst]; rw [if_neg hb', if_neg (by rw [← hall]; simpa using hz')]
    rw [hF]
    simp [ansV]
    refine retD (by simp [deferred, dslot]) rfl ?_ ?_ rfl
    · simp [grown, AV.strip, stripL, AV.inb, inbL, stripL_enc _ encM_strip, inbL_enc _ _ (fun a => encM_inb a _)]
      split <;> rfl
    · simp [grown, AV.strip, stripL, stripL_enc _ encM_strip]
      split <;> rfl

theorem Valid_c (S : List U) (c : Cap) (l : List Role) (cl : Cap) (concl : Tr) {h : AHeap} (hS : S.length < 2 ^ 20) (hl : l.length < 2 ^ 20) (hk : concl.ok = true ∧ concl.nodes ≤ 2 ^ 20) :
    AEx PP Gl 18 [.agg [.sl 1 (S.map u64) c], .sl 2 (l.map encRole) cl, encT concl] h (.ret (ansV (FollowsF S l [] concl))) h := by
  refine enter_modal_Valid (by simp) ?_
  simp [code_modal_Valid, res_modal_Valid, ann_modal_Valid, encT_eq concl]
  have hF := Follows_c S c l cl [] .nil concl (h := h) hS hl (fun _ => rfl) (by simp) (by intro p hp; simp at hp; subst hp; exact hk)
  refine callk2 hF (.cons (.refl _) (.cons (.refl _) (.cons (.nil 0 2) (by rw [encT_eq concl]; exact .refl _)))) rfl ?_
  simp [ansV]
  refine retE (by simp [deferred, dslot]) rfl (by simp [grown]) rfl
end Go.Apx
