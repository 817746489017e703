/- Walks: the reference: holds. -/
import Derived.Test.YtbijnfhclfimeaaDoorR2
namespace Go.Apx
open Go.Proofs
set_option linter.unusedVariables false
set_option linter.unusedSimpArgs false
set_option linter.unnecessarySimpa false
set_option maxRecDepth 4000

theorem boxR_loop (S : List U) (c : Cap) (l : List Role) (cl : Cap) (lab : ByteArray) (vt : AV) (a : U) (hvt : ∃ w, vt = .agg [.sc (.string lab), w]) (env : Env) (Q : APost) {h : AHeap} (k : Nat) (hS : S.length < 2 ^ 20) (hl : l.length < 2 ^ 40) (h8 : meanR l lab = 8)
    (e1 : env.get 1 = some (.sl 2 (l.map encRole) cl)) (e4 : env.get 4 = some (.ip (.agg [.sl 1 (S.map u64) c]))) (e7 : env.get 7 = some (.ip vt)) (e10 : env.get 10 = some (u64 a)) (e12 : env.get 12 = some (u64 0#64)) (e13 : env.get 13 = some (i64 0)) (ed : env.get dslot = none)
    (hQ : ∀ env', env'.get 12 = some (u64 (boxF S a)) → env'.get dslot = none → Q (.exit 1) env' h) : AWp ⟨PP, Gl, 146, [4, 7], k, none⟩ (.loop lp0_ref35_holds) Q env h := by
  obtain ⟨w, rfl⟩ := hvt
  refine AWp.cnt S.length [1, 4, 7, 10] (fun i => [(12, u64 (boxF (S.take i) a)), (13, i64 i)]) (fun _ => h) (fun _ => True) mixed trivial (le_of (by simp [dslot, boxF, bitsF, e1, e4, e7, e10, e12, e13]; exact ed.symm)) rfl ?_ ?_
  · intro i hi _
    obtain ⟨s, hs⟩ : ∃ s, S[i]? = some s := ⟨S[i], by simp [hi]⟩
    have hlt : (i : Int) < S.length := by omega
    have hg := bitsF_get (fun s => decide (s &&& ~~~ a = 0#64)) hs
    have him : i % 18446744073709551616 = i := by omega
    simp -implicitDefEqProofs [lp0_ref35_holds, hlt, e1, e4, e7, e10]
    refine callk (meanR_c l cl lab hl) rfl rfl ?_
    rw [h8]
    by_cases hz : s &&& ~~~ a = 0#64
    · simp -implicitDefEqProofs [hs, hz]
      rw [IntWalk.i64_in ((i : Int) + 1) (by omega)]
      refine le_of ?_
      simp [dslot]; simp [boxF, hg, hz, him]
    · simp -implicitDefEqProofs [hs, hz]
      refine callk (meanR_c l cl lab hl) rfl rfl ?_
      rw [h8]
      simp -implicitDefEqProofs
      rw [IntWalk.i64_in ((i : Int) + 1) (by omega)]
      refine le_of ?_
      simp [dslot]; simp [boxF, hg, hz]
  · intro _
    simp -implicitDefEqProofs [lp0_ref35_holds, e1, e4, e7, e10]
    exact hQ _ (by simp) (by simp [dslot])

theorem diaR_loop (S : List U) (c : Cap) (l : List Role) (cl : Cap) (lab : ByteArray) (vt : AV) (a : U) (hvt : ∃ w, vt = .agg [.sc (.string lab), w]) (env : Env) (Q : APost) {h : AHeap} (k : Nat) (hS : S.length < 2 ^ 20) (hl : l.length < 2 ^ 40) (h9 : meanR l lab = 9)
    (e1 : env.get 1 = some (.sl 2 (l.map encRole) cl)) (e4 : env.get 4 = some (.ip (.agg [.sl 1 (S.map u64) c]))) (e7 : env.get 7 = some (.ip vt)) (e10 : env.get 10 = some (u64 a)) (e12 : env.get 12 = some (u64 0#64)) (e13 : env.get 13 = some (i64 0)) (ed : env.get dslot = none)
    (hQ : ∀ env', env'.get 12 = some (u64 (diaF S a)) → env'.get dslot = none → Q (.exit 1) env' h) : AWp ⟨PP, Gl, 146, [4, 7], k, none⟩ (.loop lp0_ref35_holds) Q env h := by
  obtain ⟨w, rfl⟩ := hvt
  refine AWp.cnt S.length [1, 4, 7, 10] (fun i => [(12, u64 (diaF (S.take i) a)), (13, i64 i)]) (fun _ => h) (fun _ => True) mixed trivial (le_of (by simp [dslot, diaF, bitsF, e1, e4, e7, e10, e12, e13]; exact ed.symm)) rfl ?_ ?_
  · intro i hi _
    obtain ⟨s, hs⟩ : ∃ s, S[i]? = some s := ⟨S[i], by simp [hi]⟩
    have hlt : (i : Int) < S.length := by omega
    have hg := bitsF_get (fun s => !decide (s &&& a = 0#64)) hs
    have him : i % 18446744073709551616 = i := by omega
    simp -implicitDefEqProofs [lp0_ref35_holds, hlt, e1, e4, e7, e10]
    refine callk (meanR_c l cl lab hl) rfl rfl ?_
    rw [h9]
    simp -implicitDefEqProofs
    refine callk (meanR_c l cl lab hl) rfl rfl ?_
    rw [h9]
    by_cases hz : s &&& a = 0#64
    · simp -implicitDefEqProofs [hs, hz]
      rw [IntWalk.i64_in ((i : Int) + 1) (by omega)]
      refine le_of ?_
      simp [dslot]; simp [diaF, hg, hz]
    · simp -implicitDefEqProofs [hs, hz]
      rw [IntWalk.i64_in ((i : Int) + 1) (by omega)]
      refine le_of ?_
      simp [dslot]; simp [diaF, hg, hz, him]
  · intro _
    simp -implicitDefEqProofs [lp0_ref35_holds, e1, e4, e7, e10]
    exact hQ _ (by simp) (by simp [dslot])

set_option maxHeartbeats 2000000 in
theorem holdsR_c (S : List U) (c : Cap) (l : List Role) (cl : Cap) (m : Means) (hm : meaningsF l [] = some m) (hok : okM m) (V : Model) (kv : Nat) (cv : Cap) (hkv : V = [] ∨ kv = 2) (t : Tr) {h : AHeap} (hS : S.length < 2 ^ 20) (hl : l.length < 2 ^ 40) (hV : V.length < 2 ^ 40) (hn : t.nodes ≤ 2 ^ 31) (hf : formed m t = true) :
    AEx PP Gl 40 [.agg [.sl 1 (S.map u64) c], .sl 2 (l.map encRole) cl, .sl kv (V.map encM) cv, encT t] h (.ret (u64 (holdsF S m V t))) h := by
  rw [formed_eq, Bool.and_eq_true, decide_eq_true_eq] at hf
  obtain ⟨hk, hfl⟩ := hf
  rw [formedL_all, List.all_eq_true] at hfl
  have hne := Tr.nodes_eq t
  have hmk := meanR_eq hm
  refine enter_ref35_holds (by simp) ?_
  simp [code_ref35_holds, res_ref35_holds, ann_ref35_holds, encT_eq t]
  refine callk (all_c (by simp; omega)) rfl rfl ?_
  have hcase : sget m t.label = 0 ∨ sget m t.label = 1 ∨ sget m t.label = 2 ∨ sget m t.label = 3 ∨ sget m t.label = 4 ∨ sget m t.label = 5 ∨ sget m t.label = 6 ∨ sget m t.label = 7 ∨ sget m t.label = 8 ∨ sget m t.label = 9 := by have := hok t.label; omega
  have hvar : ∀ env, sget m t.label = 0 → env.get 2 = some (.sl kv (V.map encM) cv) → env.get 7 = some (.ip (encT t)) → env.get 14 = some (i64 0) → env.get dslot = none →
      AWp ⟨PP, Gl, 146, [4, 7], h.length, none⟩ (.loop lp1_ref35_holds) (blockP 3 (thenP (codeK ⟨PP, Gl, 146, [4, 7], h.length, none⟩ (.seq (.reg [⟨some 8, .mv (.c (.sc (v64 0#64))), none, []⟩]) .ret) (retPost PP Gl h [.t 8] fun r h' => r = .ret (u64 (holdsF S m V t)) ∧ h' = h)) (retPost PP Gl h [.t 8] fun r h' => r = .ret (u64 (holdsF S m V t)) ∧ h' = h))) env h := by
    intro env h0 e2 e7 e14 ed
    have hh : holdsF S m V t = (sfind V t.label).getD 0#64 := by rw [holdsF_eq, if_pos h0]
    refine AWp.cnt V.length [2, 7] (fun i => [(14, i64 i)]) (fun _ => h) (fun i => sfind V t.label = sfind (V.drop i) t.label) mixed (by simp) (le_of (by simp [e2, e7, e14, dslot]; exact ed.symm)) rfl ?_ ?_
    · intro i hi hz
      obtain ⟨p, hp⟩ : ∃ p, V[i]? = some p := ⟨V[i], by simp [hi]⟩
      have hlt : (i : Int) < V.length := by omega
      have hk2 : kv = 2 := by rcases hkv with h | h; subst h; simp at hi; exact h
      rw [drop_get hp] at hz
      obtain ⟨pk, pv⟩ := p
      simp only [sfind] at hz
      simp [lp1_ref35_holds, e2, e7, e14, hlt, hp, hk2, encM, encT_eq t]
      refine ⟨fun hc => ?_, fun hc => ?_⟩
      · rw [if_pos hc.symm] at hz
        exact retE (by simp [deferred, dslot]) rfl (by rw [hh, hz]; simp) rfl
      · rw [if_neg (Ne.symm hc)] at hz
        rw [IntWalk.i64_in ((i : Int) + 1) (by omega)]
        exact ⟨hz, le_of (by simp [dslot])⟩
    · intro hz
      simp [lp1_ref35_holds, e2, e7, e14]
      exact retE (by simp [deferred, dslot]) rfl (by rw [hh, hz]; simp [sfind]) rfl
  rcases hks : t.kids with _ | ⟨k0, _ | ⟨k1, ks⟩⟩
  · rw [hks] at hk
    simp [hks]
    refine callk (meanR_c l cl t.label hl) rfl rfl ?_
    rw [hmk]
    rcases hcase with e | e | e | e | e | e | e | e | e | e <;> first | (exfalso; rw [e] at hk; simp [kidsN] at hk; done) | skip
    all_goals simp [e]
    · exact hvar _ e (by simp) (by simp [encT_eq t, hks]) (by simp) (by simp [dslot])
    · exact retE (by simp [deferred, dslot]) rfl (by simp [holdsF_eq S m V t, hks, e, meanF]) rfl
    · exact retE (by simp [deferred, dslot]) rfl (by simp [holdsF_eq S m V t, hks, e, meanF]) rfl
  · have hk0 : t.kids[0]? = some k0 := by rw [hks]; rfl
    have g1 : k0.nodes ≤ 2 ^ 31 := by rw [hks] at hne; simp [Tr.nodesL] at hne; omega
    rw [hks] at hk
    simp [hks, encT_eq k0]
    refine callk (holdsR_c S c l cl m hm hok V kv cv hkv k0 hS hl hV g1 (hfl k0 (by simp [hks]))) (by simp [encT_eq k0]) rfl ?_
    simp [hks]
    refine callk (meanR_c l cl t.label hl) rfl rfl ?_
    rw [hmk]
    obtain ⟨a, ha⟩ : ∃ a, a = holdsF S m V k0 := ⟨_, rfl⟩
    rw [← ha]
    have hH : holdsF S m V t = meanF S (sget m t.label) [a] ∨ sget m t.label = 0 := by rw [holdsF_eq, hks, ha]; split <;> simp_all
    rcases hcase with e | e | e | e | e | e | e | e | e | e <;> first | (exfalso; rw [e] at hk; simp [kidsN] at hk; done) | skip
    all_goals (rw [e] at hH; simp at hH)
    all_goals simp [e]
    · exact retE (by simp [deferred, dslot]) rfl (by simp [hH, meanF]) rfl
    · refine boxR_loop S c l cl t.label _ a ⟨_, rfl⟩ _ _ _ hS hl (by rw [hmk, e]) (by simp) (by simp) (by simp; rfl) (by simp) (by simp) (by simp) (by simp [dslot]) ?_
      intro env' e12 ed
      simp [e12]
      have ed1 : env'.get 1000000 = none := ed
      exact retE (v := u64 (boxF S a)) (by simp [deferred, dslot, ed1]) (by simp [evalRes, evalRes1]) (by simp [hH, meanF]) rfl
    · refine diaR_loop S c l cl t.label _ a ⟨_, rfl⟩ _ _ _ hS hl (by rw [hmk, e]) (by simp) (by simp) (by simp; rfl) (by simp) (by simp) (by simp) (by simp [dslot]) ?_
      intro env' e12 ed
      simp [e12]
      have ed1 : env'.get 1000000 = none := ed
      exact retE (v := u64 (diaF S a)) (by simp [deferred, dslot, ed1]) (by simp [evalRes, evalRes1]) (by simp [hH, meanF]) rfl
  · have hk0 : t.kids[0]? = some k0 := by rw [hks]; rfl
    have hk1 : t.kids[1]? = some k1 := by rw [hks]; rfl
    have g1 : k0.nodes ≤ 2 ^ 31 ∧ k1.nodes ≤ 2 ^ 31 := by rw [hks] at hne; simp [Tr.nodesL] at hne; omega
    rw [hks] at hk
    have hks0 : ks = [] := by
      rcases hcase with e | e | e | e | e | e | e | e | e | e <;> rw [e] at hk <;> simp [kidsN] at hk <;> first | omega | (cases ks with | nil => rfl | cons x xs => simp at hk; omega)
    subst hks0
    simp [hks, encT_eq k0]
    refine callk (holdsR_c S c l cl m hm hok V kv cv hkv k0 hS hl hV g1.1 (hfl k0 (by simp [hks]))) (by simp [encT_eq k0]) rfl ?_
    simp [hks, encT_eq k1]
    refine callk (holdsR_c S c l cl m hm hok V kv cv hkv k1 hS hl hV g1.2 (hfl k1 (by simp [hks]))) (by simp [encT_eq k1]) rfl ?_
    simp [hks]
    refine callk (meanR_c l cl t.label hl) rfl rfl ?_
    rw [hmk]
    obtain ⟨a, ha⟩ : ∃ a, a = holdsF S m V k0 := ⟨_, rfl⟩
    obtain ⟨b, hb⟩ : ∃ b, b = holdsF S m V k1 := ⟨_, rfl⟩
    rw [← ha, ← hb]
    have hH : holdsF S m V t = meanF S (sget m t.label) [a, b] ∨ sget m t.label = 0 := by rw [holdsF_eq, hks, ha, hb]; split <;> simp_all
    rcases hcase with e | e | e | e | e | e | e | e | e | e <;> first | (exfalso; rw [e] at hk; simp [kidsN] at hk; done) | skip
    all_goals (rw [e] at hH; simp at hH)
    all_goals simp [e]
    all_goals exact retE (by simp [deferred, dslot]) rfl (by simp [hH, meanF]) rfl
termination_by SizeOf.sizeOf t
decreasing_by
  · exact Tr.sizeOf_kids hk0
  · exact Tr.sizeOf_kids hk0
  · exact Tr.sizeOf_kids hk1
end Go.Apx
