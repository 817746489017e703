/- Walks: the reference: Follows. -/
import Derived.Test.YtbijnfhclfimeaaDoorR4
namespace Go.Apx
open Go.Proofs
set_option linter.unusedVariables false
set_option linter.unusedSimpArgs false
set_option linter.unnecessarySimpa false
set_option maxRecDepth 4000

/-! ## sets of worlds stay within a frame -/
def within (n : Nat) (x : U) : Prop := ∀ i, x.getLsbD i = true → i < n
theorem full_bit (n i : Nat) (hn : n ≤ 6) : (full n).getLsbD i = decide (i < n) := by
  by_cases hi : i < 64
  · have h : (List.range 7).all (fun n => (List.range 64).all fun i => (full n).getLsbD i == decide (i < n)) = true := by decide +kernel
    have := List.all_eq_true.1 (List.all_eq_true.1 h n (List.mem_range.2 (by omega))) i (List.mem_range.2 hi)
    simpa using this
  · rw [BitVec.getLsbD_of_ge _ _ (by omega)]
    simp; omega
theorem within_iff {n : Nat} {x : U} (hn : n ≤ 6) : x &&& ~~~ full n = 0#64 ↔ within n x := by
  constructor
  · intro h i hi
    have hlt : i < 64 := by
      rcases Nat.lt_or_ge i 64 with h1 | h1
      · exact h1
      · rw [BitVec.getLsbD_of_ge _ _ h1] at hi; cases hi
    have := congrArg (fun b : U => b.getLsbD i) h
    rcases Nat.lt_or_ge i n with h1 | h1
    · exact h1
    · exfalso
      have h2 : ¬ i < n := by omega
      simp only [BitVec.getLsbD_and, BitVec.getLsbD_not, full_bit n i hn, hi] at this
      simp [hlt, h2] at this
  · intro h
    apply BitVec.eq_of_getLsbD_eq
    intro i hi
    simp only [BitVec.getLsbD_and, BitVec.getLsbD_not, full_bit n i hn]
    cases hx : x.getLsbD i with
    | false => simp
    | true => simp [h i hx]
theorem within_full (n : Nat) (hn : n ≤ 6) : within n (full n) := fun i hi => by rw [full_bit n i hn] at hi; simpa using hi
theorem within_and {n : Nat} {x y : U} (h : within n x) : within n (x &&& y) := fun i hi => by simp at hi; exact h i hi.1
theorem within_and' {n : Nat} {x y : U} (h : within n y) : within n (x &&& y) := fun i hi => by simp at hi; exact h i hi.2
theorem within_or {n : Nat} {x y : U} (h : within n x) (h' : within n y) : within n (x ||| y) := fun i hi => by
  simp at hi; rcases hi with hi | hi; exact h i hi; exact h' i hi
theorem within_zero (n : Nat) : within n 0#64 := fun i hi => by simp at hi
theorem within_one {n w : Nat} (h : w < n) : within n (1#64 <<< w) := fun i hi => by
  rw [BitVec.getLsbD_shiftLeft] at hi
  simp only [Bool.and_eq_true, Bool.not_eq_true', decide_eq_true_eq, decide_eq_false_iff_not] at hi
  have h1 : i - w = 0 := by
    have := hi.2
    rw [BitVec.getLsbD_one] at this
    simp at this; omega
  omega
theorem within_bits (p : U → Bool) : ∀ (l : List U) (w n : Nat) (out : U), w + l.length ≤ n → within n out → within n (bitsF p l w out)
  | [], w, n, out, h, ho => ho
  | s :: l, w, n, out, h, ho => by
    simp only [List.length_cons] at h
    refine within_bits p l (w + 1) n _ (by omega) ?_
    split
    · exact within_or ho (within_one (by omega))
    · exact ho
theorem holds_within (S : List U) (m : Means) (V : Model) (hS : S.length ≤ 6) (hV : ∀ s v, sfind V s = some v → within S.length v) (t : Tr) : within S.length (holdsF S m V t) := by
  have hget : ∀ (l : List U) (i : Nat), (∀ x ∈ l, within S.length x) → within S.length (l.getD i 0#64) := by
    intro l i h
    rw [List.getD_eq_getElem?_getD]
    cases hx : l[i]? with
    | none => exact within_zero _
    | some x => exact h x (List.mem_of_getElem? hx)
  have hmean : ∀ n l, (∀ x ∈ l, within S.length x) → within S.length (meanF S n l) := by
    intro n l h
    have ha := hget l 0 h
    have hb := hget l 1 h
    have hf := within_full S.length hS
    unfold meanF
    simp only
    split; exact within_and hf
    split; exact within_or (within_and hf) hb
    split; exact within_and ha
    split; exact within_or ha hb
    split; exact within_and hf
    split; exact hf
    split; exact within_zero _
    split
    · exact within_bits _ S 0 _ _ (by omega) (within_zero _)
    · exact within_bits _ S 0 _ _ (by omega) (within_zero _)
  rw [holdsF_eq]
  split
  · cases h : sfind V t.label with
    | none => exact within_zero _
    | some v => exact hV _ v h
  · refine hmean _ _ fun x hx => ?_
    obtain ⟨k, hk, rfl⟩ := List.mem_map.1 hx
    have : SizeOf.sizeOf k < SizeOf.sizeOf t := by
      obtain ⟨i, hi⟩ := List.getElem?_of_mem hk
      exact Tr.sizeOf_kids hi
    exact holds_within S m V hS hV k
termination_by SizeOf.sizeOf t
theorem modFrom_within (n x : Nat) (hn : n ≤ 6) : ∀ (l : List ByteArray) (j : Nat) (s : ByteArray) (v : U), sfind (modFrom n x l j) s = some v → within n v
  | [], j, s, v, h => by simp [modFrom, sfind] at h
  | a :: l, j, s, v, h => by
    simp only [modFrom, sfind] at h
    split at h
    · simp at h; subst h; exact within_and' (within_full n hn)
    · exact modFrom_within n x hn l (j + 1) s v h

/-! ## Follows -/
theorem errsF_append (m : Means) : ∀ (a b : List Tr), errsF m a = 0 → errsF m (a ++ b) = errsF m b
  | [], b, h => rfl
  | x :: a, b, h => by
    simp only [errsF] at h
    split at h
    · rename_i hx
      simp only [List.cons_append, errsF, if_pos hx]
      exact errsF_append m a b h
    · rename_i hx; exact absurd h hx

theorem modelR_step (n i : Nat) : BitVec.ofNat 64 i + 1#64 = BitVec.ofNat 64 (i + 1) := by
  rw [BitVec.ofNat_add]

/-- One round of the search for a countermodel, from what is known of its head. -/
theorem shl_word (k : Nat) (hk : k ≤ 12) : nv (1#64 <<< (k % 18446744073709551616)) = 2 ^ k := by
  have h : (List.range 13).all (fun k => decide (nv (1#64 <<< (k % 18446744073709551616)) = 2 ^ k)) = true := by decide +kernel
  simpa using List.all_eq_true.1 h k (List.mem_range.2 (by omega))

def firstBad (S : List U) (m : Means) (prem : List Tr) (concl : Tr) (vars : List ByteArray) : Option Nat := (List.range (2 ^ (S.length * vars.length))).find? (fun i => badF S m prem concl (modF S.length i vars))

theorem FollowsR_loop (S : List U) (c : Cap) (l : List Role) (cl : Cap) (m : Means) (hm : meaningsF l [] = some m) (hok : okM m) (prem : List Tr) (cp : Cap) (concl : Tr) (vars : List ByteArray) (cv : Cap) (env : Env) (Q : APost) (k : Nat) {h : AHeap} (hS : S.length ≤ 6) (hl : l.length < 2 ^ 20)
    (hp : prem.length ≤ 40) (hsm : S.length * vars.length ≤ 12) (hvl : vars.length ≤ 2 ^ 31) (hn : ∀ p ∈ prem, p.nodes ≤ 4000 ∧ formed m p = true) (hn' : concl.nodes ≤ 4000 ∧ formed m concl = true)
    (e1 : env.get 1 = some (.sl 2 (l.map encRole) cl)) (e2 : env.get 2 = some (.sl 2 (prem.map encT) cp)) (e4 : env.get 4 = some (.ip (.agg [.sl 1 (S.map u64) c]))) (e7 : env.get 7 = some (.ip (encT concl)))
    (e13 : env.get 13 = some (slV 1 (vars.map sv) cv)) (e17 : env.get 17 = some (i64 S.length)) (e18 : env.get 18 = some (u64 0#64)) (ed : env.get dslot = none)
    (hbad : ∀ env' X i t, firstBad S m prem concl vars = some i → env'.get 8 = some (bool false) → env'.get 9 = some (apd 2 ((modF S.length i vars).map encM) t) → env'.get 10 = some (i64 (tzF (full S.length &&& ~~~ holdsF S m (modF S.length i vars) concl))) → env'.get 11 = some (i64 0) → env'.get dslot = none → Q .ret env' (h ++ X))
    (hgood : ∀ env' X, firstBad S m prem concl vars = none → env'.get dslot = none → Q (.exit 2) env' (h ++ X)) : AWp ⟨PP, Gl, 141, ann_ref35_Follows, k, none⟩ (.loop lp1_ref35_Follows) Q env h := by
  obtain ⟨N, hN⟩ : ∃ N, N = 2 ^ (S.length * vars.length) := ⟨_, rfl⟩
  have hNle : N ≤ 4096 := by rw [hN]; exact Nat.pow_le_pow_right (by omega) hsm
  have hme : ((S.length : Int) * (vars.length : Int)) = ((S.length * vars.length : Nat) : Int) := by simp
  have hmulw : IntKind.i64.wrap ((S.length : Int) * (vars.length : Int)) = ((S.length * vars.length : Nat) : Int) := by rw [hme]; exact IntWalk.i64_in _ (by omega)
  have hsh := shl_word _ hsm
  rw [← hN] at hsh
  refine AWp.till (S := Nat × AHeap) (0, []) (fun s => N - s.1) [1, 2, 4, 7, 13, 17] (fun s => [(18, u64 (BitVec.ofNat 64 s.1))]) (fun s => h ++ s.2) (fun s => s.1 ≤ N ∧ ∀ j, j < s.1 → badF S m prem concl (modF S.length j vars) = false) mixed ⟨Nat.zero_le _, fun j hj => absurd hj (Nat.not_lt_zero _)⟩
    (le_of (by simp [dslot, e1, e2, e4, e7, e13, e17, e18]; exact ed.symm)) (by simp) ?_
  rintro ⟨i, X⟩ ⟨hi, hz⟩
  simp only at hi hz
  have him : i % 18446744073709551616 = i := by omega
  have hcond : nv (1#64 <<< nv (BitVec.ofInt 64 ((S.length * vars.length : Nat) : Int))) = N := by rw [BitVec.ofInt_natCast, nv_ofNat]; exact hsh
  simp -implicitDefEqProofs [lp1_ref35_Follows, e1, e2, e4, e7, e13, e17, slV]
  rw [hmulw, hcond, him]
  refine ⟨fun hlt => ?_, fun hlt => ?_⟩
  rotate_left
  · have hiN : i = N := by omega
    refine hgood _ X ?_ (by simp [dslot])
    unfold firstBad
    rw [← hN, ← hiN]
    exact List.find?_range_eq_none.2 fun j hj => by rw [hz j hj]; rfl
  -- the model
  obtain ⟨A, hA⟩ : ∃ A : Nat → List AV, ∀ j, A j = (modF S.length i (vars.take j)).map encM := ⟨_, fun _ => rfl⟩
  have hA0 : A 0 = [] := by simp [hA, modF, modFrom]
  have hAn : A vars.length = (modF S.length i vars).map encM := by simp [hA]
  have hVl : (modF S.length i vars).length = vars.length := by rw [modF, modFrom_len]
  refine AWp.cnt vars.length [1, 2, 4, 7, 13, 17, 18] (fun j => [(19, apd 2 (A j) (h ++ X).length), (20, i64 j)]) (fun j => h ++ X ++ apdH (A j).length) (fun _ => True) mixed trivial (le_of (by simp [dslot, hA0, apd])) (by simp [hA0]) ?_ ?_
  · intro j hj _
    obtain ⟨v, hvj⟩ : ∃ v, vars[j]? = some v := ⟨vars[j], by simp [hj]⟩
    have hltj : (j : Int) < vars.length := by omega
    have hne : vars ≠ [] := by intro e; rw [e] at hj; simp at hj
    have hnj : S.length * j ≤ 12 := Nat.le_trans (Nat.mul_le_mul_left _ (Nat.le_of_lt hj)) hsm
    have hme2 : ((S.length : Int) * (j : Int)) = ((S.length * j : Nat) : Int) := by simp
    have hmul : IntKind.i64.wrap ((S.length : Int) * (j : Int)) = ((S.length * j : Nat) : Int) := by rw [hme2]; exact IntWalk.i64_in _ (by omega)
    have hsj : nv (BitVec.ofInt 64 ((S.length * j : Nat) : Int)) = S.length * j := by rw [BitVec.ofInt_natCast, nv_ofNat]; omega
    have hAl : (A j).length = j := by rw [hA, List.length_map, modF, modFrom_len]; simp; omega
    have hAs : A (j + 1) = A j ++ [encM (v, (BitVec.ofNat 64 i >>> (S.length * j)) &&& full S.length)] := by simp [hA, modF_get _ _ hvj]
    simp -implicitDefEqProofs [lp2_ref35_Follows, hltj, hvj, hne]
    rw [hmul, hsj]
    refine callk (all_c (by simp; omega)) rfl rfl ?_
    simp -implicitDefEqProofs
    refine appk (A j) (encM (v, (BitVec.ofNat 64 i >>> (S.length * j)) &&& full S.length)) (h ++ X) (by simp) (by simp [encM]) (by simp) (len_tok (by omega)) ?_
    simp -implicitDefEqProofs
    rw [IntWalk.i64_in ((j : Int) + 1) (by omega)]
    exact ⟨le_of (by simp [dslot, hAs]), by simp [hAs, hAl]⟩
  · intro _
    simp -implicitDefEqProofs [lp2_ref35_Follows, hAn]
    obtain ⟨V, hV⟩ : ∃ V, V = modF S.length i vars := ⟨_, rfl⟩
    rw [← hV]
    rw [← hV] at hVl
    refine AWp.cnt prem.length [1, 2, 4, 7, 13, 17, 18, 19] (fun j => [(21, bool (!(prem.take j).any (failsF S m V))), (22, i64 j)]) (fun _ => h ++ (X ++ apdH (V.length))) (fun _ => True) mixed trivial (le_of (by simp [dslot, apd])) (by simp) ?_ ?_
    · intro j hj _
      obtain ⟨p, hpj⟩ : ∃ p, prem[j]? = some p := ⟨prem[j], by simp [hj]⟩
      have hltj : (j : Int) < prem.length := by omega
      have hpn := hn p (List.mem_of_getElem? hpj)
      have hs : (prem.take (j + 1)).any (failsF S m V) = ((prem.take j).any (failsF S m V) || failsF S m V p) := by rw [take_succ_of hpj]; simp
      generalize hb1 : (prem.take j).any (failsF S m V) = b1 at hs
      cases b1 with
      | true =>
        simp -implicitDefEqProofs [lp3_ref35_Follows, hltj]
        rw [IntWalk.i64_in ((j : Int) + 1) (by omega)]
        exact le_of (by simp [dslot, hs])
      | false =>
        simp -implicitDefEqProofs [lp3_ref35_Follows, hltj, hpj, encT_eq p]
        refine callk (holdsR_c S c l cl m hm hok V (if V.map encM = [] then 0 else 2) (if V.map encM = [] then .nil else .tok (h ++ X).length) (by by_cases hv : V = []; exact .inl hv; exact .inr (by simp [hv])) p (by omega) (by omega) (by omega) (by omega) hpn.2) (by simp [encT_eq p, apd]) rfl ?_
        simp -implicitDefEqProofs
        refine callk (all_c (by simp; omega)) rfl rfl ?_
        simp -implicitDefEqProofs
        rw [IntWalk.i64_in ((j : Int) + 1) (by omega)]
        exact le_of (by simp [dslot, hs, failsF])
    · intro _
      simp only [List.take_length]
      have hstep : badF S m prem concl V = false → ∃ a, N - a < N - i ∧ (a ≤ N ∧ ∀ j, j < a → badF S m prem concl (modF S.length j vars) = false) ∧ a = i + 1 := fun hb => ⟨i + 1, by omega, ⟨by omega, fun j hj => by
        by_cases hji : j = i
        · subst hji; rw [← hV]; exact hb
        · exact hz j (by omega)⟩, rfl⟩
      generalize hb2 : prem.any (failsF S m V) = b2
      cases b2 with
      | true =>
        have hb : badF S m prem concl V = false := by simp [badF, hb2]
        simp -implicitDefEqProofs [lp3_ref35_Follows]
        obtain ⟨a, s1, s2, rfl⟩ := hstep hb
        exact ⟨i + 1, s1, s2, le_of (by simp [dslot]; rw [modelR_step 0 i])⟩
      | false =>
        simp -implicitDefEqProofs [lp3_ref35_Follows, encT_eq concl]
        refine callk (holdsR_c S c l cl m hm hok V (if V.map encM = [] then 0 else 2) (if V.map encM = [] then .nil else .tok (h ++ X).length) (by by_cases hv : V = []; exact .inl hv; exact .inr (by simp [hv])) concl (by omega) (by omega) (by omega) (by omega) hn'.2) (by simp [encT_eq concl, apd]) rfl ?_
        simp -implicitDefEqProofs
        refine callk (all_c (by simp; omega)) rfl rfl ?_
        simp -implicitDefEqProofs
        refine ⟨fun he => ?_, fun he => ?_⟩
        · have hb : badF S m prem concl V = false := by simp [badF, hb2, failsF, he]
          obtain ⟨a, s1, s2, rfl⟩ := hstep hb
          exact ⟨i + 1, s1, s2, le_of (by simp [dslot]; rw [modelR_step 0 i])⟩
        · have hb : badF S m prem concl V = true := by simp [badF, hb2, failsF, he]
          have hwi := holds_within S m V hS (fun s v hsv => by rw [hV] at hsv; exact modFrom_within _ _ hS _ _ s v hsv) concl
          have hsub := (within_iff hS).2 hwi
          have htz := (least_spec S.length _ hS hsub).2.2.2 he
          refine callk (least_c S c _ hS hsub) rfl rfl ?_
          simp -implicitDefEqProofs
          have hfb : firstBad S m prem concl vars = some i := by
            unfold firstBad
            rw [← hN]
            exact List.find?_range_eq_some.2 ⟨by rw [← hV]; exact hb, List.mem_range.2 hlt, fun j hj => by rw [hz j hj]; rfl⟩
          exact hbad _ (X ++ apdH V.length) i (h ++ X).length hfb (by simp) (by rw [← hV]; simp) (by rw [← hV, htz]; simp) (by simp) (by simp [dslot])

theorem encM_stripL (l : Model) : stripL (l.map encM) = l.map encM := stripL_enc encM encM_strip l
theorem encM_inbL (n : Nat) (l : Model) : inbL n (l.map encM) = true := inbL_enc encM n (fun a => encM_inb a n) l
theorem apd_strip (l : Model) (t : Nat) : (apd 2 (l.map encM) t).strip = grown 2 (l.map encM) := by
  simp [apd, grown, AV.strip, encM_stripL]
  split <;> rfl
theorem grown_inb (n : Nat) (l : Model) : (grown 2 (l.map encM)).inb n = true := by
  simp [grown, AV.inb, encM_inbL]
  split <;> rfl

theorem FollowsR_c (S : List U) (c : Cap) (l : List Role) (cl : Cap) (prem : List Tr) (cp : Cap) (concl : Tr) {h : AHeap} (hS : S.length < 2 ^ 20) (hl : l.length < 2 ^ 20) (hp : prem.length < 2 ^ 20)
    (hk : ∀ p ∈ prem ++ [concl], p.ok = true ∧ p.nodes ≤ 2 ^ 20) : AEx PP Gl 13 [.agg [.sl 1 (S.map u64) c], .sl 2 (l.map encRole) cl, .sl 2 (prem.map encT) cp, encT concl] h (.ret (ansV (FollowsF S l prem concl))) h := by
  refine enter_ref35_Follows (by simp) ?_
  simp [code_ref35_Follows, res_ref35_Follows, ann_ref35_Follows, encT_eq concl]
  refine callk (begin_c S c l cl hS hl) rfl rfl ?_
  rcases startedF_cases S l with ⟨e, he, hst⟩ | ⟨m, hst, hr, hm, hok, hS6⟩
  · rw [hst]
    simp [he]
    refine retE (by simp [deferred, dslot]) rfl ?_ rfl
    simp [FollowsF, hst, ansV, grown]
  rw [hst]
  simp
  refine ⟨fun hb => ?_, fun hb => ?_⟩
  · have hb' : 40 < prem.length := by omega
    refine retE (by simp [deferred, dslot]) rfl ?_ rfl
    simp [FollowsF, hst, ansV, grown, hb']
  have hb' : ¬ 40 < prem.length := by omega
  have hF : FollowsF S l prem concl = if errsF m (prem ++ [concl]) ≠ 0 then (false, [], 0, errsF m (prem ++ [concl])) else followsF S m prem concl := by simp only [FollowsF, hst]; rw [if_neg hb']
  have hbig : ∀ j, j ≤ prem.length → Tr.nodesL (prem.take j) ≤ j * 2 ^ 20 := by
    intro j
    induction j with
    | zero => intro _; simp [Tr.nodesL]
    | succ j ih =>
      intro hj
      obtain ⟨p, hpj⟩ : ∃ p, prem[j]? = some p := ⟨prem[j], by simp⟩
      have h1 := Tr.nodes_get hpj
      have h2 := ih (by omega)
      have h3 := (hk p (by simp [List.mem_of_getElem? hpj])).2
      omega
  refine AWp.till (S := Nat × Cap) (0, .nil) (fun s => prem.length - s.1) [1, 2, 4, 7] (fun s => [(13, slV 1 ((visitL m (prem.take s.1) []).map sv) s.2), (14, i64 s.1)]) (fun _ => h)
    (fun s => s.1 ≤ prem.length ∧ s.2.inb 0 = true ∧ errsF m (prem.take s.1) = 0) mixed ⟨Nat.zero_le _, rfl, rfl⟩ (le_of (by simp [dslot, slV, visitL])) rfl ?_
  rintro ⟨i, c1⟩ ⟨hi, hc1, hz⟩
  simp only at hi hc1 hz
  by_cases hlt : i < prem.length
  · obtain ⟨p, hpi⟩ : ∃ p, prem[i]? = some p := ⟨prem[i], by simp [hlt]⟩
    have hlt' : (i : Int) < prem.length := by omega
    have hpk := hk p (by simp [List.mem_of_getElem? hpi])
    have hsplit : prem ++ [concl] = prem.take i ++ (p :: (prem.drop (i + 1) ++ [concl])) := by
      conv => lhs; rw [← List.take_append_drop i prem, drop_get hpi]
      simp
    have herr : errsF m (prem ++ [concl]) = if checkF m p = 0 then errsF m (prem.drop (i + 1) ++ [concl]) else checkF m p := by rw [hsplit, errsF_append m _ _ hz]; rfl
    simp [lp0_ref35_Follows, hlt', hpi, encT_eq p]
    refine callk (checkR_c l cl m hm p (by omega) (by omega)) (by simp [encT_eq p]) rfl ?_
    simp [encT_eq p]
    refine ⟨fun hc => ?_, fun hc => ?_⟩
    · have hpn := checkF_zero hc
      have hvl := visitL_len m (prem.take i) []
      have hbi := hbig i hi
      simp [slV, hpi, encT_eq p]
      refine callr (varsR_c l cl m hm p (visitL m (prem.take i) []) c1 (by omega) (by simp at hvl; omega) hpn.2 hc1) (by simp [encT_eq p, slV]) rfl ?_
      rintro r h' ⟨⟨c2, hc2, rfl⟩, rfl⟩
      simp [slV]
      rw [IntWalk.i64_in ((i : Int) + 1) (by omega)]
      refine ⟨i + 1, by omega, c2, ⟨by omega, hc2, ?_⟩, le_of ?_⟩
      · rw [take_succ_of hpi, errsF_append m _ _ hz]; simp [errsF, hc]
      · simp [dslot, visitL_get m hpi]
    · refine retE (by simp [deferred, dslot]) rfl ?_ rfl
      rw [hF, herr, if_neg hc, if_pos hc]
      simp [ansV, grown]
  · have hiN : i = prem.length := by omega
    subst hiN
    simp at hz
    have herr : errsF m (prem ++ [concl]) = checkF m concl := by rw [errsF_append m _ _ hz]; simp only [errsF]; split <;> simp_all
    have hck := hk concl (by simp)
    simp [lp0_ref35_Follows, slV]
    refine callk (checkR_c l cl m hm concl (by omega) (by omega)) (by simp [encT_eq concl]) rfl ?_
    simp
    refine ⟨fun hc => ?_, fun hc => ?_⟩
    rotate_left
    · refine retE (by simp [deferred, dslot]) rfl ?_ rfl
      rw [hF, herr, if_pos hc]
      simp [ansV, grown]
    have hcn := checkF_zero hc
    have hvl := visitL_len m prem []
    have hbi := hbig prem.length (Nat.le_refl _)
    simp at hvl hbi
    refine callr (varsR_c l cl m hm concl (visitL m prem []) c1 (by omega) (by omega) hcn.2 hc1) (by simp [encT_eq concl, slV]) rfl ?_
    rintro r h' ⟨⟨c2, hc2, rfl⟩, rfl⟩
    have hvars : visitT m concl (visitL m prem []) = varsF m (prem ++ [concl]) := by
      have : ∀ (a : List Tr) (out : List ByteArray), visitT m concl (visitL m a out) = visitL m (a ++ [concl]) out := by
        intro a
        induction a with
        | nil => intro out; rfl
        | cons x a ih => intro out; simp only [List.cons_append, visitL]; exact ih _
      exact this prem []
    rw [hvars]
    obtain ⟨vars, hv⟩ : ∃ vars, vars = varsF m (prem ++ [concl]) := ⟨_, rfl⟩
    rw [← hv]
    have hvl2 : vars.length ≤ 2 ^ 31 := by rw [hv, ← hvars]; have := visitT_len m concl (visitL m prem []); omega
    have hme : ((S.length : Int) * (vars.length : Int)) = ((S.length * vars.length : Nat) : Int) := by simp
    have hmb : S.length * vars.length ≤ 6 * 2 ^ 31 := Nat.mul_le_mul hS6 hvl2
    have hmulw : IntKind.i64.wrap ((S.length : Int) * (vars.length : Int)) = ((S.length * vars.length : Nat) : Int) := by rw [hme]; exact IntWalk.i64_in _ (by omega)
    have hF2 : FollowsF S l prem concl = followsF S m prem concl := by rw [hF, if_neg]; rw [herr]; simpa using hc
    have hpe : ∀ p ∈ prem, checkF m p = 0 := errsF_zero m prem hz
    simp [slV]
    rw [hmulw]
    refine ⟨fun hbb => ?_, fun hbb => ?_⟩
    · have hbig2 : 12 < vars.length * S.length := by rw [Nat.mul_comm]; omega
      refine retE (by simp [deferred, dslot]) rfl ?_ rfl
      have : followsF S m prem concl = (false, [], 0, 15) := by simp only [followsF, ← hv]; rw [if_pos hbig2]
      simp [hF2, this, ansV, grown]
    have hsm : S.length * vars.length ≤ 12 := by omega
    have hbig2 : ¬ 12 < vars.length * S.length := by rw [Nat.mul_comm]; omega
    refine FollowsR_loop S c l cl m hm hok prem cp concl vars c2 _ _ _ hS6 hl (by omega) hsm hvl2 (fun p hp => checkF_zero (hpe p hp)) hcn (by simp) (by simp) (by simp) (by simp [encT_eq concl]) (by simp [slV]) (by simp) (by simp) (by simp [dslot]) ?_ ?_
    · intro env' X i t hfb e8 e9 e10 e11 ed
      simp
      have ed1 : env'.get 1000000 = none := ed
      refine retD (v := .tup [bool false, apd 2 ((modF S.length i vars).map encM) t, i64 (tzF (full S.length &&& ~~~ holdsF S m (modF S.length i vars) concl)), i64 0]) (by simp [deferred, dslot, ed1]) (by simp [evalRes, evalRes1, e8, e9, e10, e11]) ?_ ?_ rfl
      · simp only [AV.strip, stripL, apd_strip, AV.inb, inbL, grown_inb]; rfl
      · have : followsF S m prem concl = (false, modF S.length i vars, tzF (full S.length &&& ~~~ holdsF S m (modF S.length i vars) concl), 0) := by
          simp only [followsF, ← hv]; rw [if_neg hbig2]
          have : (List.range (2 ^ (S.length * vars.length))).find? (fun i => badF S m prem concl (modF S.length i vars)) = some i := hfb
          rw [this]
        simp only [hF2, this, ansV, AV.strip, stripL, apd_strip]
    · intro env' X hfb ed
      simp
      have ed1 : env'.get 1000000 = none := ed
      refine retD (v := .tup [bool true, .sl 0 [] .nil, i64 0, i64 0]) (by simp [deferred, dslot, ed1]) (by simp [evalRes, evalRes1]) (by simp [AV.strip, stripL, AV.inb, inbL, Cap.strip, Cap.inb]) ?_ rfl
      have : followsF S m prem concl = (true, [], 0, 0) := by
        simp only [followsF, ← hv]; rw [if_neg hbig2]
        have : (List.range (2 ^ (S.length * vars.length))).find? (fun i => badF S m prem concl (modF S.length i vars)) = none := hfb
        rw [this]
      simp [hF2, this, ansV, grown, AV.strip, stripL, Cap.strip]

theorem ValidR_c (S : List U) (c : Cap) (l : List Role) (cl : Cap) (concl : Tr) {h : AHeap} (hS : S.length < 2 ^ 20) (hl : l.length < 2 ^ 20) (hk : concl.ok = true ∧ concl.nodes ≤ 2 ^ 20) :
    AEx PP Gl 19 [.agg [.sl 1 (S.map u64) c], .sl 2 (l.map encRole) cl, encT concl] h (.ret (ansV (FollowsF S l [] concl))) h := by
  refine enter_ref35_Valid (by simp) ?_
  simp [code_ref35_Valid, res_ref35_Valid, ann_ref35_Valid, encT_eq concl]
  have hF := FollowsR_c S c l cl [] .nil concl (h := h) hS hl (by simp) (by intro p hp; simp at hp; subst hp; exact hk)
  refine callk2 hF (.cons (.refl _) (.cons (.refl _) (.cons (.nil 0 2) (by rw [encT_eq concl]; exact .refl _)))) rfl ?_
  simp [ansV]
  refine retE (by simp [deferred, dslot]) rfl (by simp [grown]) rfl
end Go.Apx
