/- Plain law: what the law about generated frames says. -/
import Derived.Test.YtbijnfhclfimeaaDoorK7
import Derived.Test.YtbijnfhclfimeaaDoorH2
namespace Go.Apx
open Go.Proofs
set_option linter.unusedVariables false
set_option linter.unusedSimpArgs false
set_option linter.unnecessarySimpa false
set_option linter.unusedSectionVars false

def mdl (P Q : U) : Model := [(sP, P), (sQ, Q)]
def errH (t : Tr) : Int := if checkF m0 t ≠ 0 then checkF m0 t else if (varsF m0 [t]).all (fun s => decide (s = sP) || decide (s = sQ)) = true then 0 else 5
theorem mdl_find (P Q : U) (s : ByteArray) : (sfind (mdl P Q) s).isSome = (decide (s = sP) || decide (s = sQ)) := by
  simp only [mdl, sfind]
  split
  · rename_i h; simp [h]
  · rename_i h
    split
    · rename_i h2; simp [h2]
    · rename_i h2; simp [h, h2]
theorem modelE_ok {n : Nat} (hn : n ≤ 6) : ∀ (l old : Model), ((old ++ l).map (·.1)).Nodup → (∀ p ∈ l, within n p.2) → modelE n l old = 0
  | [], old, _, _ => rfl
  | p :: r, old, hd, hw => by
    have h1 : (sfind old p.1).isSome = false := by
      rw [sfind_isSome, decide_eq_false_iff_not]
      intro hm
      rw [List.map_append, List.nodup_append] at hd
      exact hd.2.2 p.1 hm p.1 (by simp) rfl
    rw [modelE, if_neg (by simp [h1]), if_pos ((within_iff hn).2 (hw p (by simp)))]
    exact modelE_ok hn r (old ++ [p]) (by simpa using hd) fun q hq => hw q (by simp [hq])
theorem HoldsF_mdl {S : List U} (hr : rightF S = true) {P Q : U} (hP : within S.length P) (hQ : within S.length Q) (t : Tr) : HoldsF S rolesL (mdl P Q) t = (if errH t = 0 then holdsF S m0 (mdl P Q) t else 0#64, errH t) := by
  have hn := hn6 hr
  have hE : modelE S.length (mdl P Q) [] = 0 := modelE_ok hn _ [] (by simp [mdl]; decide) (by simp [mdl]; exact ⟨hP, hQ⟩)
  have hv : (varsF m0 [t]).all (fun s => (sfind (mdl P Q) s).isSome) = (varsF m0 [t]).all (fun s => decide (s = sP) || decide (s = sQ)) := by
    congr 1; funext s; exact mdl_find P Q s
  by_cases hc : checkF m0 t = 0
  · cases hb : (varsF m0 [t]).all (fun s => decide (s = sP) || decide (s = sQ)) with
    | true =>
      have he : errH t = 0 := by unfold errH; rw [if_neg (by simp [hc]), if_pos hb]
      simp only [HoldsF, started0 S hr, hE, hc, hv, hb, he]
      simp
    | false =>
      have he : errH t = 5 := by unfold errH; rw [if_neg (by simp [hc]), if_neg (by simp [hb])]
      simp only [HoldsF, started0 S hr, hE, hc, hv, hb, he]
      simp
  · have he : errH t = checkF m0 t := by unfold errH; rw [if_pos hc]
    simp only [HoldsF, started0 S hr, he]
    rw [if_pos hc, if_neg hc]

section
variable {S : List U} (hr : rightF S = true) {x : Nat} (hx : x < S.length)
include hr hx in
/-- A tree holds in a world exactly if it holds there in the generated frame. -/
theorem gen_holds {P Q : U} (hP : within S.length P) (hQ : within S.length Q) {t : Tr} (he : errH t = 0) {i w : Nat} (hi : (genW S x)[i]? = some w) :
    bit (holdsF (genS S x) m0 (mdl (cutF P (genW S x) 0 0#64) (cutF Q (genW S x) 0 0#64)) t) i = bit (holdsF S m0 (mdl P Q) t) w := by
  have hn := hn6 hr
  have h1 := right1_of hr
  have hf : formed m0 t = true := by
    unfold errH at he
    by_cases hc : checkF m0 t = 0
    · exact (checkF_zero hc).2
    · rw [if_pos hc] at he; exact absurd he hc
  rw [holdsF_G, holdsF_G]
  refine inside_holds (gen_inside h1 hn hx) h1 hn (gen_right1 hn) (by rw [genS_len]; exact genW_len hn) (fun s i w hi => ?_) t hf i w hi
  have hl := genW_len (S := S) (x := x) hn
  simp only [mdl, sfind]
  by_cases hs : s = sP
  · rw [if_pos hs, if_pos hs]; exact cutF_at hl hi
  · rw [if_neg hs, if_neg hs]
    by_cases hq : s = sQ
    · rw [if_pos hq, if_pos hq]; exact cutF_at hl hi
    · rw [if_neg hq, if_neg hq]; simp
include hr hx in
/-- What is valid is valid in the generated frame. -/
theorem gen_valid {t : Tr} (he : (FollowsF S rolesL [] t).2.2.2 = 0) : (FollowsF (genS S x) rolesL [] t).2.2.2 = 0 ∧ ((FollowsF S rolesL [] t).1 = true → (FollowsF (genS S x) rolesL [] t).1 = true) := by
  have hn := hn6 hr
  have h1 := right1_of hr
  have hg := gen_right (S := S) hn hx
  have hT := gen_right1 (S := S) (x := x) hn
  have hm : (genS S x).length ≤ 6 := by rw [genS_len]; exact genW_len hn
  have hle : (genS S x).length ≤ S.length := by rw [genS_len]; exact worldsL_len _ _
  obtain ⟨e1, e2⟩ := (F_err hr (by simp)).1 he
  have he' : (FollowsF (genS S x) rolesL [] t).2.2.2 = 0 := (F_err hg (by simp)).2 ⟨e1, Nat.le_trans (Nat.mul_le_mul_left _ hle) e2⟩
  have hf : formed m0 t = true := (checkF_zero ((errs_iff m0 _).1 e1 t (by simp))).2
  refine ⟨he', fun hv => (F_ok hg (by simp) he').2 fun g hgw _ => ?_⟩
  have hI := gen_inside h1 hn hx
  have hnd : (genW S x).Nodup := by rw [genW, worldsL]; exact List.Pairwise.filter _ List.nodup_range
  have hv' := (F_ok hr (by simp) he).1 hv (fun s => mkSet (fun w => match (genW S x).findIdx? (fun v => decide (v = w)) with | some i => bit (g s) i | none => false) S.length)
    (fun s => within_of fun i hi => ((mkSet_bit _ _ i (by omega)).1 hi).1) (by simp)
  refine (full_iff hm (g_within hm m0 g hgw t)).2 fun i hi => ?_
  have hiL : i < (genW S x).length := by rw [← genS_len]; exact hi
  have hLi : (genW S x)[i]? = some (genW S x)[i] := by simp [hiL]
  rw [inside_holds hI h1 hn hT hm (f := fun s => mkSet (fun w => match (genW S x).findIdx? (fun v => decide (v = w)) with | some i => bit (g s) i | none => false) S.length) (fun s i w hi => ?_) t hf i _ hLi]
  · rw [hv', bit_full hn]
    simpa using hI.lt i _ hLi
  · have hw := hI.lt i w hi
    have hfi : (genW S x).findIdx? (fun v => decide (v = w)) = some i := by
      rw [List.findIdx?_eq_some_iff_getElem]
      obtain ⟨h2, h3⟩ := List.getElem?_eq_some_iff.1 hi
      refine ⟨h2, by simp [h3], fun j hj => ?_⟩
      have hne : (genW S x)[j] ≠ (genW S x)[i] := by
        exact (List.pairwise_iff_getElem.1 hnd) j i (by omega) h2 hj
      rw [h3] at hne
      simp [hne]
    rw [Bool.eq_iff_iff, mkSet_bit _ _ w (by omega), hfi]
    exact ⟨fun h => ⟨hw, h⟩, fun h => h.2⟩
end

theorem modFrom_mem (n x : Nat) (hn : n ≤ 6) : ∀ (l : List ByteArray) (j : Nat), ∀ p ∈ modFrom n x l j, within n p.2
  | [], j, p, h => by simp [modFrom] at h
  | v :: l, j, p, h => by
    rw [modFrom] at h
    rcases List.mem_cons.1 h with rfl | h
    · exact within_and' (within_full n hn)
    · exact modFrom_mem n x hn l (j + 1) p h
/-- A countermodel refutes. -/
theorem counter {S : List U} (hr : rightF S = true) {t : Tr} (he : (FollowsF S rolesL [] t).2.2.2 = 0) (hv : (FollowsF S rolesL [] t).1 = false) :
    ∃ s, HoldsF S rolesL (FollowsF S rolesL [] t).2.1 t = (s, 0) ∧ ∃ w : Nat, (FollowsF S rolesL [] t).2.2.1 = w ∧ w < S.length ∧ (s >>> w) &&& 1#64 = 0#64 := by
  have hn := hn6 hr
  obtain ⟨e1, e2⟩ := (F_err hr (by simp)).1 he
  have hc : checkF m0 t = 0 := (errs_iff m0 _).1 e1 t (by simp)
  have hF := FollowsF_0 hr [] t (by simp) e1
  rw [hF] at hv ⊢
  unfold followsF at hv ⊢
  rw [if_neg (by omega)] at hv ⊢
  have e0 : ([] : List Tr) ++ [t] = [t] := rfl
  rw [e0] at hv e2 ⊢
  obtain ⟨vars, hvars⟩ : ∃ vars, vars = varsF m0 [t] := ⟨_, rfl⟩
  rw [← hvars] at hv e2 ⊢
  cases hfi : (List.range (2 ^ (S.length * vars.length))).find? (fun i => badF S m0 [] t (modF S.length i vars)) with
  | none => rw [hfi] at hv; cases hv
  | some i =>
    rw [hfi] at hv
    have hbad := (List.find?_range_eq_some.1 hfi).1
    simp only [badF, failsF, List.any_nil, Bool.not_false, Bool.true_and, Bool.not_eq_true', decide_eq_false_iff_not] at hbad
    have hw := holds_within S m0 (modF S.length i vars) hn (fun s v h => modFrom_within _ _ hn vars 0 s v h) t
    obtain ⟨l1, l2, l3, l4⟩ := least_spec S.length (holdsF S m0 (modF S.length i vars) t) hn ((within_iff hn).2 hw)
    have hlt : leastF (holdsF S m0 (modF S.length i vars) t) < S.length := by
      refine Classical.byContradiction fun hge => hbad ((full_iff hn hw).2 fun j hj => ?_)
      have := l3 j (by omega)
      simpa [bit] using this
    refine ⟨holdsF S m0 (modF S.length i vars) t, ?_, _, l4 hbad, hlt, ?_⟩
    · have hE : modelE S.length (modF S.length i vars) [] = 0 := modelE_ok hn _ [] (by
        rw [List.nil_append, modF, modFrom_keys, hvars]; exact varsF_nodup m0 _) (fun p hp => modFrom_mem _ _ hn vars 0 p hp)
      have hall : (varsF m0 [t]).all (fun s => (sfind (modF S.length i vars) s).isSome) = true := by
        rw [List.all_eq_true]
        intro s hs
        rw [modF, sfind_modFrom, hvars]
        simpa using hs
      simp only [HoldsF, started0 S hr, hE, hc, hall]
      rw [if_neg (by simp), if_neg (by simp)]
      simp
    · have h2 : bit (holdsF S m0 (modF S.length i vars) t) (leastF (holdsF S m0 (modF S.length i vars) t)) = false := by
        rw [bit, decide_eq_false_iff_not]; exact l2
      have e : ∀ (y : U) (u : Nat), bit y u = false → (y >>> u) &&& 1#64 = 0#64 := by
        intro y u h
        apply BitVec.eq_of_getLsbD_eq
        intro i hi
        rw [BitVec.getLsbD_and, BitVec.getLsbD_one]
        by_cases h0 : i = 0
        · subst h0; rw [bit_eq] at h; simp at h ⊢; exact h
        · simp [h0]
      exact e _ _ h2
end Go.Apx
