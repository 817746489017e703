/- Plain law: the six formulas are valid exactly in the frames with their properties. -/
import Derived.Test.YtbijnfhclfimeaaDoorK1
namespace Go.Apx
open Go.Proofs
set_option linter.unusedVariables false
set_option linter.unusedSimpArgs false
set_option linter.unnecessarySimpa false
set_option linter.unusedSectionVars false

def pT : Tr := leafT sP
def boxT (t : Tr) : Tr := nodeT sBox [t]
def diaT (t : Tr) : Tr := nodeT sDia [t]
def impT (a b : Tr) : Tr := nodeT sImp [a, b]
def schemaL : List Tr := [reflT, impT (boxT pT) (boxT (boxT pT)), impT pT (boxT (diaT pT)), impT (boxT pT) (diaT pT), impT (diaT pT) (boxT (diaT pT)), impT (boxT (impT (boxT pT) pT)) (boxT pT)]

section
variable {S : List U} (h1 : right1 S) (hn : S.length ≤ 6)
def R (S : List U) (w v : Nat) : Prop := seesF S w v = true
include h1 in
theorem R_lt {w v : Nat} (h : R S w v) : w < S.length ∧ v < S.length := by
  have hw : w < S.length := by
    refine Classical.byContradiction fun hc => ?_
    have : S.getD w 0#64 = 0#64 := by simp [List.getD, List.getElem?_eq_none (show S.length ≤ w by omega)]
    rw [R, seesF, this] at h
    simp at h
  obtain ⟨s, hs⟩ : ∃ s, S[w]? = some s := ⟨S[w], by simp [hw]⟩
  rw [R, seesF, getD_of hs] at h
  exact ⟨hw, bit_lt (h1 w s hs) h⟩
include h1 hn in
theorem valid1 {t : Tr} (hv : varsF m0 ([] ++ [t]) = [sP]) : (followsF S m0 [] t).1 = true ↔ ∀ f : Val, (∀ s, within S.length (f s)) → ∀ w, w < S.length → bit (holdsG S m0 f t) w = true := by
  rw [follows_iff hn (by rw [hv]; simp; omega)]
  constructor
  · intro h f hf
    exact (full_iff hn (g_within hn m0 f hf t)).1 (h f hf (by simp))
  · intro h f hf _
    exact (full_iff hn (g_within hn m0 f hf t)).2 (h f hf)
theorem p_eq (f : Val) : holdsG S m0 f pT = f sP := g_var S f sP [] .nil (by decide +kernel)
include hn in
theorem imp_at (f : Val) (a b : Tr) {w : Nat} (hw : w < S.length) : bit (holdsG S m0 f (impT a b)) w = true ↔ (bit (holdsG S m0 f a) w = true → bit (holdsG S m0 f b) w = true) := by
  rw [impT, nodeT, g_imp]; exact imp_bit hn _ _ hw
include h1 hn in
theorem box_at (f : Val) (a : Tr) {w : Nat} (hw : w < S.length) : bit (holdsG S m0 f (boxT a)) w = true ↔ ∀ v, R S w v → bit (holdsG S m0 f a) v = true := by
  rw [boxT, nodeT, g_box, box_bit h1 hn]
  exact ⟨fun h => h.2, fun h => ⟨hw, h⟩⟩
include hn in
theorem dia_at (f : Val) (a : Tr) {w : Nat} (hw : w < S.length) : bit (holdsG S m0 f (diaT a)) w = true ↔ ∃ v, R S w v ∧ bit (holdsG S m0 f a) v = true := by
  rw [diaT, nodeT, g_dia, dia_bit hn]
  exact ⟨fun h => h.2, fun h => ⟨hw, h⟩⟩
/-- A valuation by a property of worlds. -/
def valOf (S : List U) (P : Nat → Bool) : Val := fun _ => mkSet P S.length
include hn in
theorem valOf_within (P : Nat → Bool) (s : ByteArray) : within S.length (valOf S P s) := within_of fun i hi => ((mkSet_bit P _ i (by omega)).1 hi).1
include hn in
theorem valOf_at (P : Nat → Bool) {i : Nat} (hi : i < S.length) : bit (valOf S P sP) i = true ↔ P i = true := by
  rw [valOf, mkSet_bit P _ i (by omega)]; exact ⟨fun h => h.2, fun h => ⟨hi, h⟩⟩

theorem isF_iff (p : Int) : isF S p = true ↔ ∀ w, w < S.length → badW S p w = false ∧ ∀ v, v < S.length → badV S p w v = false := by
  constructor
  · intro h w hw
    constructor
    · cases hb : badW S p w with
      | false => rfl
      | true => rw [isF_false hw (.inl hb)] at h; cases h
    · intro v hv
      cases hb : badV S p w v with
      | false => rfl
      | true => rw [isF_false hw (.inr ⟨v, hv, hb⟩)] at h; cases h
  · exact isF_true

theorem is1 : isF S 1 = true ↔ ∀ w, w < S.length → R S w w := by
  rw [isF_iff]
  exact forall_congr' fun w => forall_congr' fun hw => by simp [badW, badV, R]
include h1 in
theorem is2 : isF S 2 = true ↔ ∀ w v u, R S w v → R S v u → R S w u := by
  rw [isF_iff]
  constructor
  · intro h w v u hwv hvu
    have l1 := R_lt h1 hwv
    have l2 := R_lt h1 hvu
    have := (h w l1.1).2 v l1.2
    have hs : seesF S w v = true := hwv
    simp only [badV, hs] at this
    have h2 : S.getD v 0#64 &&& ~~~ S.getD w 0#64 = 0#64 := by simpa using this
    exact (andNot_iff h1 l1.2).1 h2 u l2.2 hvu
  · intro h w hw
    refine ⟨by simp [badW], fun v hv => badV_none h1 hw hv (by simp) fun u hu => ?_⟩
    cases a : seesF S w v <;> cases b : seesF S v u <;> simp [tri, a, b]
    exact h w v u a b
theorem is3 : isF S 3 = true ↔ ∀ w v, w < S.length → v < S.length → R S w v → R S v w := by
  rw [isF_iff]
  constructor
  · intro h w v hw hv hwv
    have := (h w hw).2 v hv
    have hs : seesF S w v = true := hwv
    simpa [badV, hs, R] using this
  · intro h w hw
    refine ⟨by simp [badW], fun v hv => ?_⟩
    cases a : seesF S w v with
    | false => simp [badV, a]
    | true => have : seesF S v w = true := h w v hw hv a; simp [badV, this]
include h1 in
theorem is4 : isF S 4 = true ↔ ∀ w, w < S.length → ∃ v, R S w v := by
  rw [isF_iff]
  refine forall_congr' fun w => forall_congr' fun hw => ?_
  have hb : ∀ v, badV S 4 w v = false := fun v => by simp [badV]
  have hbw : badW S 4 w = decide (S.getD w 0#64 = 0#64) := by simp only [badW]; rfl
  rw [hbw]
  simp only [hb, implies_true, and_true, decide_eq_false_iff_not]
  constructor
  · intro h
    refine Classical.byContradiction fun hc => h (bits_ext fun i => ?_)
    simp only [bit_zero, Bool.false_eq_true, iff_false]
    exact fun hi => hc ⟨i, hi⟩
  · rintro ⟨v, hv⟩ h
    rw [R, seesF, h] at hv; simp at hv
include h1 in
theorem is5 : isF S 5 = true ↔ ∀ w v u, R S w v → R S w u → R S v u := by
  rw [isF_iff]
  constructor
  · intro h w v u hwv hwu
    have l1 := R_lt h1 hwv
    have l2 := R_lt h1 hwu
    have := (h w l1.1).2 v l1.2
    have hs : seesF S w v = true := hwv
    simp only [badV, hs] at this
    have h2 : S.getD w 0#64 &&& ~~~ S.getD v 0#64 = 0#64 := by simpa using this
    exact (andNot_iff h1 l1.1).1 h2 u l2.2 hwu
  · intro h w hw
    refine ⟨by simp [badW], fun v hv => badV_none h1 hw hv (by simp) fun u hu => ?_⟩
    cases a : seesF S w v <;> cases b : seesF S w u <;> simp [tri, a, b]
    exact h w v u a b
theorem is6 : isF S 6 = true ↔ ∀ w, w < S.length → bit (reachF S (1#64 <<< w)) w = false := by
  rw [isF_iff]
  refine forall_congr' fun w => forall_congr' fun hw => ?_
  have hb : ∀ v, badV S 6 w v = false := fun v => by simp [badV]
  have hbw : badW S 6 w = bit (reachF S (1#64 <<< w)) w := by simp only [badW]; rfl
  rw [hbw]
  simp only [hb, implies_true, and_true]
include h1 hn in
/-- In a transitive frame nothing is reached but what is seen. -/
theorem is62 (h2 : ∀ w v u, R S w v → R S v u → R S w u) : (∀ w, w < S.length → bit (reachF S (1#64 <<< w)) w = false) ↔ ∀ w, ¬ R S w w := by
  constructor
  · intro h w hw
    have l := R_lt h1 hw
    obtain ⟨s, hs⟩ : ∃ s, S[w]? = some s := ⟨S[w], by simp [l.1]⟩
    have hw' := hw
    rw [R, seesF, getD_of hs] at hw'
    have := reachF_closed (1#64 <<< w) h1 hn hs (.inl (by rw [bit_one (by omega)]; simp)) hw'
    rw [h w l.1] at this; cases this
  · intro h w hw
    cases hb : bit (reachF S (1#64 <<< w)) w with
    | false => rfl
    | true =>
      have := reachF_least (S := S) (1#64 <<< w) (S.getD w 0#64) (fun j s hs hj i hi => ?_) hb
      · exact absurd this (h w)
      · have hji : R S j i := by rw [R, seesF, getD_of hs]; exact hi
        rcases hj with hj | hj
        · rw [bit_one (by omega)] at hj
          simp at hj; subst hj
          exact hji
        · exact h2 w j i hj hji

/-! ## the six -/
include h1 hn in
theorem corr1 : (followsF S m0 [] reflT).1 = true ↔ isF S 1 = true := by
  rw [valid1 h1 hn (by decide +kernel), is1]
  have e : reflT = impT (boxT pT) pT := rfl
  rw [e]
  constructor
  · intro h w hw
    have := h (valOf S fun i => seesF S w i) (valOf_within hn _) w hw
    rw [imp_at hn _ _ _ hw, box_at h1 hn _ _ hw, p_eq, valOf_at hn _ hw] at this
    exact this fun v hv => (valOf_at hn _ (R_lt h1 hv).2).2 hv
  · intro h f hf w hw
    rw [imp_at hn _ _ _ hw, box_at h1 hn _ _ hw]
    exact fun hb => hb w (h w hw)
include h1 hn in
theorem corr2 : (followsF S m0 [] (impT (boxT pT) (boxT (boxT pT)))).1 = true ↔ isF S 2 = true := by
  rw [valid1 h1 hn (by decide +kernel), is2 h1]
  constructor
  · intro h w v u hwv hvu
    have l1 := R_lt h1 hwv
    have l2 := R_lt h1 hvu
    have := h (valOf S fun i => seesF S w i) (valOf_within hn _) w l1.1
    rw [imp_at hn _ _ _ l1.1, box_at h1 hn _ _ l1.1, box_at h1 hn _ _ l1.1, p_eq] at this
    have := this (fun v hv => (valOf_at hn _ (R_lt h1 hv).2).2 hv) v hwv
    rw [box_at h1 hn _ _ l1.2] at this
    exact (valOf_at hn _ l2.2).1 (this u hvu)
  · intro h f hf w hw
    rw [imp_at hn _ _ _ hw, box_at h1 hn _ _ hw, box_at h1 hn _ _ hw]
    intro hb v hv
    rw [box_at h1 hn _ _ (R_lt h1 hv).2]
    exact fun u hu => hb u (h w v u hv hu)
include h1 hn in
theorem corr3 : (followsF S m0 [] (impT pT (boxT (diaT pT)))).1 = true ↔ isF S 3 = true := by
  rw [valid1 h1 hn (by decide +kernel), is3]
  constructor
  · intro h w v hw hv hwv
    have := h (valOf S fun i => decide (i = w)) (valOf_within hn _) w hw
    rw [imp_at hn _ _ _ hw, box_at h1 hn _ _ hw, p_eq] at this
    have := this ((valOf_at hn _ hw).2 (by simp)) v hwv
    rw [dia_at hn _ _ hv, p_eq] at this
    obtain ⟨u, hu, hp⟩ := this
    have := (valOf_at hn _ (R_lt h1 hu).2).1 hp
    simp at this; subst this
    exact hu
  · intro h f hf w hw
    rw [imp_at hn _ _ _ hw, box_at h1 hn _ _ hw]
    intro hp v hv
    rw [dia_at hn _ _ (R_lt h1 hv).2]
    exact ⟨w, h w v hw (R_lt h1 hv).2 hv, hp⟩
include h1 hn in
theorem corr4 : (followsF S m0 [] (impT (boxT pT) (diaT pT))).1 = true ↔ isF S 4 = true := by
  rw [valid1 h1 hn (by decide +kernel), is4 h1]
  constructor
  · intro h w hw
    have := h (valOf S fun i => true) (valOf_within hn _) w hw
    rw [imp_at hn _ _ _ hw, box_at h1 hn _ _ hw, dia_at hn _ _ hw, p_eq] at this
    obtain ⟨v, hv, _⟩ := this fun v hv => (valOf_at hn _ (R_lt h1 hv).2).2 rfl
    exact ⟨v, hv⟩
  · intro h f hf w hw
    rw [imp_at hn _ _ _ hw, box_at h1 hn _ _ hw, dia_at hn _ _ hw]
    obtain ⟨v, hv⟩ := h w hw
    exact fun hb => ⟨v, hv, hb v hv⟩
include h1 hn in
theorem corr5 : (followsF S m0 [] (impT (diaT pT) (boxT (diaT pT)))).1 = true ↔ isF S 5 = true := by
  rw [valid1 h1 hn (by decide +kernel), is5 h1]
  constructor
  · intro h w v u hwv hwu
    have l1 := R_lt h1 hwv
    have l2 := R_lt h1 hwu
    have := h (valOf S fun i => decide (i = u)) (valOf_within hn _) w l1.1
    rw [imp_at hn _ _ _ l1.1, box_at h1 hn _ _ l1.1, dia_at hn _ _ l1.1, p_eq] at this
    have := this ⟨u, hwu, (valOf_at hn _ l2.2).2 (by simp)⟩ v hwv
    rw [dia_at hn _ _ l1.2, p_eq] at this
    obtain ⟨x, hx, hp⟩ := this
    have := (valOf_at hn _ (R_lt h1 hx).2).1 hp
    simp at this; subst this
    exact hx
  · intro h f hf w hw
    rw [imp_at hn _ _ _ hw, box_at h1 hn _ _ hw, dia_at hn _ _ hw]
    rintro ⟨u, hu, hp⟩ v hv
    rw [dia_at hn _ _ (R_lt h1 hv).2]
    exact ⟨u, h w v u hv hu, hp⟩
include h1 hn in
theorem loeb_iff (f : Val) {w : Nat} (hw : w < S.length) : bit (holdsG S m0 f (impT (boxT (impT (boxT pT) pT)) (boxT pT))) w = true ↔
    ((∀ v, R S w v → (∀ u, R S v u → bit (f sP) u = true) → bit (f sP) v = true) → ∀ v, R S w v → bit (f sP) v = true) := by
  rw [imp_at hn _ _ _ hw, box_at h1 hn _ _ hw, box_at h1 hn _ _ hw, p_eq]
  have : (∀ v, R S w v → bit (holdsG S m0 f (impT (boxT pT) pT)) v = true) ↔ ∀ v, R S w v → (∀ u, R S v u → bit (f sP) u = true) → bit (f sP) v = true := by
    refine forall_congr' fun v => forall_congr' fun hv => ?_
    rw [imp_at hn _ _ _ (R_lt h1 hv).2, box_at h1 hn _ _ (R_lt h1 hv).2, p_eq]
  rw [this]
include h1 hn in
theorem corr6 : (followsF S m0 [] (impT (boxT (impT (boxT pT) pT)) (boxT pT))).1 = true ↔ isF S 6 = true ∧ isF S 2 = true := by
  rw [valid1 h1 hn (by decide +kernel), is6, is2 h1]
  constructor
  · intro h
    have h2 : ∀ w v u, R S w v → R S v u → R S w u := by
      intro w v u hwv hvu
      refine Classical.byContradiction fun hc => ?_
      have l1 := R_lt h1 hwv
      have := (loeb_iff h1 hn _ l1.1).1 (h (valOf S fun i => !decide (i = v) && !decide (i = u)) (valOf_within hn _) w l1.1) (fun x hx hb => ?_) v hwv
      · have := (valOf_at hn _ l1.2).1 this
        simp at this
      · have lx := R_lt h1 hx
        refine (valOf_at hn _ lx.2).2 ?_
        by_cases hxv : x = v
        · subst hxv
          have := (valOf_at hn _ (R_lt h1 hvu).2).1 (hb u hvu)
          simp at this
        · have : x ≠ u := fun e => hc (e ▸ hx)
          simp [hxv, this]
    refine ⟨(is62 h1 hn h2).2 fun w hw => ?_, h2⟩
    have l := R_lt h1 hw
    have := (loeb_iff h1 hn _ l.1).1 (h (valOf S fun i => !decide (i = w)) (valOf_within hn _) w l.1) (fun x hx hb => ?_) w hw
    · have := (valOf_at hn _ l.1).1 this
      simp at this
    · have lx := R_lt h1 hx
      refine (valOf_at hn _ lx.2).2 ?_
      by_cases hxw : x = w
      · subst hxw
        have := (valOf_at hn _ l.1).1 (hb x hw)
        simp at this
      · simp [hxw]
  · rintro ⟨h6, h2⟩ f hf w hw
    have h6 := (is62 h1 hn h2).1 h6
    rw [loeb_iff h1 hn f hw]
    intro hl
    have key : ∀ k v, cntB (S.getD v 0#64) S.length < k → R S w v → bit (f sP) v = true := by
      intro k
      induction k with
      | zero => intro v h; omega
      | succ k ih =>
        intro v hk hv
        refine hl v hv fun u hu => ih u ?_ (h2 w v u hv hu)
        have : cntB (S.getD u 0#64) S.length < cntB (S.getD v 0#64) S.length := by
          refine cntB_lt (fun i hi => h2 v u i hu hi) (i := u) ?_ hu S.length (R_lt h1 hu).2
          cases hb : bit (S.getD u 0#64) u with
          | false => rfl
          | true => exact absurd hb (h6 u)
        omega
    exact fun v hv => key _ v (Nat.lt_succ_self _) hv
end
end Go.Apx
