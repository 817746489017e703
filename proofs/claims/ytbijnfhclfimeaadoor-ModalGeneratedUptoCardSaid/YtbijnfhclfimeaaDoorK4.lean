/- Plain law: rules that keep validity. -/
import Derived.Test.YtbijnfhclfimeaaDoorK3
namespace Go.Apx
open Go.Proofs
set_option linter.unusedVariables false
set_option linter.unusedSimpArgs false
set_option linter.unnecessarySimpa false
set_option linter.unusedSectionVars false

/-! ## variables -/
mutual
theorem visitT_inv (m : Means) (s : ByteArray) : ∀ (t : Tr) (out : List ByteArray), s ∈ visitT m t out → s ∈ out ∨ occ m t s
  | .node l ks _, out, h => by
    rw [visitT] at h
    rw [occ]
    rcases visitL_inv m s ks _ h with h | h
    · split at h
      · rename_i h0
        rcases List.mem_append.1 h with h | h
        · exact .inl h
        · exact .inr (.inl ⟨h0.1, by simpa using h⟩)
      · exact .inl h
    · exact .inr (.inr h)
theorem visitL_inv (m : Means) (s : ByteArray) : ∀ (l : List Tr) (out : List ByteArray), s ∈ visitL m l out → s ∈ out ∨ occL m l s
  | [], out, h => .inl h
  | t :: r, out, h => by
    rw [visitL] at h
    rw [occL]
    rcases visitL_inv m s r _ h with h | h
    · rcases visitT_inv m s t out h with h | h
      · exact .inl h
      · exact .inr (.inl h)
    · exact .inr (.inr h)
end
theorem varsF_iff (m : Means) (l : List Tr) (s : ByteArray) : s ∈ varsF m l ↔ occL m l s := by
  constructor
  · intro h
    rcases visitL_inv m s l [] h with h | h
    · simp at h
    · exact h
  · exact visitL_occ m s l []
theorem nodup_len {α : Type} [DecidableEq α] : ∀ (l l' : List α), l.Nodup → (∀ x ∈ l, x ∈ l') → l.length ≤ l'.length
  | [], l', _, _ => Nat.zero_le _
  | x :: l, l', hd, hs => by
    rw [List.nodup_cons] at hd
    have hx := hs x (by simp)
    have ih := nodup_len l (l'.erase x) hd.2 fun y hy => by
      have hne : y ≠ x := fun e => hd.1 (e ▸ hy)
      exact (List.mem_erase_of_ne hne).2 (hs y (by simp [hy]))
    have := List.length_erase_of_mem hx
    have h2 : 0 < l'.length := List.length_pos_of_mem hx
    rw [List.length_cons]; omega
theorem vars_le {m : Means} {l l' : List Tr} (h : ∀ s, occL m l s → occL m l' s) : (varsF m l).length ≤ (varsF m l').length :=
  nodup_len _ _ (varsF_nodup m l) fun s hs => (varsF_iff m l' s).2 (h s ((varsF_iff m l s).1 hs))

/-! ## errors and answers -/
theorem F_err {S : List U} (h : rightF S = true) {prem : List Tr} {t : Tr} (hp : prem.length ≤ 40) : (FollowsF S rolesL prem t).2.2.2 = 0 ↔ errsF m0 (prem ++ [t]) = 0 ∧ (varsF m0 (prem ++ [t])).length * S.length ≤ 12 := by
  by_cases he : errsF m0 (prem ++ [t]) = 0
  · rw [FollowsF_0 h prem t hp he, follows_err]
    constructor
    · intro h; split at h
      · cases h
      · exact ⟨he, by omega⟩
    · rintro ⟨_, h⟩; rw [if_neg (by omega)]
  · simp only [FollowsF, started0 S h]
    rw [if_neg (by omega), if_pos he]
    exact ⟨fun h => absurd h he, fun h => absurd h.1 he⟩
theorem errs_iff (m : Means) : ∀ l, errsF m l = 0 ↔ ∀ t ∈ l, checkF m t = 0
  | [] => by simp [errsF]
  | t :: r => by
    rw [errsF]
    by_cases h : checkF m t = 0
    · rw [if_pos h, errs_iff m r]; simp [h]
    · rw [if_neg h]; simp [h]
theorem check_iff (m : Means) (t : Tr) : checkF m t = 0 ↔ t.nodes ≤ 4000 ∧ t.depth ≤ 100 ∧ formed m t = true := by
  unfold checkF
  split
  · rename_i h; constructor
    · intro h; cases h
    · rintro ⟨h1, _⟩; omega
  split
  · rename_i h1 h; constructor
    · intro h; cases h
    · rintro ⟨_, h1, _⟩; omega
  split
  · rename_i h1 h2 h3; exact ⟨fun _ => ⟨by omega, by omega, h3⟩, fun _ => rfl⟩
  · rename_i h1 h2 h3; constructor
    · intro h; cases h
    · rintro ⟨_, _, h⟩; exact absurd h h3
/-- What 'follows' means. -/
def Fol (S : List U) (prem : List Tr) (t : Tr) : Prop := ∀ f : Val, (∀ s, within S.length (f s)) → (∀ p ∈ prem, holdsG S m0 f p = full S.length) → holdsG S m0 f t = full S.length
theorem F_ok {S : List U} (h : rightF S = true) {prem : List Tr} {t : Tr} (hp : prem.length ≤ 40) (he : (FollowsF S rolesL prem t).2.2.2 = 0) : (FollowsF S rolesL prem t).1 = true ↔ Fol S prem t := by
  have hn : S.length ≤ 6 := by simp [rightF] at h; exact h.1.2
  obtain ⟨h1, h2⟩ := (F_err h hp).1 he
  rw [FollowsF_0 h prem t hp h1]
  exact follows_iff hn h2

section
variable {S : List U} (hr : rightF S = true)
include hr in
theorem hn6 : S.length ≤ 6 := by simp [rightF] at hr; exact hr.1.2
include hr in
theorem box_full (f : Val) (hf : ∀ s, within S.length (f s)) {a : Tr} (h : holdsG S m0 f a = full S.length) : holdsG S m0 f (boxT a) = full S.length := by
  have hn := hn6 hr
  refine (full_iff hn (g_within hn m0 f hf _)).2 fun w hw => ?_
  rw [box_at (right1_of hr) hn f a hw]
  intro v hv
  rw [h, bit_full hn]
  simpa using (R_lt (right1_of hr) hv).2
include hr in
theorem imp_full (f : Val) (hf : ∀ s, within S.length (f s)) {a b : Tr} (h : holdsG S m0 f a = full S.length) (hi : holdsG S m0 f (impT a b) = full S.length) : holdsG S m0 f b = full S.length := by
  have hn := hn6 hr
  refine (full_iff hn (g_within hn m0 f hf _)).2 fun w hw => ?_
  have h1 := (full_iff hn (g_within hn m0 f hf _)).1 hi w hw
  rw [imp_at hn f a b hw] at h1
  exact h1 ((full_iff hn (g_within hn m0 f hf _)).1 h w hw)
def sQ : ByteArray := ⟨#[113]⟩
def qT : Tr := leafT sQ
def kT : Tr := impT (boxT (impT pT qT)) (impT (boxT pT) (boxT qT))
include hr in
theorem law1 : (FollowsF S rolesL [] kT).2.2.2 = 0 ∧ (FollowsF S rolesL [] kT).1 = true ∨ 12 < 2 * S.length := by
  by_cases hb : 12 < 2 * S.length
  · exact .inr hb
  · have hn := hn6 hr
    have hv : varsF m0 ([] ++ [kT]) = [sP, sQ] := by decide +kernel
    have he : (FollowsF S rolesL [] kT).2.2.2 = 0 := (F_err hr (by simp)).2 ⟨by decide +kernel, by rw [hv]; simp; omega⟩
    refine .inl ⟨he, (F_ok hr (by simp) he).2 fun f hf _ => ?_⟩
    have h1 := right1_of hr
    refine (full_iff hn (g_within hn m0 f hf _)).2 fun w hw => ?_
    rw [kT, imp_at hn _ _ _ hw, imp_at hn _ _ _ hw, box_at h1 hn _ _ hw, box_at h1 hn _ _ hw, box_at h1 hn _ _ hw]
    intro ha hb v hv
    have := ha v hv
    rw [imp_at hn _ _ _ (R_lt h1 hv).2] at this
    exact this (hb v hv)
theorem occ_box (a : Tr) (s : ByteArray) : occ m0 (boxT a) s ↔ occ m0 a s := by
  have h : sget m0 sBox ≠ 0 := by decide +kernel
  simp only [boxT, nodeT, occ, occL]
  constructor
  · rintro (⟨h0, _⟩ | h1 | h1)
    · exact absurd h0 h
    · exact h1
    · exact h1.elim
  · exact fun h1 => .inr (.inl h1)
theorem occ_imp (a b : Tr) (s : ByteArray) : occ m0 (impT a b) s ↔ occ m0 a s ∨ occ m0 b s := by
  have h : sget m0 sImp ≠ 0 := by decide +kernel
  simp only [impT, nodeT, occ, occL]
  constructor
  · rintro (⟨h0, _⟩ | h1 | h1 | h1)
    · exact absurd h0 h
    · exact .inl h1
    · exact .inr h1
    · exact h1.elim
  · rintro (h1 | h1)
    · exact .inr (.inl h1)
    · exact .inr (.inr (.inl h1))
theorem check_box {a : Tr} (h : checkF m0 a = 0) (hs : a.nodes ≤ 20) : checkF m0 (boxT a) = 0 := by
  rw [check_iff] at h ⊢
  have hk : kidsN (sget m0 sBox) = 1 := by decide +kernel
  have hd := Tr.depth_le a
  refine ⟨?_, ?_, ?_⟩
  · simp [boxT, nodeT, Tr.nodes, Tr.nodesL]; omega
  · simp [boxT, nodeT, Tr.depth, Tr.depthL]; omega
  · simp [boxT, nodeT, formed, formedL, hk, h.2.2]
theorem check_imp {a b : Tr} (h : checkF m0 (impT a b) = 0) : checkF m0 a = 0 ∧ checkF m0 b = 0 := by
  rw [check_iff] at h ⊢
  rw [check_iff]
  obtain ⟨h1, h2, h3⟩ := h
  simp only [impT, nodeT, Tr.nodes, Tr.nodesL] at h1
  simp only [impT, nodeT, Tr.depth, Tr.depthL] at h2
  simp only [impT, nodeT, formed, formedL, Bool.and_eq_true] at h3
  exact ⟨⟨by omega, by omega, h3.2.1⟩, ⟨by omega, by omega, h3.2.2.1⟩⟩
theorem mul_le {x y n : Nat} (h : x ≤ y) (hy : y * n ≤ 12) : x * n ≤ 12 := Nat.le_trans (Nat.mul_le_mul_right n h) hy
include hr in
theorem law4 {a : Tr} (hs : a.nodes ≤ 20) (he : (FollowsF S rolesL [] a).2.2.2 = 0) : (FollowsF S rolesL [a] (boxT a)).2.2.2 = 0 ∧ (FollowsF S rolesL [a] (boxT a)).1 = true := by
  obtain ⟨h1, h2⟩ := (F_err hr (by simp)).1 he
  have hc : checkF m0 a = 0 := (errs_iff m0 _).1 h1 a (by simp)
  have he4 : (FollowsF S rolesL [a] (boxT a)).2.2.2 = 0 := (F_err hr (by simp)).2 ⟨(errs_iff m0 _).2 (by simp [hc, check_box hc hs]), by
    refine mul_le (vars_le fun s => ?_) h2
    simp only [List.nil_append, List.cons_append, occL, occ_box]
    rintro (h | h | h)
    · exact .inl h
    · exact .inl h
    · exact h.elim⟩
  exact ⟨he4, (F_ok hr (by simp) he4).2 fun f hf hp => box_full hr f hf (hp a (by simp))⟩
include hr in
theorem law3 {a : Tr} (hs : a.nodes ≤ 20) (he : (FollowsF S rolesL [] a).2.2.2 = 0) (hv : (FollowsF S rolesL [] a).1 = true) : (FollowsF S rolesL [] (boxT a)).2.2.2 = 0 ∧ (FollowsF S rolesL [] (boxT a)).1 = true := by
  obtain ⟨h1, h2⟩ := (F_err hr (by simp)).1 he
  have hc : checkF m0 a = 0 := (errs_iff m0 _).1 h1 a (by simp)
  have he4 : (FollowsF S rolesL [] (boxT a)).2.2.2 = 0 := (F_err hr (by simp)).2 ⟨(errs_iff m0 _).2 (by simp [check_box hc hs]), by
    refine mul_le (vars_le fun s => ?_) h2
    simp only [List.nil_append, occL, occ_box]
    exact id⟩
  exact ⟨he4, (F_ok hr (by simp) he4).2 fun f hf hp => box_full hr f hf ((F_ok hr (by simp) he).1 hv f hf (by simp))⟩
include hr in
theorem law7 {a b : Tr} (he : (FollowsF S rolesL [] a).2.2.2 = 0) (hi : (FollowsF S rolesL [] (impT a b)).2.2.2 = 0) :
    (FollowsF S rolesL [] b).2.2.2 = 0 ∧ ((FollowsF S rolesL [] a).1 = true → (FollowsF S rolesL [] (impT a b)).1 = true → (FollowsF S rolesL [] b).1 = true) := by
  obtain ⟨h1, h2⟩ := (F_err hr (by simp)).1 hi
  obtain ⟨hca, hcb⟩ := check_imp ((errs_iff m0 _).1 h1 (impT a b) (by simp))
  have heb : (FollowsF S rolesL [] b).2.2.2 = 0 := (F_err hr (by simp)).2 ⟨(errs_iff m0 _).2 (by simp [hcb]), by
    refine mul_le (vars_le fun s => ?_) h2
    simp only [List.nil_append, occL, occ_imp]
    rintro (h | h)
    · exact .inl (.inr h)
    · exact h.elim⟩
  exact ⟨heb, fun hva hvi => (F_ok hr (by simp) heb).2 fun f hf _ => imp_full hr f hf ((F_ok hr (by simp) he).1 hva f hf (by simp)) ((F_ok hr (by simp) hi).1 hvi f hf (by simp))⟩
include hr in
theorem law8 {a b : Tr} (hi : (FollowsF S rolesL [] (impT a b)).2.2.2 = 0) : (FollowsF S rolesL [a, impT a b] b).2.2.2 = 0 ∧ (FollowsF S rolesL [a, impT a b] b).1 = true := by
  obtain ⟨h1, h2⟩ := (F_err hr (by simp)).1 hi
  have hci := (errs_iff m0 _).1 h1 (impT a b) (by simp)
  obtain ⟨hca, hcb⟩ := check_imp hci
  have he8 : (FollowsF S rolesL [a, impT a b] b).2.2.2 = 0 := (F_err hr (by simp)).2 ⟨(errs_iff m0 _).2 (by simp [hca, hcb, hci]), by
    refine mul_le (vars_le fun s => ?_) h2
    simp only [List.nil_append, List.cons_append, occL, occ_imp]
    rintro (h | (h | h) | h | h)
    · exact .inl (.inl h)
    · exact .inl (.inl h)
    · exact .inl (.inr h)
    · exact .inl (.inr h)
    · exact h.elim⟩
  exact ⟨he8, (F_ok hr (by simp) he8).2 fun f hf hp => imp_full hr f hf (hp a (by simp)) (hp _ (by simp))⟩

/-! ## a tree in place of a variable -/
mutual
def swapF (b : Tr) : Tr → Tr
  | .node l ks c => if l = sP ∧ ks = [] then b else .node l (swapL b ks) (if ks.isEmpty then .nil else .any)
def swapL (b : Tr) : List Tr → List Tr
  | [] => []
  | t :: r => swapF b t :: swapL b r
end
mutual
theorem swap_holds (f : Val) (b : Tr) : ∀ t, formed m0 t = true → holdsG S m0 f (swapF b t) = holdsG S m0 (fun s => if s = sP then holdsG S m0 f b else f s) t
  | .node l ks c, h => by
    rw [formed, Bool.and_eq_true, decide_eq_true_eq] at h
    rw [swapF]
    by_cases hl : l = sP
    · have h0 : sget m0 l = 0 := by rw [hl]; decide +kernel
      have hk : ks = [] := by
        have := h.1; rw [h0] at this; simp [kidsN] at this; exact this
      rw [if_pos ⟨hl, hk⟩, holdsG, if_pos h0, if_pos hl]
    · rw [if_neg (fun hc => hl hc.1), holdsG, holdsG]
      by_cases h0 : sget m0 l = 0
      · rw [if_pos h0, if_pos h0, if_neg hl]
      · rw [if_neg h0, if_neg h0, swapL_holds f b ks h.2]
theorem swapL_holds (f : Val) (b : Tr) : ∀ l, formedL m0 l = true → holdsGL S m0 f (swapL b l) = holdsGL S m0 (fun s => if s = sP then holdsG S m0 f b else f s) l
  | [], h => rfl
  | t :: r, h => by
    rw [formedL, Bool.and_eq_true] at h
    rw [swapL, holdsGL, holdsGL, swap_holds f b t h.1, swapL_holds f b r h.2]
end
include hr in
theorem law5 {a b : Tr} (he : (FollowsF S rolesL [] a).2.2.2 = 0) (hv : (FollowsF S rolesL [] a).1 = true) (h5 : (FollowsF S rolesL [] (swapF b a)).2.2.2 = 0) : (FollowsF S rolesL [] (swapF b a)).1 = true := by
  obtain ⟨h1, h2⟩ := (F_err hr (by simp)).1 he
  have hc : checkF m0 a = 0 := (errs_iff m0 _).1 h1 a (by simp)
  have hf := ((check_iff m0 a).1 hc).2.2
  refine (F_ok hr (by simp) h5).2 fun f hw _ => ?_
  rw [swap_holds f b a hf]
  refine (F_ok hr (by simp) he).1 hv _ (fun s => ?_) (by simp)
  show within _ (if s = sP then _ else _)
  split
  · exact g_within (hn6 hr) m0 f hw b
  · exact hw s
end
mutual
theorem swap_nodes (b : Tr) : ∀ t, (swapF b t).nodes ≤ t.nodes * b.nodes
  | .node l ks c => by
    have hb := Tr.nodes_pos b
    have ih := swapL_nodes b ks
    rw [swapF]
    split
    · rw [Tr.nodes, Nat.add_mul]; omega
    · rw [Tr.nodes, Tr.nodes, Nat.add_mul]; omega
theorem swapL_nodes (b : Tr) : ∀ l, Tr.nodesL (swapL b l) ≤ Tr.nodesL l * b.nodes
  | [] => by simp [swapL, Tr.nodesL]
  | t :: r => by
    have h1 := swap_nodes b t
    have h2 := swapL_nodes b r
    rw [swapL, Tr.nodesL, Tr.nodesL, Nat.add_mul]; omega
end
mutual
theorem swap_ok (b : Tr) (hb : b.ok = true) : ∀ t, t.ok = true → (swapF b t).ok = true
  | .node l ks c, h => by
    rw [Tr.ok, Bool.and_eq_true] at h
    rw [swapF]
    split
    · exact hb
    · rw [Tr.ok, Bool.and_eq_true]
      exact ⟨by split <;> rfl, swapL_ok b hb ks h.2⟩
theorem swapL_ok (b : Tr) (hb : b.ok = true) : ∀ l, Tr.okL l = true → Tr.okL (swapL b l) = true
  | [], h => rfl
  | t :: r, h => by
    rw [Tr.okL, Bool.and_eq_true] at h
    rw [swapL, Tr.okL, Bool.and_eq_true]
    exact ⟨swap_ok b hb t h.1, swapL_ok b hb r h.2⟩
end
theorem swapL_map (b : Tr) : ∀ l, swapL b l = l.map (swapF b)
  | [] => rfl
  | t :: r => by rw [swapL, swapL_map b r]; rfl
end Go.Apx
