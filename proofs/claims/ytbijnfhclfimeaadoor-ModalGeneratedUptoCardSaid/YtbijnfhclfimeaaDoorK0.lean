/- Plain law: what it means that a conclusion follows. -/
import Derived.Test.YtbijnfhclfimeaaDoorF0
namespace Go.Apx
open Go.Proofs
set_option linter.unusedVariables false
set_option linter.unusedSimpArgs false
set_option linter.unnecessarySimpa false

/-! ## valuations -/
abbrev Val := ByteArray → U
mutual
def holdsG (S : List U) (m : Means) (f : Val) : Tr → U
  | .node l ks _ => if sget m l = 0 then f l else meanF S (sget m l) (holdsGL S m f ks)
def holdsGL (S : List U) (m : Means) (f : Val) : List Tr → List U
  | [] => []
  | t :: r => holdsG S m f t :: holdsGL S m f r
end
mutual
theorem holdsF_G (S : List U) (m : Means) (V : Model) : ∀ t, holdsF S m V t = holdsG S m (fun s => (sfind V s).getD 0#64) t
  | .node l ks _ => by simp only [holdsF, holdsG, holdsL_G S m V ks]
theorem holdsL_G (S : List U) (m : Means) (V : Model) : ∀ l, holdsL S m V l = holdsGL S m (fun s => (sfind V s).getD 0#64) l
  | [] => rfl
  | t :: r => by simp only [holdsL, holdsGL, holdsF_G S m V t, holdsL_G S m V r]
end
mutual
/-- A variable occurs in a tree. -/
def occ (m : Means) : Tr → ByteArray → Prop
  | .node l ks _, s => (sget m l = 0 ∧ s = l) ∨ occL m ks s
def occL (m : Means) : List Tr → ByteArray → Prop
  | [], _ => False
  | t :: r, s => occ m t s ∨ occL m r s
end
mutual
theorem visitT_sub (m : Means) (s : ByteArray) : ∀ (t : Tr) (out : List ByteArray), s ∈ out → s ∈ visitT m t out
  | .node l ks _, out, h => by
    rw [visitT]
    refine visitL_sub m s ks _ ?_
    split
    · exact List.mem_append_left _ h
    · exact h
theorem visitL_sub (m : Means) (s : ByteArray) : ∀ (l : List Tr) (out : List ByteArray), s ∈ out → s ∈ visitL m l out
  | [], out, h => h
  | t :: r, out, h => visitL_sub m s r _ (visitT_sub m s t out h)
end
mutual
theorem visitT_occ (m : Means) (s : ByteArray) : ∀ (t : Tr) (out : List ByteArray), occ m t s → s ∈ visitT m t out
  | .node l ks _, out, h => by
    rw [visitT]
    rw [occ] at h
    rcases h with ⟨h0, rfl⟩ | h
    · refine visitL_sub m s ks _ ?_
      by_cases hs : s ∈ out
      · rw [if_neg (by simp [hs])]; exact hs
      · rw [if_pos ⟨h0, hs⟩]; simp
    · exact visitL_occ m s ks _ h
theorem visitL_occ (m : Means) (s : ByteArray) : ∀ (l : List Tr) (out : List ByteArray), occL m l s → s ∈ visitL m l out
  | [], out, h => by rw [occL] at h; exact h.elim
  | t :: r, out, h => by
    rw [occL] at h
    rw [visitL]
    rcases h with h | h
    · exact visitL_sub m s r _ (visitT_occ m s t out h)
    · exact visitL_occ m s r _ h
end
theorem occL_mem (m : Means) (s : ByteArray) : ∀ {l : List Tr} {t : Tr}, t ∈ l → occ m t s → occL m l s
  | x :: l, t, h, ho => by
    rw [occL]
    rcases List.mem_cons.1 h with rfl | h
    · exact .inl ho
    · exact .inr (occL_mem m s h ho)
theorem varsF_occ {m : Means} {l : List Tr} {t : Tr} (h : t ∈ l) {s : ByteArray} (ho : occ m t s) : s ∈ varsF m l := visitL_occ m s l [] (occL_mem m s h ho)
mutual
theorem holdsG_congr (S : List U) (m : Means) {f g : Val} : ∀ t, (∀ s, occ m t s → f s = g s) → holdsG S m f t = holdsG S m g t
  | .node l ks _, h => by
    simp only [occ] at h
    simp only [holdsG]
    split
    · rename_i h0; exact h l (.inl ⟨h0, rfl⟩)
    · rw [holdsGL_congr S m ks fun s hs => h s (.inr hs)]
theorem holdsGL_congr (S : List U) (m : Means) {f g : Val} : ∀ l, (∀ s, occL m l s → f s = g s) → holdsGL S m f l = holdsGL S m g l
  | [], h => rfl
  | t :: r, h => by
    simp only [occL] at h
    simp only [holdsGL]
    rw [holdsG_congr S m t fun s hs => h s (.inl hs), holdsGL_congr S m r fun s hs => h s (.inr hs)]
end

/-! ## each valuation is a model of the list -/
def codeM (n : Nat) (f : Val) : List ByteArray → Nat
  | [] => 0
  | v :: r => (f v).toNat + 2 ^ n * codeM n f r
theorem within_pow {n : Nat} {x : U} (hn : n ≤ 6) (h : within n x) : x.toNat < 2 ^ n := by
  have h1 := within_toNat hn h
  have hx : x = x &&& full n := by
    apply BitVec.eq_of_getLsbD_eq
    intro i hi
    rw [BitVec.getLsbD_and, full_bit _ _ hn]
    cases hb : x.getLsbD i with
    | false => rfl
    | true => simp [h i hb]
  have hf : ∀ n, n ≤ 6 → (full n).toNat = 2 ^ n - 1 := by decide +kernel
  rw [hx, BitVec.toNat_and, hf n hn]
  have := Nat.two_pow_pos n
  exact Nat.lt_of_le_of_lt Nat.and_le_right (by omega)
theorem codeM_lt {n : Nat} (hn : n ≤ 6) {f : Val} (hf : ∀ s, within n (f s)) : ∀ l, codeM n f l < 2 ^ (n * l.length)
  | [] => by simp [codeM]
  | v :: r => by
    have h1 := within_pow hn (hf v)
    have h2 := codeM_lt hn hf r
    rw [codeM, List.length_cons, Nat.mul_succ, Nat.add_comm (n * r.length), Nat.pow_add]
    have h3 : 2 ^ n * (codeM n f r + 1) ≤ 2 ^ n * 2 ^ (n * r.length) := Nat.mul_le_mul_left _ h2
    rw [Nat.mul_add] at h3
    omega
theorem full_mod {n : Nat} (hn : n ≤ 6) (x : U) : (x &&& full n).toNat = x.toNat % 2 ^ n := by
  have hf : ∀ n, n ≤ 6 → (full n).toNat = 2 ^ n - 1 := by decide +kernel
  rw [BitVec.toNat_and, hf n hn, Nat.and_two_pow_sub_one_eq_mod]
theorem modFrom_code {n : Nat} (hn : n ≤ 6) {f : Val} (hf : ∀ s, within n (f s)) (x : Nat) (hx : x < 2 ^ 12) : ∀ (l : List ByteArray) (j : Nat), x / 2 ^ (n * j) = codeM n f l → modFrom n x l j = l.map fun v => (v, f v)
  | [], j, h => rfl
  | v :: r, j, h => by
    have h1 := within_pow hn (hf v)
    have hp := Nat.two_pow_pos n
    rw [codeM] at h
    rw [modFrom, List.map_cons]
    congr 1
    · congr 1
      apply BitVec.eq_of_toNat_eq
      rw [full_mod hn, BitVec.toNat_ushiftRight, BitVec.toNat_ofNat, Nat.mod_eq_of_lt (show x < 2 ^ 64 by omega), Nat.shiftRight_eq_div_pow, h, Nat.add_mul_mod_self_left, Nat.mod_eq_of_lt h1]
    · refine modFrom_code hn hf x hx r (j + 1) ?_
      rw [Nat.mul_succ, Nat.pow_add, ← Nat.div_div_eq_div_mul, h, Nat.add_mul_div_left _ _ hp, Nat.div_eq_of_lt h1, Nat.zero_add]
theorem sfind_map (f : Val) : ∀ (l : List ByteArray) (s : ByteArray), s ∈ l → sfind (l.map fun v => (v, f v)) s = some (f s)
  | v :: r, s, h => by
    rw [List.map_cons, sfind]
    by_cases e : s = v
    · rw [if_pos e, e]
    · rw [if_neg e]
      exact sfind_map f r s ((List.mem_cons.1 h).resolve_left e)

/-- What it means that a conclusion follows. -/
theorem follows_iff {S : List U} {m : Means} {prem : List Tr} {concl : Tr} (hn : S.length ≤ 6) (hv : (varsF m (prem ++ [concl])).length * S.length ≤ 12) :
    (followsF S m prem concl).1 = true ↔ ∀ f : Val, (∀ s, within S.length (f s)) → (∀ p ∈ prem, holdsG S m f p = full S.length) → holdsG S m f concl = full S.length := by
  unfold followsF
  rw [if_neg (by omega)]
  generalize hvars : varsF m (prem ++ [concl]) = vars at hv ⊢
  have hN : ∀ f : Val, (∀ s, within S.length (f s)) → codeM S.length f vars < 2 ^ (S.length * vars.length) := fun f hf => codeM_lt hn hf vars
  have h12 : 2 ^ (S.length * vars.length) ≤ 2 ^ 12 := Nat.pow_le_pow_right (by omega) (by rw [Nat.mul_comm]; exact hv)
  have hbad : ∀ (V : Model) (f : Val), (∀ s ∈ vars, (sfind V s).getD 0#64 = f s) → (badF S m prem concl V = true ↔ (∀ p ∈ prem, holdsG S m f p = full S.length) ∧ holdsG S m f concl ≠ full S.length) := by
    intro V f hVf
    have hh : ∀ t ∈ prem ++ [concl], holdsF S m V t = holdsG S m f t := fun t ht => by
      rw [holdsF_G]
      exact holdsG_congr S m t fun s hs => hVf s (by rw [← hvars]; exact varsF_occ ht hs)
    unfold badF
    rw [Bool.and_eq_true, Bool.not_eq_true', List.any_eq_false]
    refine and_congr ⟨fun h p hp => ?_, fun h p hp => ?_⟩ ?_
    · have := h p hp
      rw [← hh p (by simp [hp])]
      simpa [failsF] using this
    · have := h p hp
      rw [← hh p (by simp [hp])] at this
      simp [failsF, this]
    · rw [← hh concl (by simp)]
      simp [failsF]
  cases hfi : (List.range (2 ^ (S.length * vars.length))).find? (fun i => badF S m prem concl (modF S.length i vars)) with
  | none =>
    simp only [true_iff]
    intro f hf hp
    refine Classical.byContradiction fun hc => ?_
    have h1 := List.find?_range_eq_none.1 hfi _ (hN f hf)
    have hm : modF S.length (codeM S.length f vars) vars = vars.map fun v => (v, f v) := modFrom_code hn hf _ (Nat.lt_of_lt_of_le (hN f hf) h12) vars 0 (by simp)
    rw [hm] at h1
    have := (hbad (vars.map fun v => (v, f v)) f (fun s hs => by rw [sfind_map f vars s hs]; rfl)).2 ⟨hp, hc⟩
    rw [this] at h1
    cases h1
  | some i =>
    simp only [Bool.false_eq_true, false_iff]
    intro h
    have h1 := List.find?_range_eq_some.1 hfi
    obtain ⟨h2, h3⟩ := (hbad (modF S.length i vars) (fun s => (sfind (modF S.length i vars) s).getD 0#64) (fun s _ => rfl)).1 h1.1
    refine h3 (h _ (fun s => ?_) h2)
    show within _ ((sfind (modF S.length i vars) s).getD 0#64)
    cases hs : sfind (modF S.length i vars) s with
    | none => exact within_zero _
    | some v => exact modFrom_within _ _ hn vars 0 s v hs
theorem follows_err {S : List U} {m : Means} {prem : List Tr} {concl : Tr} : (followsF S m prem concl).2.2.2 = if 12 < (varsF m (prem ++ [concl])).length * S.length then 15 else 0 := by
  unfold followsF
  split
  · rfl
  · split <;> rfl
end Go.Apx
