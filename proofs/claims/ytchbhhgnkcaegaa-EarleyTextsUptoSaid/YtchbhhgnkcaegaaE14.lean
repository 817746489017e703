/- The reference's Sort and Text; the plain law: they answer as the program does. -/
import Derived.Test.YtchbhhgnkcaegaaE13
namespace Go.Apx
open Go.Proofs
set_option linter.unusedVariables false
set_option linter.unusedSimpArgs false
set_option linter.unnecessarySimpa false
set_option maxRecDepth 4000

/-- What a grammar and a tree must be for the reference's walks. -/
structure RefOk (g : Gr) (t : Tr) : Prop where
  sorts : g.sorts.length ≤ 2 ^ 31
  rules : g.rules.length ≤ 2 ^ 31
  nodes : t.nodes ≤ 2 ^ 20
def errR (g : Gr) (t : Tr) : Int := if checkF g ≠ 0 then checkF g else if (szF t 1).1 > 4000 then 4 else if (szF t 1).2 > 100 then 9 else if (sortOfF g t).isSome = true then 0 else 2
theorem errR_zero {g : Gr} {t : Tr} (h : errR g t = 0) : checkF g = 0 ∧ (sortOfF g t).isSome = true := by
  unfold errR at h
  split at h
  · rename_i h1; exact (h1 h).elim
  · rename_i h1
    split at h
    · omega
    · split at h
      · omega
      · split at h
        · rename_i hf; exact ⟨by omega, hf⟩
        · omega
def rsortF (g : Gr) (t : Tr) : ByteArray × Int := if errR g t ≠ 0 then (⟨#[]⟩, errR g t) else ((sortOfF g t).getD ⟨#[]⟩, 0)
theorem rsort_c (g : Gr) (t : Tr) (hi : RefOk g t) {h : AHeap} : AEx PP Gl 12 [encG g, encT t] h (.ret (.tup [sv (rsortF g t).1, i64 (rsortF g t).2])) h := by
  have hnod := hi.nodes
  refine enter_ref14_Sort (by simp) ?_
  simp -implicitDefEqProofs [code_ref14_Sort, res_ref14_Sort, ann_ref14_Sort, encG, encT_eq t]
  refine callk (rcheck_c g hi.sorts hi.rules) (by simp [encG]) rfl ?_
  simp -implicitDefEqProofs
  refine ⟨fun hc => ?_, fun hc => ?_⟩
  rotate_left
  · have he : errR g t = checkF g := by unfold errR; rw [if_pos hc]
    have hr : rsortF g t = (⟨#[]⟩, checkF g) := by unfold rsortF; rw [he, if_pos hc]
    exact retE (by simp [deferred, dslot]) rfl (by rw [hr] <;> rfl) rfl
  refine callk (rsize_c t 1 (by omega) (by omega) (by omega)) (by simp [encT_eq t]) rfl ?_
  simp -implicitDefEqProofs
  refine ⟨fun hb => ?_, fun hb => ?_⟩
  · have he : errR g t = 4 := by unfold errR; rw [if_neg (by omega), if_pos (by omega)]
    have hr : rsortF g t = (⟨#[]⟩, 4) := by unfold rsortF; rw [he, if_pos (by omega)]
    exact retE (by simp [deferred, dslot]) rfl (by rw [hr] <;> rfl) rfl
  refine ⟨fun hd => ?_, fun hd => ?_⟩
  · have he : errR g t = 9 := by unfold errR; rw [if_neg (by omega), if_neg (by omega), if_pos (by omega)]
    have hr : rsortF g t = (⟨#[]⟩, 9) := by unfold rsortF; rw [he, if_pos (by omega)]
    exact retE (by simp [deferred, dslot]) rfl (by rw [hr] <;> rfl) rfl
  have hck := check_ok hc
  refine callk (sortOf_c g t (check_args hc) hi.rules (fun r hr => by have := hck.2.1 r hr; omega) (by omega)) (by simp [encT_eq t, encG]) rfl ?_
  cases hs : sortOfF g t with
  | none =>
    have he : errR g t = 2 := by unfold errR; rw [if_neg (by omega), if_neg (by omega), if_neg (by omega), if_neg (by simp [hs])]
    have hr : rsortF g t = (⟨#[]⟩, 2) := by unfold rsortF; rw [he, if_pos (by omega)]
    simp -implicitDefEqProofs [optV]
    exact retE (by simp [deferred, dslot]) rfl (by rw [hr] <;> rfl) rfl
  | some s =>
    have he : errR g t = 0 := by unfold errR; rw [if_neg (by omega), if_neg (by omega), if_neg (by omega), if_pos (by simp [hs])]
    have hr : rsortF g t = (s, 0) := by unfold rsortF; rw [he, if_neg (by omega), hs]; rfl
    simp -implicitDefEqProofs [optV]
    exact retE (by simp [deferred, dslot]) rfl (by rw [hr] <;> rfl) rfl

def rtxtF (g : Gr) (t : Tr) : List ByteArray × Int :=
  if errR g t ≠ 0 then ([], errR g t) else if (rtextF g t).length > 2000 then ([], 15) else (rtextF g t, 0)
theorem rtxt_c (g : Gr) (t : Tr) (hi : RefOk g t) {h : AHeap} : AEx PP Gl 9 [encG g, encT t] h (.ret (.tup [seen (rtxtF g t).1, i64 (rtxtF g t).2])) h := by
  have hnod := hi.nodes
  refine enter_ref14_Text (by simp) ?_
  simp -implicitDefEqProofs [code_ref14_Text, res_ref14_Text, ann_ref14_Text, encG, encT_eq t]
  refine callk (rsort_c g t hi) (by simp [encG, encT_eq t]) rfl ?_
  by_cases he : errR g t = 0
  · obtain ⟨hc, hok⟩ := errR_zero he
    have hck := check_ok hc
    have hr : (rsortF g t).2 = 0 := by unfold rsortF; rw [if_neg (by omega)]
    simp -implicitDefEqProofs [hr]
    refine callk (rtext_c g t (check_args hc) hi.rules (fun r hr => by have := hck.2.1 r hr; omega) hnod hok) (by simp [encT_eq t, encG]) rfl ?_
    by_cases hbig : (2000 : Int) < (rtextF g t).length
    · have ht : rtxtF g t = ([], 15) := by unfold rtxtF; rw [if_neg (by omega), if_pos (by omega)]
      simp -implicitDefEqProofs [hbig]
      exact retE (by simp [deferred, dslot]) rfl (by rw [ht] <;> rfl) rfl
    · have ht : rtxtF g t = (rtextF g t, 0) := by unfold rtxtF; rw [if_neg (by omega), if_neg (by omega)]
      simp -implicitDefEqProofs [hbig]
      exact retE (by simp [deferred, dslot]) rfl (by rw [ht] <;> rfl) rfl
  · have ht : rtxtF g t = ([], errR g t) := by unfold rtxtF; rw [if_pos he]
    have hr : (rsortF g t).2 = errR g t := by unfold rsortF; rw [if_pos he]
    simp -implicitDefEqProofs [hr, he]
    exact retE (by simp [deferred, dslot]) rfl (by rw [ht] <;> rfl) rfl

/-! ## formed trees are those that have a sort -/
theorem formed_rule {g : Gr} {t : Tr} (h : formedF g t = true) : ∃ r, ruleAt g t.label = some r := by
  rw [formedF_eq] at h
  cases hr : ruleAt g t.label with
  | none => rw [hr] at h; simp [formR] at h
  | some r => exact ⟨r, rfl⟩
theorem sort_formed (g : Gr) (ha : ArgOk g) (t : Tr) : sortOfF g t = if formedF g t = true then (ruleAt g t.label).map (·.sort) else none := by
  have hnn := Tr.nodes_eq t
  rw [sortOfF_eq, formedF_eq]
  cases hra : ruleAt g t.label with
  | none => simp [sortR, formR]
  | some r =>
    obtain ⟨hrm, hrl⟩ := ruleAt_mem hra
    have har := ha r hrm
    simp only [sortR]
    by_cases hargs : t.kids.length = argsF r.parts
    · rw [if_pos hargs]
      have hfit : ∀ p ∈ r.parts, partFit g t.kids (t.kids.map (formedF g)) p = fitS (t.kids.map (sortOfF g)) p := by
        intro p hp
        by_cases hse : p.sort = ⟨#[]⟩
        · simp [partFit, fitS, hse]
        · obtain ⟨h1, h2⟩ := har p hp hse
          obtain ⟨m, hnp⟩ : ∃ n : Nat, p.arg = n := ⟨p.arg.toNat, by omega⟩
          have hnt : p.arg.toNat = m := by omega
          obtain ⟨k, hkn⟩ : ∃ k, t.kids[m]? = some k := ⟨t.kids[m]'(by omega), by simp [show m < t.kids.length by omega]⟩
          have hkm := List.mem_of_getElem? hkn
          have hkno := Tr.nodesL_mem hkm
          have ih := sort_formed g ha k
          simp only [partFit, fitS, hse, hnt, getD_map, hkn, decide_false, Bool.false_or, Option.map_some, Option.getD_some, ih]
          cases hf : formedF g k with
          | false => simp
          | true =>
            obtain ⟨kr, hkr⟩ := formed_rule hf
            simp [hkr]
      have hall : r.parts.all (partFit g t.kids (t.kids.map (formedF g))) = r.parts.all (fitS (t.kids.map (sortOfF g))) := by
        rw [Bool.eq_iff_iff, List.all_eq_true, List.all_eq_true]
        exact ⟨fun h p hp => by rw [← hfit p hp]; exact h p hp, fun h p hp => by rw [hfit p hp]; exact h p hp⟩
      have e : formR g (some r) t.kids (t.kids.map (formedF g)) = r.parts.all (fitS (t.kids.map (sortOfF g))) := by
        show (r.parts.all _ && decide _) = _
        rw [hall, hargs]
        simp
      rw [e]
      cases r.parts.all (fitS (t.kids.map (sortOfF g))) <;> simp
    · rw [if_neg hargs]
      have e : formR g (some r) t.kids (t.kids.map (formedF g)) = false := by
        show (r.parts.all _ && decide _) = _
        have : ¬ argsF r.parts = t.kids.length := fun e => hargs e.symm
        simp [this]
      rw [e]
      simp
termination_by t.nodes
decreasing_by
  omega

theorem err_eq (g : Gr) (t : Tr) : errF g t = errR g t := by
  unfold errF errR
  by_cases hc : checkF g = 0
  · have hs := sort_formed g (check_args hc) t
    have : (sortOfF g t).isSome = formedF g t := by
      rw [hs]
      cases hf : formedF g t with
      | false => rfl
      | true => obtain ⟨r, hr⟩ := formed_rule hf; simp [hr]
    rw [this]
  · rw [if_pos hc, if_pos hc]
theorem sort_eq (g : Gr) (t : Tr) : sortF2 g t = rsortF g t := by
  unfold sortF2 rsortF
  rw [err_eq]
  by_cases he : errR g t = 0
  · rw [if_neg (by omega), if_neg (by omega)]
    have hf := errF_zero ((err_eq g t).trans he)
    rw [sort_formed g (check_args hf.1) t, if_pos hf.2]
    obtain ⟨r, hr⟩ := formed_rule hf.2
    simp [hr]
  · rw [if_pos he, if_pos he]

/-! ## the text, all of it -/
def ftParts (fs : List (List ByteArray)) (ps : List Pt) : List ByteArray := ps.flatMap fun p => if p.sort = ⟨#[]⟩ then [p.sym] else fs.getD p.arg.toNat []
def ftR (o : Option Rl) (fs : List (List ByteArray)) : List ByteArray := match o with
  | none => []
  | some r => ftParts fs r.parts
mutual
def ftF (g : Gr) : Tr → List ByteArray
  | .node s ks _ => ftR (ruleAt g s) (ftL g ks)
def ftL (g : Gr) : List Tr → List (List ByteArray)
  | [] => []
  | t :: r => ftF g t :: ftL g r
end
def SpS (f : List ByteArray → List ByteArray) (u : List ByteArray) : Prop := ∀ l : List ByteArray, ((l ++ u).length ≤ 2000 → f l = l ++ u) ∧ ((l ++ u).length > 2000 → (f l).length > 2000)
def SpL : List (List ByteArray → List ByteArray) → List (List ByteArray) → Prop
  | [], [] => True
  | f :: fs, u :: us => SpS f u ∧ SpL fs us
  | _, _ => False
theorem SpL.get : ∀ {fs us}, SpL fs us → ∀ i, SpS (fs.getD i id) (us.getD i [])
  | [], [], _, i => by intro l; simp
  | f :: fs, u :: us, h, 0 => h.1
  | f :: fs, u :: us, h, i + 1 => by simpa using SpL.get h.2 i
  | [], _ :: _, h, _ => h.elim
  | _ :: _, [], h, _ => h.elim
theorem spParts_spec {fs us} (h : SpL fs us) : ∀ (ps : List Pt), SpS (spParts ps fs) (ftParts us ps)
  | [] => by intro l; simp [spParts, ftParts]
  | p :: ps => by
    intro l
    have ih := spParts_spec h ps
    have hft : ftParts us (p :: ps) = (if p.sort = ⟨#[]⟩ then [p.sym] else us.getD p.arg.toNat []) ++ ftParts us ps := by simp [ftParts]
    rw [hft]
    simp only [spParts]
    by_cases hb : l.length > 2000
    · rw [if_pos hb]
      refine ⟨fun h1 => ?_, fun _ => hb⟩
      rw [List.length_append] at h1; omega
    · rw [if_neg hb]
      generalize hu : (if p.sort = ⟨#[]⟩ then [p.sym] else us.getD p.arg.toNat []) = u
      have hstep : ((l ++ u).length ≤ 2000 → (if p.sort = ⟨#[]⟩ then l ++ [p.sym] else (fs.getD p.arg.toNat id) l) = l ++ u) ∧ ((l ++ u).length > 2000 → (if p.sort = ⟨#[]⟩ then l ++ [p.sym] else (fs.getD p.arg.toNat id) l).length > 2000) := by
        by_cases hs : p.sort = ⟨#[]⟩
        · rw [if_pos hs] at hu ⊢
          subst hu
          exact ⟨fun _ => rfl, fun h => h⟩
        · rw [if_neg hs] at hu ⊢
          subst hu
          exact h.get _ l
      generalize (if p.sort = ⟨#[]⟩ then l ++ [p.sym] else (fs.getD p.arg.toNat id) l) = l' at hstep
      by_cases hc : (l ++ u).length ≤ 2000
      · rw [hstep.1 hc, ← List.append_assoc]
        exact ih (l ++ u)
      · have hbig := hstep.2 (by omega)
        rw [spParts_big _ _ _ hbig]
        refine ⟨fun h1 => ?_, fun _ => hbig⟩
        simp only [List.length_append] at h1 hc
        omega
mutual
theorem spell_spec (g : Gr) : ∀ t : Tr, SpS (spellF g t) (ftF g t)
  | .node s ks c => by
    simp only [spellF, ftF]
    cases hr : ruleAt g s with
    | none => intro l; simp [spR, ftR]
    | some r => exact spParts_spec (spell_specL g ks) r.parts
theorem spell_specL (g : Gr) : ∀ ks : List Tr, SpL (spellL g ks) (ftL g ks)
  | [] => trivial
  | t :: r => ⟨spell_spec g t, spell_specL g r⟩
end
def RtS (f u : List ByteArray) : Prop := (u.length ≤ 2000 → f = u) ∧ (u.length > 2000 → f.length > 2000)
def RtL : List (List ByteArray) → List (List ByteArray) → Prop
  | [], [] => True
  | f :: fs, u :: us => RtS f u ∧ RtL fs us
  | _, _ => False
theorem RtL.get : ∀ {fs us}, RtL fs us → ∀ i, RtS (fs.getD i []) (us.getD i [])
  | [], [], _, i => by simp [RtS]
  | f :: fs, u :: us, h, 0 => h.1
  | f :: fs, u :: us, h, i + 1 => by simpa using RtL.get h.2 i
  | [], _ :: _, h, _ => h.elim
  | _ :: _, [], h, _ => h.elim
theorem rtParts_spec {fs us} (h : RtL fs us) : ∀ (ps : List Pt) (out : List ByteArray), RtS (rtParts ps fs out) (out ++ ftParts us ps)
  | [], out => by simp [rtParts, ftParts, RtS]
  | p :: ps, out => by
    have hft : ftParts us (p :: ps) = (if p.sort = ⟨#[]⟩ then [p.sym] else us.getD p.arg.toNat []) ++ ftParts us ps := by simp [ftParts]
    rw [hft]
    simp only [rtParts]
    by_cases hb : out.length ≤ 2000
    · rw [if_pos hb]
      have hstep : RtS (if p.sort = ⟨#[]⟩ then [p.sym] else fs.getD p.arg.toNat []) (if p.sort = ⟨#[]⟩ then [p.sym] else us.getD p.arg.toNat []) := by
        by_cases hs : p.sort = ⟨#[]⟩
        · rw [if_pos hs, if_pos hs]; exact ⟨fun _ => rfl, fun h => h⟩
        · rw [if_neg hs, if_neg hs]; exact h.get _
      generalize (if p.sort = ⟨#[]⟩ then [p.sym] else fs.getD p.arg.toNat []) = f at hstep
      generalize (if p.sort = ⟨#[]⟩ then [p.sym] else us.getD p.arg.toNat []) = u at hstep
      by_cases hc : u.length ≤ 2000
      · rw [hstep.1 hc, ← List.append_assoc]
        exact rtParts_spec h ps (out ++ u)
      · have hbig := hstep.2 (by omega)
        rw [rtParts_big _ _ _ (by rw [List.length_append]; omega)]
        refine ⟨fun h1 => ?_, fun _ => by rw [List.length_append]; omega⟩
        simp only [List.length_append] at h1
        omega
    · rw [if_neg hb]
      refine ⟨fun h1 => ?_, fun _ => by omega⟩
      rw [List.length_append] at h1; omega
mutual
theorem rtext_spec (g : Gr) : ∀ t : Tr, RtS (rtextF g t) (ftF g t)
  | .node s ks c => by
    simp only [rtextF, ftF]
    cases hr : ruleAt g s with
    | none => simp [rtR, ftR, RtS]
    | some r => exact rtParts_spec (rtext_specL g ks) r.parts []
theorem rtext_specL (g : Gr) : ∀ ks : List Tr, RtL (rtextL g ks) (ftL g ks)
  | [] => trivial
  | t :: r => ⟨rtext_spec g t, rtext_specL g r⟩
end
theorem text_eq (g : Gr) (t : Tr) : textF g t = rtxtF g t := by
  unfold textF rtxtF
  rw [err_eq]
  by_cases he : errR g t = 0
  · have hne : ¬ (errR g t ≠ 0) := by omega
    rw [if_neg hne, if_neg hne]
    have h1 := spell_spec g t []
    have h2 := rtext_spec g t
    by_cases hb : (ftF g t).length ≤ 2000
    · rw [h1.1 (by simpa using hb), h2.1 hb]; rfl
    · rw [if_pos (h1.2 (by simp; omega)), if_pos (h2.2 (by omega))]
  · rw [if_pos he, if_pos he]
end Go.Apx
