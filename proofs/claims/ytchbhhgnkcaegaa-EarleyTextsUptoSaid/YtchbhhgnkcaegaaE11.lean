/- Walks: spelling; the speller; Text and Sort. -/
import Derived.Test.YtchbhhgnkcaegaaE10
namespace Go.Apx
open Go.Proofs
set_option linter.unusedVariables false
set_option linter.unusedSimpArgs false
set_option linter.unnecessarySimpa false
set_option maxRecDepth 4000

/-- Elements more. -/
theorem appkL {C : Cx} {k b : Nat} {x y : Opd} {d : Option Nat} {env : Env} {H : AHeap} {K : Env → AHeap → Prop} (es vs : List AV) (h : AHeap) (hx : evalOpd C.G env x = some (apd k es h.length)) (hy : (evalOpd C.G env y).bind (elems H k) = some vs)
    (hH : H = h ++ apdH es.length) (hm : es.length + vs.length ≤ maxLenA) (hK : K (putD env d (apd k (es ++ vs) h.length)) (h ++ apdH (es.length + vs.length))) : appW C k b x y d env H K := by
  subst hH
  unfold appW
  have he : evalOp C.G env (h ++ apdH es.length) (.append k b x y) = some (apd k (es ++ vs) h.length, h ++ apdH (es.length + vs.length)) := by
    simp only [evalOp, hx, hy]
    cases es with
    | nil =>
      cases vs with
      | nil => simp
      | cons v vs =>
        have : vs.length + 1 ≤ maxLenA := by simpa using hm
        simp [this]
    | cons a es =>
      cases vs with
      | nil => simp
      | cons v vs =>
        have : es.length + 1 + (vs.length + 1) ≤ maxLenA := hm
        simp [this]
        rw [show es.length + 1 + (vs.length + 1) = es.length + 1 + vs.length + 1 by omega]
        simp
  rw [he]
  exact hK

def apdK (k : Nat) (es : List AV) : Nat := if es = [] then 0 else k
def apdC (es : List AV) (t : Nat) : Cap := if es = [] then .nil else .tok t
theorem apd_sl (k : Nat) (es : List AV) (t : Nat) : apd k es t = .sl (apdK k es) es (apdC es t) := rfl
/-- A list of texts that grows: its room has the name n. -/
abbrev gsl (l : List ByteArray) (n : Nat) : AV := .sl (apdK 1 (l.map sv)) (l.map sv) (apdC (l.map sv) n)

/-! ## spelling -/
def spParts : List Pt → List (List ByteArray → List ByteArray) → List ByteArray → List ByteArray
  | [], _, l => l
  | p :: ps, fs, l => if l.length > 2000 then l else spParts ps fs (if p.sort = ⟨#[]⟩ then l ++ [p.sym] else (fs.getD p.arg.toNat id) l)
def spR (o : Option Rl) (fs : List (List ByteArray → List ByteArray)) (l : List ByteArray) : List ByteArray := match o with
  | none => l
  | some r => spParts r.parts fs l
mutual
def spellF (g : Gr) : Tr → List ByteArray → List ByteArray
  | .node s ks _ => spR (ruleAt g s) (spellL g ks)
def spellL (g : Gr) : List Tr → List (List ByteArray → List ByteArray)
  | [] => []
  | t :: r => spellF g t :: spellL g r
end
theorem spellL_map (g : Gr) : ∀ l, spellL g l = l.map (spellF g)
  | [] => rfl
  | t :: r => by simp [spellL, spellL_map g r]
theorem spellF_eq (g : Gr) (t : Tr) : spellF g t = spR (ruleAt g t.label) (t.kids.map (spellF g)) := by
  cases t; simp [spellF, spellL_map, Tr.label, Tr.kids]
theorem spParts_big (ps : List Pt) (fs) (l : List ByteArray) (h : l.length > 2000) : spParts ps fs l = l := by cases ps <;> simp [spParts, h]
theorem spParts_append (a b : List Pt) (fs) (l : List ByteArray) : spParts (a ++ b) fs l = spParts b fs (spParts a fs l) := by
  induction a generalizing l with
  | nil => rfl
  | cons p a ih =>
    simp only [List.cons_append, spParts]
    split
    · rename_i h; rw [spParts_big _ _ _ h]
    · exact ih _
theorem spParts_take {ps : List Pt} {fs} {l : List ByteArray} {i : Nat} {p : Pt} (hi : ps[i]? = some p) :
    spParts (ps.take (i + 1)) fs l = if (spParts (ps.take i) fs l).length > 2000 then spParts (ps.take i) fs l else if p.sort = ⟨#[]⟩ then spParts (ps.take i) fs l ++ [p.sym] else (fs.getD p.arg.toNat id) (spParts (ps.take i) fs l) := by
  rw [List.take_add_one, hi, spParts_append]
  simp [spParts]
theorem spParts_stop {ps : List Pt} {fs} {l : List ByteArray} {i : Nat} (h : (spParts (ps.take i) fs l).length > 2000) : spParts ps fs l = spParts (ps.take i) fs l := by
  conv => lhs; rw [← List.take_append_drop i ps, spParts_append, spParts_big _ _ _ h]
theorem getD_map {α β : Type} (l : List α) (f : α → β) (d : β) (i : Nat) : (l.map f).getD i d = (l[i]?.map f).getD d := by simp [List.getD]
mutual
theorem spellF_le (g : Gr) : ∀ (t : Tr) (l : List ByteArray), l.length ≤ 2001 → (spellF g t l).length ≤ 2001
  | .node s ks c, l, h => by
    simp only [spellF]
    unfold spR
    split
    · exact h
    · exact spParts_le (spellL g ks) (spellL_le g ks) _ l h
theorem spellL_le (g : Gr) : ∀ (ks : List Tr), ∀ f ∈ spellL g ks, ∀ l : List ByteArray, l.length ≤ 2001 → (f l).length ≤ 2001
  | [], f, hf => by simp [spellL] at hf
  | t :: r, f, hf => by
    simp only [spellL, List.mem_cons] at hf
    rcases hf with rfl | hf
    · exact spellF_le g t
    · exact spellL_le g r f hf
theorem spParts_le (fs : List (List ByteArray → List ByteArray)) (hf : ∀ f ∈ fs, ∀ l : List ByteArray, l.length ≤ 2001 → (f l).length ≤ 2001) : ∀ (ps : List Pt) (l : List ByteArray), l.length ≤ 2001 → (spParts ps fs l).length ≤ 2001
  | [], l, h => h
  | p :: ps, l, h => by
    simp only [spParts]
    split
    · exact h
    · refine spParts_le fs hf ps _ ?_
      split
      · simp; omega
      · simp only [List.getD]
        cases hk : fs[p.arg.toNat]? with
        | none => simpa using h
        | some f => simpa using hf f (List.mem_of_getElem? hk) l h
end

set_option maxHeartbeats 2000000 in
theorem spell_c (g : Gr) (o om : Nat) (t : Tr) (l : List ByteArray) {h : AHeap} (hs : SpOk g o om h) (hp : ∀ r ∈ g.rules, r.plain) (ha : ArgOk g) (hl : g.rules.length ≤ 2 ^ 31) (hpl : ∀ r ∈ g.rules, r.parts.length ≤ 2 ^ 31) (hn : t.nodes ≤ 2 ^ 31) (hf : formedF g t = true) (hll : l.length ≤ 2001) :
    AEx PP Gl 17 [.ptr o 0 0, encT t, gsl l h.length] (h ++ apdH l.length) (.ret (gsl (spellF g t l) h.length)) (h ++ apdH (spellF g t l).length) := by
  have hnn := Tr.nodes_eq t
  have hlen := Tr.length_le t.kids
  have hfe := formedF_eq g t
  have hse := spellF_eq g t
  rw [hf] at hfe
  cases hra : ruleAt g t.label with
  | none => rw [hra] at hfe; simp [formR] at hfe
  | some r =>
  rw [hra] at hfe hse
  obtain ⟨hrm, hrl⟩ := ruleAt_mem hra
  have har := ha r hrm
  have hrp := hpl r hrm
  simp only [formR, Bool.true_eq, Bool.and_eq_true, List.all_eq_true, decide_eq_true_eq] at hfe
  obtain ⟨hfit, hargs⟩ := hfe
  have hsp : spellF g t l = spParts r.parts (t.kids.map (spellF g)) l := by rw [hse]; rfl
  refine enter_earley_speller_spell (by simp) ?_
  simp -implicitDefEqProofs [code_earley_speller_spell, res_earley_speller_spell, ann_earley_speller_spell, encT_eq t]
  refine callk (rule_at_c g o om t.label hs.app hp hl) rfl rfl ?_
  simp -implicitDefEqProofs [hra, ruleV, encR]
  refine AWp.cnt r.parts.length [0, 4, 19, 20] (fun i => [(2, gsl (spParts (r.parts.take i) (t.kids.map (spellF g)) l) h.length), (21, i64 i)]) (fun i => h ++ apdH (spParts (r.parts.take i) (t.kids.map (spellF g)) l).length) (fun i => True) mixed trivial (le_of (by simp [dslot, spParts])) (by simp [spParts]) ?_ ?_
  · intro i hi _
    obtain ⟨p, hpi⟩ : ∃ k, r.parts[i]? = some k := ⟨r.parts[i], by simp [hi]⟩
    have hlt : (i : Int) < r.parts.length := by omega
    have hne : r.parts ≠ [] := by intro e; rw [e] at hi; simp at hi
    have hpm := List.mem_of_getElem? hpi
    have hst := spParts_take (fs := t.kids.map (spellF g)) (l := l) hpi
    have hcl : (spParts (r.parts.take i) (t.kids.map (spellF g)) l).length ≤ 2001 := spParts_le _ (fun f hf' => by
      obtain ⟨k, _, rfl⟩ := List.mem_map.1 hf'
      exact spellF_le g k) _ l hll
    have hstop := spParts_stop (ps := r.parts) (fs := t.kids.map (spellF g)) (l := l) (i := i)
    generalize hcur : spParts (r.parts.take i) (t.kids.map (spellF g)) l = cur at *
    by_cases hbig : (2000 : Int) < cur.length
    · simp -implicitDefEqProofs [lp0_earley_speller_spell, hlt, hpi, encP, hbig]
      refine retE (by simp [deferred, dslot]) rfl ?_ ?_
      · rw [hsp, hstop (by omega)]
      · rw [hsp, hstop (by omega)]
    · rw [if_neg (by omega)] at hst
      by_cases hsy : p.sort = ⟨#[]⟩
      · rw [if_pos hsy] at hst
        simp -implicitDefEqProofs [lp0_earley_speller_spell, hlt, hpi, encP, hbig, hsy]
        refine appkL (cur.map sv) [sv p.sym] h (by simp [apd_sl]) (by simp) (by simp) (len_tok (by simp; omega)) ?_
        simp -implicitDefEqProofs
        rw [IntWalk.i64_in ((i : Int) + 1) (by omega)]
        exact ⟨le_of (by simp [dslot, hst, apd_sl]), by rw [hst]; simp⟩
      · rw [if_neg hsy] at hst
        obtain ⟨ha1, ha2⟩ := har p hpm hsy
        have hfp := hfit p hpm
        obtain ⟨n, hnp⟩ : ∃ n : Nat, p.arg = n := ⟨p.arg.toNat, by omega⟩
        have hnt : p.arg.toNat = n := by omega
        simp only [partFit, hsy, hnt, decide_false, Bool.false_or] at hfp
        cases hkn : t.kids[n]? with
        | none => rw [hkn] at hfp; simp at hfp
        | some k =>
          rw [hkn] at hfp
          simp only [Bool.and_eq_true, getD_map, hkn] at hfp
          have hfk : formedF g k = true := by simpa using hfp.2
          have hnl := (List.getElem?_eq_some_iff.1 hkn).1
          have hkm := List.mem_of_getElem? hkn
          have hkno := Tr.nodesL_mem hkm
          have hkne : t.kids ≠ [] := by intro e; rw [e] at hnl; simp at hnl
          have hgd : (t.kids.map (spellF g)).getD n id = spellF g k := by rw [getD_map, hkn]; rfl
          rw [hnt, hgd] at hst
          simp -implicitDefEqProofs [lp0_earley_speller_spell, hlt, hpi, encP, hbig, hsy, hnp, hkn, encT_eq k]
          refine callk (spell_c g o om k cur hs hp ha hl hpl (by omega) hfk hcl) (by simp [encT_eq k]) rfl ?_
          simp -implicitDefEqProofs
          rw [IntWalk.i64_in ((i : Int) + 1) (by omega)]
          exact ⟨le_of (by simp [dslot, hst]), by rw [hst]⟩
  · intro _
    simp -implicitDefEqProofs [lp0_earley_speller_spell]
    refine retE (by simp [deferred, dslot]) rfl ?_ ?_
    · rw [hsp]
    · rw [hsp]
termination_by t.nodes
decreasing_by
  have := Tr.nodesL_mem hkm
  omega
end Go.Apx
