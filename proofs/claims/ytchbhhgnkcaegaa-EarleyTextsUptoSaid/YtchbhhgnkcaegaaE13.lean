/- Walks: the reference's sort and text of a tree. -/
import Derived.Test.YtchbhhgnkcaegaaE12
namespace Go.Apx
open Go.Proofs
set_option linter.unusedVariables false
set_option linter.unusedSimpArgs false
set_option linter.unnecessarySimpa false
set_option maxRecDepth 4000

theorem find_some {g : Gr} {s : ByteArray} {r : Rl} (h : ruleAt g s = some r) : ∃ n : Nat, findF g s = n ∧ g.rules[n]? = some r := by
  unfold ruleAt at h
  rw [find_of_idx] at h
  unfold findF placeF
  cases hf : g.rules.findIdx? (fun r => decide (r.label = s)) with
  | none => rw [hf] at h; cases h
  | some i => rw [hf] at h; exact ⟨i, rfl, by simpa using h⟩
theorem find_none {g : Gr} {s : ByteArray} (h : ruleAt g s = none) : findF g s = -1 := by
  unfold ruleAt at h
  rw [find_of_idx] at h
  unfold findF placeF
  cases hf : g.rules.findIdx? (fun r => decide (r.label = s)) with
  | none => rfl
  | some i =>
    obtain ⟨h1, _⟩ := List.findIdx?_eq_some_iff_getElem.1 hf
    rw [hf] at h
    simp at h
    omega

/-! ## the sort of a tree -/
def fitS (ss : List (Option ByteArray)) (p : Pt) : Bool := decide (p.sort = ⟨#[]⟩) || (match ss.getD p.arg.toNat none with
  | some s => decide (s = p.sort)
  | none => false)
def sortR (o : Option Rl) (n : Nat) (ss : List (Option ByteArray)) : Option ByteArray := match o with
  | none => none
  | some r => if n = argsF r.parts then (if r.parts.all (fitS ss) = true then some r.sort else none) else none
mutual
def sortOfF (g : Gr) : Tr → Option ByteArray
  | .node l ks _ => sortR (ruleAt g l) ks.length (sortOfL g ks)
def sortOfL (g : Gr) : List Tr → List (Option ByteArray)
  | [] => []
  | t :: r => sortOfF g t :: sortOfL g r
end
theorem sortOfL_map (g : Gr) : ∀ l, sortOfL g l = l.map (sortOfF g)
  | [] => rfl
  | t :: r => by simp [sortOfL, sortOfL_map g r]
theorem sortOfF_eq (g : Gr) (t : Tr) : sortOfF g t = sortR (ruleAt g t.label) t.kids.length (t.kids.map (sortOfF g)) := by
  cases t; simp [sortOfF, sortOfL_map, Tr.label, Tr.kids]
def optV (o : Option ByteArray) : AV := .tup [.sc (.string (o.getD ⟨#[]⟩)), .sc (.bool o.isSome)]

set_option maxHeartbeats 2000000 in
theorem sortOf_c (g : Gr) (t : Tr) {h : AHeap} (ha : ArgOk g) (hl : g.rules.length ≤ 2 ^ 31) (hpl : ∀ r ∈ g.rules, r.parts.length ≤ 2 ^ 31) (hn : t.nodes ≤ 2 ^ 31) :
    AEx PP Gl 22 [encG g, encT t] h (.ret (optV (sortOfF g t))) h := by
  have hnn := Tr.nodes_eq t
  have hlen := Tr.length_le t.kids
  have hfe := sortOfF_eq g t
  refine enter_ref14_sortOf (by simp) ?_
  simp -implicitDefEqProofs [code_ref14_sortOf, res_ref14_sortOf, ann_ref14_sortOf, encT_eq t, encG]
  refine callk (rfind_c g t.label hl) (by simp [encG]) rfl ?_
  cases hra : ruleAt g t.label with
  | none =>
    rw [hra] at hfe
    rw [find_none hra]
    simp -implicitDefEqProofs
    exact retE (by simp [deferred, dslot]) rfl (by rw [hfe]; rfl) rfl
  | some r =>
    rw [hra] at hfe
    obtain ⟨hrm, hrl⟩ := ruleAt_mem hra
    have har := ha r hrm
    have hrp := hpl r hrm
    obtain ⟨n, hfn, hget⟩ := find_some hra
    have hgne : g.rules ≠ [] := by intro e; rw [e] at hget; simp at hget
    rw [hfn]
    have hn0 : ¬ (n : Int) < 0 := by omega
    simp -implicitDefEqProofs [hn0, hget, encR]
    refine callk (args_c r hrp) (by simp [encR]) rfl ?_
    by_cases hargs : t.kids.length = argsF r.parts
    · have hargs' : (t.kids.length : Int) = (argsF r.parts : Nat) := by omega
      simp -implicitDefEqProofs [hargs']
      refine AWp.cnt r.parts.length [2, 3, 6] (fun i => [(7, i64 i)]) (fun _ => h) (fun i => ∀ y ∈ r.parts.take i, fitS (t.kids.map (sortOfF g)) y = true) mixed (by simp) (le_of (by simp [dslot])) rfl ?_ ?_
      · intro i hi hz
        obtain ⟨p, hpi⟩ : ∃ k, r.parts[i]? = some k := ⟨r.parts[i], by simp [hi]⟩
        have hlt : (i : Int) < r.parts.length := by omega
        have hne : r.parts ≠ [] := by intro e; rw [e] at hi; simp at hi
        have hpm := List.mem_of_getElem? hpi
        have hbad : fitS (t.kids.map (sortOfF g)) p = false → sortOfF g t = none := fun hb => by
          rw [hfe]
          have : r.parts.all (fitS (t.kids.map (sortOfF g))) = false := by
            rw [List.all_eq_false]; exact ⟨p, hpm, by simp [hb]⟩
          simp [sortR, this]
        by_cases hse : p.sort = ⟨#[]⟩
        · simp -implicitDefEqProofs [lp0_ref14_sortOf, hn0, hget, encR, hlt, hpi, encP, hse]
          rw [IntWalk.i64_in ((i : Int) + 1) (by omega)]
          exact ⟨by simpa using take_ext hpi (q := fun y => fitS (t.kids.map (sortOfF g)) y = true) hz (by simp [fitS, hse]), le_of (by simp [dslot])⟩
        · obtain ⟨ha1, ha2⟩ := har p hpm hse
          obtain ⟨m, hnp⟩ : ∃ n : Nat, p.arg = n := ⟨p.arg.toNat, by omega⟩
          have hnt : p.arg.toNat = m := by omega
          obtain ⟨k, hkn⟩ : ∃ k, t.kids[m]? = some k := ⟨t.kids[m]'(by omega), by simp [show m < t.kids.length by omega]⟩
          have hkm := List.mem_of_getElem? hkn
          have hkno := Tr.nodesL_mem hkm
          have hkne : t.kids ≠ [] := by intro e; rw [e] at hkn; simp at hkn
          have hfit : fitS (t.kids.map (sortOfF g)) p = (match sortOfF g k with | some s => decide (s = p.sort) | none => false) := by
            simp [fitS, hse, hnt, hkn]
          simp -implicitDefEqProofs [lp0_ref14_sortOf, hn0, hget, encR, hlt, hpi, encP, hse, hnp, hkn, encT_eq k]
          refine callk (sortOf_c g k ha hl hpl (by omega)) (by simp [encT_eq k, encG]) rfl ?_
          cases hsk : sortOfF g k with
          | none =>
            rw [hsk] at hfit
            simp -implicitDefEqProofs [optV]
            exact retE (by simp [deferred, dslot]) rfl (by rw [hbad hfit]; rfl) rfl
          | some s =>
            rw [hsk] at hfit
            simp at hfit
            by_cases hss : s = p.sort
            · simp -implicitDefEqProofs [optV, hss]
              rw [IntWalk.i64_in ((i : Int) + 1) (by omega)]
              exact ⟨by simpa using take_ext hpi (q := fun y => fitS (t.kids.map (sortOfF g)) y = true) hz (by rw [hfit]; simp [hss]), le_of (by simp [dslot])⟩
            · simp -implicitDefEqProofs [optV, hss]
              exact retE (by simp [deferred, dslot]) rfl (by rw [hbad (by rw [hfit]; simp [hss])]; rfl) rfl
      · intro hz
        have hall : r.parts.all (fitS (t.kids.map (sortOfF g))) = true := by rw [List.all_eq_true]; exact take_all hz
        simp -implicitDefEqProofs [lp0_ref14_sortOf, hn0, hget, encR]
        exact retE (by simp [deferred, dslot]) rfl (by rw [hfe]; simp [sortR, hargs, hall, optV]) rfl
    · have hargs' : ¬ (t.kids.length : Int) = (argsF r.parts : Nat) := by omega
      simp -implicitDefEqProofs [hargs']
      exact retE (by simp [deferred, dslot]) rfl (by rw [hfe]; simp [sortR, hargs, optV]) rfl
termination_by t.nodes
decreasing_by
  have := Tr.nodesL_mem hkm
  omega

/-! ## the text of a tree -/
def rtParts : List Pt → List (List ByteArray) → List ByteArray → List ByteArray
  | [], _, out => out
  | p :: ps, fs, out => if out.length ≤ 2000 then rtParts ps fs (out ++ (if p.sort = ⟨#[]⟩ then [p.sym] else fs.getD p.arg.toNat [])) else out
def rtR (o : Option Rl) (fs : List (List ByteArray)) : List ByteArray := match o with
  | none => []
  | some r => rtParts r.parts fs []
mutual
def rtextF (g : Gr) : Tr → List ByteArray
  | .node s ks _ => rtR (ruleAt g s) (rtextL g ks)
def rtextL (g : Gr) : List Tr → List (List ByteArray)
  | [] => []
  | t :: r => rtextF g t :: rtextL g r
end
theorem rtextL_map (g : Gr) : ∀ l, rtextL g l = l.map (rtextF g)
  | [] => rfl
  | t :: r => by simp [rtextL, rtextL_map g r]
theorem rtextF_eq (g : Gr) (t : Tr) : rtextF g t = rtR (ruleAt g t.label) (t.kids.map (rtextF g)) := by
  cases t; simp [rtextF, rtextL_map, Tr.label, Tr.kids]
theorem rtParts_big (ps : List Pt) (fs) (l : List ByteArray) (h : ¬ l.length ≤ 2000) : rtParts ps fs l = l := by cases ps <;> simp [rtParts, h]
theorem rtParts_append (a b : List Pt) (fs) (l : List ByteArray) : rtParts (a ++ b) fs l = rtParts b fs (rtParts a fs l) := by
  induction a generalizing l with
  | nil => rfl
  | cons p a ih =>
    simp only [List.cons_append, rtParts]
    split
    · exact ih _
    · rename_i h; rw [rtParts_big _ _ _ h]
theorem rtParts_take {ps : List Pt} {fs} {l : List ByteArray} {i : Nat} {p : Pt} (hi : ps[i]? = some p) :
    rtParts (ps.take (i + 1)) fs l = if (rtParts (ps.take i) fs l).length ≤ 2000 then rtParts (ps.take i) fs l ++ (if p.sort = ⟨#[]⟩ then [p.sym] else fs.getD p.arg.toNat []) else rtParts (ps.take i) fs l := by
  rw [List.take_add_one, hi, rtParts_append]
  simp [rtParts]
theorem rtParts_stop {ps : List Pt} {fs} {l : List ByteArray} {i : Nat} (h : ¬ (rtParts (ps.take i) fs l).length ≤ 2000) : rtParts ps fs l = rtParts (ps.take i) fs l := by
  conv => lhs; rw [← List.take_append_drop i ps, rtParts_append, rtParts_big _ _ _ h]
theorem rtParts_le (fs : List (List ByteArray)) (M : Nat) (hf : ∀ f ∈ fs, f.length ≤ M) : ∀ (ps : List Pt) (l : List ByteArray), l.length ≤ 2001 + M → (rtParts ps fs l).length ≤ 2001 + M
  | [], l, h => h
  | p :: ps, l, h => by
    simp only [rtParts]
    split
    · refine rtParts_le fs M hf ps _ ?_
      rw [List.length_append]
      split
      · simp; omega
      · simp only [List.getD]
        cases hk : fs[p.arg.toNat]? with
        | none => simp; omega
        | some f => have := hf f (List.mem_of_getElem? hk); simp; omega
    · exact h
mutual
theorem rtextF_le (g : Gr) : ∀ t : Tr, (rtextF g t).length ≤ 2001 * t.nodes
  | .node s ks c => by
    simp only [rtextF, Tr.nodes]
    unfold rtR
    split
    · simp
    · have := rtParts_le (rtextL g ks) (2001 * Tr.nodesL ks) (rtextL_le g ks) (by assumption : Rl).parts [] (by simp)
      omega
theorem rtextL_le (g : Gr) : ∀ (ks : List Tr), ∀ f ∈ rtextL g ks, f.length ≤ 2001 * Tr.nodesL ks
  | [], f, hf => by simp [rtextL] at hf
  | t :: r, f, hf => by
    simp only [rtextL, List.mem_cons, Tr.nodesL] at hf ⊢
    rcases hf with rfl | hf
    · have := rtextF_le g t; omega
    · have := rtextL_le g r f hf; omega
end
theorem elems_seen (h : AHeap) (l : List ByteArray) : elems h 1 (seen l) = some (l.map sv) := by
  cases l <;> simp [elems, seen, apdK]

set_option maxHeartbeats 2000000 in
theorem rtext_c (g : Gr) (t : Tr) {h : AHeap} (ha : ArgOk g) (hl : g.rules.length ≤ 2 ^ 31) (hpl : ∀ r ∈ g.rules, r.parts.length ≤ 2 ^ 31) (hn : t.nodes ≤ 2 ^ 20) (hok : (sortOfF g t).isSome = true) :
    AEx PP Gl 18 [encG g, encT t] h (.ret (seen (rtextF g t))) h := by
  have hnn := Tr.nodes_eq t
  have hlen := Tr.length_le t.kids
  have hfe := sortOfF_eq g t
  have hse := rtextF_eq g t
  cases hra : ruleAt g t.label with
  | none => rw [hra] at hfe; rw [hfe] at hok; simp [sortR] at hok
  | some r =>
  rw [hra] at hfe hse
  obtain ⟨hrm, hrl⟩ := ruleAt_mem hra
  have har := ha r hrm
  have hrp := hpl r hrm
  obtain ⟨n, hfn, hget⟩ := find_some hra
  have hgne : g.rules ≠ [] := by intro e; rw [e] at hget; simp at hget
  have hargs : t.kids.length = argsF r.parts ∧ r.parts.all (fitS (t.kids.map (sortOfF g))) = true := by
    rw [hfe] at hok
    simp only [sortR] at hok
    split at hok
    · rename_i h1
      split at hok
      · rename_i h2; exact ⟨h1, h2⟩
      · simp at hok
    · simp at hok
  obtain ⟨hargs, hall⟩ := hargs
  rw [List.all_eq_true] at hall
  have hn0 : ¬ (n : Int) < 0 := by omega
  have hsp : rtextF g t = rtParts r.parts (t.kids.map (rtextF g)) [] := by rw [hse]; rfl
  refine enter_ref14_text (by simp) ?_
  simp -implicitDefEqProofs [code_ref14_text, res_ref14_text, ann_ref14_text, encT_eq t, encG]
  refine callk (rfind_c g t.label hl) (by simp [encG]) rfl ?_
  rw [hfn]
  simp -implicitDefEqProofs [hn0, hget, encR]
  refine AWp.cnt r.parts.length [2, 3, 5] (fun i => [(6, gsl (rtParts (r.parts.take i) (t.kids.map (rtextF g)) []) h.length), (7, i64 i)]) (fun i => h ++ apdH (rtParts (r.parts.take i) (t.kids.map (rtextF g)) []).length) (fun i => True) mixed trivial (le_of (by simp [dslot, rtParts, apdK, apdC])) (by simp [rtParts]) ?_ ?_
  · intro i hi _
    obtain ⟨p, hpi⟩ : ∃ k, r.parts[i]? = some k := ⟨r.parts[i], by simp [hi]⟩
    have hlt : (i : Int) < r.parts.length := by omega
    have hne : r.parts ≠ [] := by intro e; rw [e] at hi; simp at hi
    have hpm := List.mem_of_getElem? hpi
    have hst := rtParts_take (fs := t.kids.map (rtextF g)) (l := []) hpi
    have hstop := rtParts_stop (ps := r.parts) (fs := t.kids.map (rtextF g)) (l := []) (i := i)
    generalize hcur : rtParts (r.parts.take i) (t.kids.map (rtextF g)) [] = cur at *
    by_cases hbig : (cur.length : Int) ≤ 2000
    · rw [if_pos (by omega)] at hst
      by_cases hsy : p.sort = ⟨#[]⟩
      · rw [if_pos hsy] at hst
        simp -implicitDefEqProofs [lp0_ref14_text, hlt, hpi, encP, hbig, hsy]
        refine appkL (cur.map sv) [sv p.sym] h (by simp [apd_sl]) (by simp) (by simp) (len_tok (by simp; omega)) ?_
        simp -implicitDefEqProofs
        rw [IntWalk.i64_in ((i : Int) + 1) (by omega)]
        exact ⟨le_of (by simp [dslot, hst, apd_sl]), by rw [hst]; simp⟩
      · rw [if_neg hsy] at hst
        obtain ⟨ha1, ha2⟩ := har p hpm hsy
        have hfp := hall p hpm
        obtain ⟨m, hnp⟩ : ∃ n : Nat, p.arg = n := ⟨p.arg.toNat, by omega⟩
        have hnt : p.arg.toNat = m := by omega
        obtain ⟨k, hkn⟩ : ∃ k, t.kids[m]? = some k := ⟨t.kids[m]'(by omega), by simp [show m < t.kids.length by omega]⟩
        have hkm := List.mem_of_getElem? hkn
        have hkno := Tr.nodesL_mem hkm
        have hkne : t.kids ≠ [] := by intro e; rw [e] at hkn; simp at hkn
        have hkok : (sortOfF g k).isSome = true := by
          simp only [fitS, hsy, hnt, decide_false, Bool.false_or, getD_map, hkn] at hfp
          cases hs : sortOfF g k with
          | none => simp [hs] at hfp
          | some s => rfl
        have hgd : (t.kids.map (rtextF g)).getD m [] = rtextF g k := by rw [getD_map, hkn]; rfl
        rw [hnt, hgd] at hst
        have hkl := rtextF_le g k
        simp -implicitDefEqProofs [lp0_ref14_text, hlt, hpi, encP, hbig, hsy, hnp, hkn, encT_eq k]
        refine callk (rtext_c g k ha hl hpl (by omega) hkok) (by simp [encT_eq k, encG]) rfl ?_
        simp -implicitDefEqProofs
        refine appkL (cur.map sv) ((rtextF g k).map sv) h (by simp [apd_sl]) (by simp [apdK]) (by simp) (len_tok (by simp; omega)) ?_
        simp -implicitDefEqProofs
        rw [IntWalk.i64_in ((i : Int) + 1) (by omega)]
        exact ⟨le_of (by simp [dslot, hst, apd_sl]), by rw [hst]; simp⟩
    · simp -implicitDefEqProofs [lp0_ref14_text, hlt, hpi, encP, hbig]
      refine retD (by simp [deferred, dslot]) rfl ?_ ?_ rfl
      · have h1 := strip_gsl cur h.length
        simp only [gsl] at h1
        rw [h1]; exact inb_seen _ _
      · have h1 := strip_gsl cur h.length
        simp only [gsl] at h1
        rw [h1, hsp, hstop (by omega)]
  · intro _
    simp -implicitDefEqProofs [lp0_ref14_text]
    refine retD (by simp [deferred, dslot]) rfl ?_ ?_ rfl
    · have h1 := strip_gsl (rtParts r.parts (t.kids.map (rtextF g)) []) h.length
      simp only [gsl] at h1
      rw [h1]; exact inb_seen _ _
    · have h1 := strip_gsl (rtParts r.parts (t.kids.map (rtextF g)) []) h.length
      simp only [gsl] at h1
      rw [h1, hsp]
termination_by t.nodes
decreasing_by
  have := Tr.nodesL_mem hkm
  omega
end Go.Apx
