/- Walks: the speller: its rules; trees that are formed. -/
import Derived.Test.YtchbhhgnkcaegaaE9
namespace Go.Apx
open Go.Proofs
set_option linter.unusedVariables false
set_option linter.unusedSimpArgs false
set_option linter.unnecessarySimpa false
set_option maxRecDepth 4000

/-! ## rules by their labels -/
def ruleAt (g : Gr) (s : ByteArray) : Option Rl := g.rules.find? fun r => decide (r.label = s)
def numF : List Rl → Nat → List (ByteArray × Int)
  | [], _ => []
  | r :: l, j => (r.label, (j : Int)) :: numF l (j + 1)
theorem numF_append (a b : List Rl) (j : Nat) : numF (a ++ b) j = numF a j ++ numF b (j + a.length) := by
  induction a generalizing j with
  | nil => rfl
  | cons r a ih => simp only [List.cons_append, numF, ih, List.length_cons]; rw [show j + 1 + a.length = j + (a.length + 1) by omega]
theorem numF_find (l : List Rl) (j : Nat) (s : ByteArray) : sfind (numF l j) s = (l.findIdx? fun r => decide (r.label = s)).map fun i => ((j + i : Nat) : Int) := by
  induction l generalizing j with
  | nil => rfl
  | cons r l ih =>
    simp only [numF, sfind, List.findIdx?_cons, ih]
    by_cases e : s = r.label
    · simp [e]
    · have e' : ¬ r.label = s := fun h => e h.symm
      simp only [if_neg e, e', decide_false, Bool.false_eq_true, if_false, Option.map_map]
      congr 1
      funext i
      simp only [Function.comp]
      congr 1
      omega
theorem find_of_idx {α : Type} {p : α → Bool} {l : List α} : l.find? p = (l.findIdx? p).bind fun i => l[i]? := by
  induction l with
  | nil => rfl
  | cons x l ih =>
    simp only [List.find?_cons, List.findIdx?_cons]
    cases hp : p x with
    | true => simp
    | false => simp [ih, Option.bind_map, Function.comp_def]

def zeroR : AV := .agg [.sc (.string ⟨#[]⟩), .sc (.string ⟨#[]⟩), .sl 0 [] .nil, .sc (.bool false)]
def ruleV (o : Option Rl) : AV := match o with
  | some r => encR r
  | none => zeroR
/-- The speller's object and its map. -/
def SpOk (g : Gr) (o om : Nat) (h : AHeap) : Prop := h[o]? = some (.cells 0 [.sl 1 (g.sorts.map sv) g.sc, .sl 4 (g.rules.map encR) g.rc, .mp om]) ∧ h[om]? = some (.amap (smap iv (numF g.rules 0)))
theorem SpOk.app {g : Gr} {o om : Nat} {h x : AHeap} (hs : SpOk g o om h) : SpOk g o om (h ++ x) := by
  obtain ⟨h1, h2⟩ := hs
  exact ⟨by rw [List.getElem?_append_left (List.getElem?_eq_some_iff.1 h1).1]; exact h1, by rw [List.getElem?_append_left (List.getElem?_eq_some_iff.1 h2).1]; exact h2⟩
/-- No name of room. -/
def Rl.plain (r : Rl) : Prop := r.cap.strip = r.cap
theorem strip_parts (l : List Pt) : stripL (l.map encP) = l.map encP := by
  induction l with
  | nil => rfl
  | cons p l ih => simp only [List.map_cons, stripL, ih]; rfl
theorem inb_parts (n : Nat) (l : List Pt) : inbL n (l.map encP) = true := by
  induction l with
  | nil => rfl
  | cons p l ih => simp only [List.map_cons, inbL, ih, Bool.and_true]; rfl
theorem cap_inb {c : Cap} (h : c.strip = c) (n : Nat) : c.inb n = true := by cases c <;> first | rfl | cases h
theorem strip_encR {r : Rl} (h : r.plain) : (encR r).strip = encR r := by
  unfold Rl.plain at h
  simp only [encR, AV.strip, stripL, strip_parts, h]
theorem inb_encR {r : Rl} (h : r.plain) (n : Nat) : (encR r).inb n = true := by
  simp [encR, AV.inb, inbL, inb_parts, cap_inb h]

theorem rule_at_c (g : Gr) (o om : Nat) (s : ByteArray) {h : AHeap} (hs : SpOk g o om h) (hp : ∀ r ∈ g.rules, r.plain) (hl : g.rules.length ≤ 2 ^ 31) :
    AEx PP Gl 19 [.ptr o 0 0, .sc (.string s)] h (.ret (.tup [ruleV (ruleAt g s), .sc (.bool (ruleAt g s).isSome)])) h := by
  obtain ⟨h1, h2⟩ := hs
  have ho := (List.getElem?_eq_some_iff.1 h1).1
  have hom := (List.getElem?_eq_some_iff.1 h2).1
  have ho1 : ∀ x, (h ++ x)[o]? = some (.cells 0 [.sl 1 (g.sorts.map sv) g.sc, .sl 4 (g.rules.map encR) g.rc, .mp om]) := fun x => by rw [List.getElem?_append_left ho, h1]
  have hom1 : ∀ x, (h ++ x)[om]? = some (.amap (smap iv (numF g.rules 0))) := fun x => by rw [List.getElem?_append_left hom, h2]
  have hfi := find_of_idx (p := fun r => decide (r.label = s)) (l := g.rules)
  have hfn := numF_find g.rules 0 s
  refine enter_earley_speller_rule (by simp) ?_
  cases hix : g.rules.findIdx? (fun r => decide (r.label = s)) with
  | none =>
    rw [hix] at hfi hfn
    have hra : ruleAt g s = none := hfi
    simp at hfn
    simp [code_earley_speller_rule, res_earley_speller_rule, ann_earley_speller_rule, ho1, hom1, hfn]
    exact retD (by simp [deferred, dslot]) (by simp [evalRes, evalRes1]; rfl) (by simp [AV.strip, stripL, AV.inb, inbL, Cap.strip, Cap.inb]) (by simp [AV.strip, stripL, Cap.strip, hra, ruleV, zeroR]) rfl
  | some i =>
    obtain ⟨hi, _, _⟩ := List.findIdx?_eq_some_iff_getElem.1 hix
    have hget : g.rules[i]? = some g.rules[i] := List.getElem?_eq_getElem hi
    rw [hix] at hfi hfn
    generalize hk : g.rules[i] = k at hget
    have hra : ruleAt g s = some k := by
      show g.rules.find? _ = _
      rw [hfi]; simpa using hget
    have hkm : k ∈ g.rules := List.mem_of_getElem? hget
    have hne : g.rules ≠ [] := by intro e; rw [e] at hi; simp at hi
    simp at hfn
    have hstr := strip_encR (hp k hkm)
    have hinb := inb_encR (hp k hkm) h.length
    rw [encR] at hstr hinb
    simp [code_earley_speller_rule, res_earley_speller_rule, ann_earley_speller_rule, ho1, hom1, hfn, hget, encR]
    refine retD (by simp [deferred, dslot]) (by simp [evalRes, evalRes1]; rfl) ?_ ?_ rfl
    · simp only [AV.strip, stripL] at hstr ⊢
      simp only [AV.inb, inbL, Bool.and_true] at hinb ⊢
      simp only [AV.agg.injEq, List.cons.injEq, AV.sl.injEq, true_and, and_true] at hstr
      rw [hstr.1, hstr.2]; exact hinb
    · simp only [AV.strip, stripL] at hstr ⊢
      rw [hstr, hra]; rfl

/-! ## formed -/
/-- Does a part of a rule find its kid? 'fs': which kids are formed. -/
def partFit (g : Gr) (ks : List Tr) (fs : List Bool) (p : Pt) : Bool := decide (p.sort = ⟨#[]⟩) || (match ks[p.arg.toNat]? with
  | none => false
  | some k => (match ruleAt g k.label with | some kr => decide (kr.sort = p.sort) | none => false) && fs.getD p.arg.toNat false)
def formR (g : Gr) (o : Option Rl) (ks : List Tr) (fs : List Bool) : Bool := match o with
  | none => false
  | some r => r.parts.all (partFit g ks fs) && decide (argsF r.parts = ks.length)
mutual
def formedF (g : Gr) : Tr → Bool
  | .node l ks _ => formR g (ruleAt g l) ks (formedL g ks)
def formedL (g : Gr) : List Tr → List Bool
  | [] => []
  | t :: r => formedF g t :: formedL g r
end
theorem formedL_map (g : Gr) : ∀ l, formedL g l = l.map (formedF g)
  | [] => rfl
  | t :: r => by simp [formedL, formedL_map g r]
theorem formedF_eq (g : Gr) (t : Tr) : formedF g t = formR g (ruleAt g t.label) t.kids (t.kids.map (formedF g)) := by
  cases t; simp [formedF, formedL_map, Tr.label, Tr.kids]

/-- The rules' arguments are places. -/
def ArgOk (g : Gr) : Prop := ∀ r ∈ g.rules, ∀ p ∈ r.parts, p.sort ≠ ⟨#[]⟩ → 0 ≤ p.arg ∧ p.arg < argsF r.parts

theorem ruleAt_mem {g : Gr} {s : ByteArray} {r : Rl} (h : ruleAt g s = some r) : r ∈ g.rules ∧ r.label = s := by
  have h1 := List.mem_of_find?_eq_some h
  have h2 := List.find?_some h
  exact ⟨h1, by simpa using h2⟩

set_option maxHeartbeats 2000000 in
theorem formed_c (g : Gr) (o om : Nat) (t : Tr) {h : AHeap} (hs : SpOk g o om h) (hp : ∀ r ∈ g.rules, r.plain) (ha : ArgOk g) (hl : g.rules.length ≤ 2 ^ 31) (hpl : ∀ r ∈ g.rules, r.parts.length ≤ 2 ^ 31) (hn : t.nodes ≤ 2 ^ 31) :
    AEx PP Gl 30 [.ptr o 0 0, encT t] h (.ret (.sc (.bool (formedF g t)))) h := by
  have hnn := Tr.nodes_eq t
  have hlen := Tr.length_le t.kids
  have hfe := formedF_eq g t
  refine enter_earley_speller_formed (by simp) ?_
  simp -implicitDefEqProofs [code_earley_speller_formed, res_earley_speller_formed, ann_earley_speller_formed, encT_eq t]
  refine callk (rule_at_c g o om t.label hs hp hl) rfl rfl ?_
  cases hra : ruleAt g t.label with
  | none =>
    rw [hra] at hfe
    simp -implicitDefEqProofs [ruleV, zeroR]
    exact retE (by simp [deferred, dslot]) rfl (by simp [hfe, formR]) rfl
  | some r =>
    rw [hra] at hfe
    obtain ⟨hrm, hrl⟩ := ruleAt_mem hra
    have har := ha r hrm
    have hrp := hpl r hrm
    simp -implicitDefEqProofs [ruleV, encR]
    refine AWp.cnt r.parts.length [0, 3, 22, 23] (fun i => [(7, i64 (argsF (r.parts.take i))), (24, i64 i)]) (fun _ => h) (fun i => ∀ y ∈ r.parts.take i, partFit g t.kids (t.kids.map (formedF g)) y = true) mixed (by simp) (le_of (by simp [dslot, argsF])) rfl ?_ ?_
    · intro i hi hz
      obtain ⟨p, hpi⟩ : ∃ k, r.parts[i]? = some k := ⟨r.parts[i], by simp [hi]⟩
      have hlt : (i : Int) < r.parts.length := by omega
      have hne : r.parts ≠ [] := by intro e; rw [e] at hi; simp at hi
      have hpm := List.mem_of_getElem? hpi
      have h2 := argsF_le (r.parts.take i)
      simp at h2
      have hbad : partFit g t.kids (t.kids.map (formedF g)) p = false → formedF g t = false := fun hb => by
        rw [hfe]
        have : r.parts.all (partFit g t.kids (t.kids.map (formedF g))) = false := by
          rw [List.all_eq_false]; exact ⟨p, hpm, by simp [hb]⟩
        simp [formR, this]
      by_cases hse : p.sort = ⟨#[]⟩
      · simp -implicitDefEqProofs [lp0_earley_speller_formed, hlt, hpi, encP, hse]
        rw [IntWalk.i64_in ((i : Int) + 1) (by omega)]
        exact ⟨by simpa using take_ext hpi (q := fun y => partFit g t.kids (t.kids.map (formedF g)) y = true) hz (by simp [partFit, hse]), le_of (by simp [dslot, argsF_take hpi, hse])⟩
      · obtain ⟨ha1, ha2⟩ := har p hpm hse
        obtain ⟨n, hnp⟩ : ∃ n : Nat, p.arg = n := ⟨p.arg.toNat, by omega⟩
        have hnt : p.arg.toNat = n := by omega
        cases hkn : t.kids[n]? with
        | none =>
          have hge : (t.kids.length : Int) ≤ n := by have := List.getElem?_eq_none_iff.1 hkn; omega
          simp -implicitDefEqProofs [lp0_earley_speller_formed, hlt, hpi, encP, hse, hnp, hge]
          exact retE (by simp [deferred, dslot]) rfl (by rw [hbad (by simp [partFit, hse, hnt, hkn])]) rfl
        | some k =>
          have hnl := (List.getElem?_eq_some_iff.1 hkn).1
          have hnlt : ¬ (t.kids.length : Int) ≤ n := by omega
          have hkm := List.mem_of_getElem? hkn
          have hkno := Tr.nodesL_mem hkm
          have hkne : t.kids ≠ [] := by intro e; rw [e] at hnl; simp at hnl
          simp -implicitDefEqProofs [lp0_earley_speller_formed, hlt, hpi, encP, hse, hnp, hnlt, hkn, encT_eq k]
          refine callk (rule_at_c g o om k.label hs hp hl) rfl rfl ?_
          cases hrk : ruleAt g k.label with
          | none =>
            simp -implicitDefEqProofs [ruleV, zeroR]
            exact retE (by simp [deferred, dslot]) rfl (by rw [hbad (by simp [partFit, hse, hnt, hkn, hrk])]) rfl
          | some kr =>
            by_cases hsk : kr.sort = p.sort
            · simp -implicitDefEqProofs [ruleV, encR, hsk, hkn, encT_eq k]
              refine callk (formed_c g o om k hs hp ha hl hpl (by omega)) (by simp [encT_eq k]) rfl ?_
              have hfit : partFit g t.kids (t.kids.map (formedF g)) p = formedF g k := by simp [partFit, hse, hnt, hkn, hrk, hsk]
              generalize hbf : formedF g k = bf at hfit
              cases bf with
              | false =>
                simp
                exact retE (by simp [deferred, dslot]) rfl (by rw [hbad hfit]) rfl
              | true =>
                simp
                rw [IntWalk.i64_in ((i : Int) + 1) (by omega), IntWalk.i64_in ((argsF (r.parts.take i) : Int) + 1) (by omega)]
                exact ⟨by simpa using take_ext hpi (q := fun y => partFit g t.kids (t.kids.map (formedF g)) y = true) hz hfit, le_of (by simp [dslot, argsF_take hpi, hse])⟩
            · simp -implicitDefEqProofs [ruleV, encR, hsk]
              exact retE (by simp [deferred, dslot]) rfl (by rw [hbad (by simp [partFit, hse, hnt, hkn, hrk, hsk])]) rfl
    · intro hz
      have hall : r.parts.all (partFit g t.kids (t.kids.map (formedF g))) = true := by rw [List.all_eq_true]; exact take_all hz
      simp -implicitDefEqProofs [lp0_earley_speller_formed]
      exact retE (by simp [deferred, dslot]) rfl (by simp [hfe, formR, hall]; omega) rfl
termination_by t.nodes
decreasing_by
  have := Tr.nodesL_mem hkm
  omega
end Go.Apx
