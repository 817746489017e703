/- Walks: rules that are valid. -/
import Derived.Test.YtchbhhgnkcaegaaE7
namespace Go.Apx
open Go.Proofs
set_option linter.unusedVariables false
set_option linter.unusedSimpArgs false
set_option linter.unnecessarySimpa false
set_option maxRecDepth 4000

/-! ## functions as arguments -/
theorem indexP_c (l : List Pt) (c : Cap) (fid : FuncId) (a b : List AV) (p : Pt → Bool) (hl : l.length ≤ 2 ^ 31) {h : AHeap} (hf : ∀ e ∈ l, AEx PP Gl fid (a ++ [encP e] ++ b) h (.ret (.sc (.bool (p e)))) h) :
    AEx PP Gl 63 [.sl 3 (l.map encP) c, .fn (.func fid) a b] h (.ret (i64 (placeF p l))) h := by
  refine enter_slices_IndexFunc_grammar_Part_grammar_Part (by simp) ?_
  simp [code_slices_IndexFunc_grammar_Part_grammar_Part, res_slices_IndexFunc_grammar_Part_grammar_Part, ann_slices_IndexFunc_grammar_Part_grammar_Part]
  refine AWp.cnt l.length [0, 1, 7] (fun i => [(8, i64 i)]) (fun _ => h) (fun i => ∀ y ∈ l.take i, p y = false) mixed (by simp) (le_of (by simp [dslot])) rfl ?_ ?_
  · intro i hi hz
    obtain ⟨k, hki⟩ : ∃ k, l[i]? = some k := ⟨l[i], by simp [hi]⟩
    have hlt : (i : Int) < l.length := by omega
    have hne : l ≠ [] := by intro e; rw [e] at hi; simp at hi
    simp [lp0_slices_IndexFunc_grammar_Part_grammar_Part, hlt, hki, encP]
    refine callk (hf k (List.mem_of_getElem? hki)) (by simp [encP]) rfl ?_
    generalize hb : p k = bk
    cases bk with
    | true =>
      simp
      exact retE (by simp [deferred, dslot]) rfl (by simp [placeF_some hki hb hz]) rfl
    | false =>
      simp
      rw [IntWalk.i64_in ((i : Int) + 1) (by omega)]
      exact ⟨by simpa using take_ext hki (q := fun y => p y = false) hz hb, le_of (by simp [dslot])⟩
  · intro hz
    simp [lp0_slices_IndexFunc_grammar_Part_grammar_Part]
    exact retE (by simp [deferred, dslot]) rfl (by simp [placeF_none (take_all hz)]) rfl
theorem placeF_any {α : Type} (p : α → Bool) (l : List α) : decide (0 ≤ placeF p l) = l.any p := by
  unfold placeF
  cases hf : l.findIdx? p with
  | none =>
    have : l.any p = false := by
      rw [List.any_eq_false]
      intro x hx
      simp [List.findIdx?_eq_none_iff.1 hf x hx]
    simp [this]
  | some i =>
    obtain ⟨h1, h2, _⟩ := List.findIdx?_eq_some_iff_getElem.1 hf
    have : l.any p = true := by
      rw [List.any_eq_true]
      exact ⟨_, List.getElem_mem h1, h2⟩
    simp [this]
theorem anyP_c (l : List Pt) (c : Cap) (fid : FuncId) (a b : List AV) (p : Pt → Bool) (hl : l.length ≤ 2 ^ 31) {h : AHeap} (hf : ∀ e ∈ l, AEx PP Gl fid (a ++ [encP e] ++ b) h (.ret (.sc (.bool (p e)))) h) :
    AEx PP Gl 58 [.sl 3 (l.map encP) c, .fn (.func fid) a b] h (.ret (.sc (.bool (l.any p)))) h := by
  refine enter_slices_ContainsFunc_grammar_Part_grammar_Part (by simp) ?_
  simp [code_slices_ContainsFunc_grammar_Part_grammar_Part, res_slices_ContainsFunc_grammar_Part_grammar_Part, ann_slices_ContainsFunc_grammar_Part_grammar_Part]
  refine callk (indexP_c l c fid a b p hl hf) rfl rfl ?_
  simp
  exact retE (by simp [deferred, dslot]) rfl (by rw [← placeF_any]) rfl
theorem indexR_c (l : List Rl) (c : Cap) (fid : FuncId) (a b : List AV) (p : Rl → Bool) (hl : l.length ≤ 2 ^ 31) {h : AHeap} (hf : ∀ e ∈ l, AEx PP Gl fid (a ++ [encR e] ++ b) h (.ret (.sc (.bool (p e)))) h) :
    AEx PP Gl 57 [.sl 4 (l.map encR) c, .fn (.func fid) a b] h (.ret (i64 (placeF p l))) h := by
  refine enter_slices_IndexFunc_grammar_Rule_grammar_Rule (by simp) ?_
  simp [code_slices_IndexFunc_grammar_Rule_grammar_Rule, res_slices_IndexFunc_grammar_Rule_grammar_Rule, ann_slices_IndexFunc_grammar_Rule_grammar_Rule]
  refine AWp.cnt l.length [0, 1, 7] (fun i => [(8, i64 i)]) (fun _ => h) (fun i => ∀ y ∈ l.take i, p y = false) mixed (by simp) (le_of (by simp [dslot])) rfl ?_ ?_
  · intro i hi hz
    obtain ⟨k, hki⟩ : ∃ k, l[i]? = some k := ⟨l[i], by simp [hi]⟩
    have hlt : (i : Int) < l.length := by omega
    have hne : l ≠ [] := by intro e; rw [e] at hi; simp at hi
    simp [lp0_slices_IndexFunc_grammar_Rule_grammar_Rule, hlt, hki, encR]
    refine callk (hf k (List.mem_of_getElem? hki)) (by simp [encR]) rfl ?_
    generalize hb : p k = bk
    cases bk with
    | true =>
      simp
      exact retE (by simp [deferred, dslot]) rfl (by simp [placeF_some hki hb hz]) rfl
    | false =>
      simp
      rw [IntWalk.i64_in ((i : Int) + 1) (by omega)]
      exact ⟨by simpa using take_ext hki (q := fun y => p y = false) hz hb, le_of (by simp [dslot])⟩
  · intro hz
    simp [lp0_slices_IndexFunc_grammar_Rule_grammar_Rule]
    exact retE (by simp [deferred, dslot]) rfl (by simp [placeF_none (take_all hz)]) rfl
theorem anyR_c (l : List Rl) (c : Cap) (fid : FuncId) (a b : List AV) (p : Rl → Bool) (hl : l.length ≤ 2 ^ 31) {h : AHeap} (hf : ∀ e ∈ l, AEx PP Gl fid (a ++ [encR e] ++ b) h (.ret (.sc (.bool (p e)))) h) :
    AEx PP Gl 45 [.sl 4 (l.map encR) c, .fn (.func fid) a b] h (.ret (.sc (.bool (l.any p)))) h := by
  refine enter_slices_ContainsFunc_grammar_Rule_grammar_Rule (by simp) ?_
  simp [code_slices_ContainsFunc_grammar_Rule_grammar_Rule, res_slices_ContainsFunc_grammar_Rule_grammar_Rule, ann_slices_ContainsFunc_grammar_Rule_grammar_Rule]
  refine callk (indexR_c l c fid a b p hl hf) rfl rfl ?_
  simp
  exact retE (by simp [deferred, dslot]) rfl (by rw [← placeF_any]) rfl

theorem long_c (r : Rl) {h : AHeap} : AEx PP Gl 44 [encR r] h (.ret (.sc (.bool (longF r)))) h := by
  refine enter_grammar_Check_1 (by simp) ?_
  simp [code_grammar_Check_1, res_grammar_Check_1, ann_grammar_Check_1, encR]
  exact retE (by simp [deferred, dslot]) rfl (by simp [longF]) rfl
theorem notPart_c (g : Gr) (p : Pt) (hs : g.sorts.length ≤ 2 ^ 31) {h : AHeap} : AEx PP Gl 59 [encP p, .ip (encG g)] h (.ret (.sc (.bool (!partF g p)))) h := by
  refine enter_grammar_Rule_valid_1 (by simp) ?_
  simp [code_grammar_Rule_valid_1, res_grammar_Rule_valid_1, ann_grammar_Rule_valid_1, encP, encG]
  refine callk (part_c g p hs) (by simp [encP, encG]) rfl ?_
  simp
  exact retE (by simp [deferred, dslot]) rfl (by simp) rfl

/-! ## a rule -/
/-- The list of arguments that grows in the heap: its slice and its object, at the place o. -/
def argV (l : List Int) (o : Nat) : AV := if l = [] then .sl 0 [] .nil else .rf o (l.length - 1) 0 l.length (.own 1)
def argH (l : List Int) : AHeap := if l = [] then [] else [.cells (l.length - 1) (l.map i64)]
@[simp] theorem isPend_argV (l : List Int) (o : Nat) : (argV l o).isPend = false := by unfold argV; split <;> rfl
@[simp] theorem one_argV (l : List Int) (o : Nat) : (argV l o).one = true := by unfold argV; split <;> rfl
@[simp] theorem cells_argV (l : List Int) (o : Nat) : (argV l o).cells = [argV l o] := by unfold argV; split <;> rfl
def validH (h : AHeap) (l : List Int) (E : Env) (X : LoopX) (st : LoopState) : AHeap := h ++ ([.cells 0 [argV l (h.length + 3)], .queue, .loop E X st none] ++ argH l)

theorem validRound (r : Rl) (g : Gr) (l : List Int) (p : Pt) (E : Env) (X : LoopX) {h : AHeap} (hl : l.length ≤ 2 ^ 31) (hX : XOk ⟨PP, Gl, 62, ann_grammar_Rule_valid, 0, none⟩ [29] ra0_grammar_Rule_valid rb0_grammar_Rule_valid X)
    (e5 : E.get 5 = some (.ptr h.length 0 0)) (ed : E.get dslot = none) :
    AYields PP Gl (h.length + 2) [encP p] (validH h l E X .ready) (fun e h' => e = .ret (.sc (.bool true)) ∧ h' = validH h (l ++ [p.arg]) E X .ready) := by
  refine ayields_of_code (C := ⟨PP, Gl, 62, ann_grammar_Rule_valid, (validH h l E X .ready).length, some (h.length + 2)⟩) (env := E) (X := X) (st := .ready) (pd := none) (ps := [29]) (by simp [validH]) hX rfl ed rfl rfl (codeWp_sound mixed ?_)
  cases l with
  | nil =>
    simp [ra0_grammar_Rule_valid, beginP, validH, encP, argV, argH]
    refine codeWp_sound mixed ?_
    have hm : 1 ≤ maxLenA := len_tok (by omega)
    simp [rb0_grammar_Rule_valid, e5, roundP, evW, hm]
  | cons a l =>
    simp [ra0_grammar_Rule_valid, beginP, validH, encP, argV, argH]
    refine codeWp_sound mixed ?_
    have hm : l.length + 1 + 1 ≤ maxLenA := len_tok (by simp at hl; omega)
    simp [rb0_grammar_Rule_valid, e5, roundP, evW, hm]

theorem sort0_c {h : AHeap} : AEx PP Gl 62 [.sl 0 [] .nil] h (.ret (.tup [])) h :=
  KOk.at (KOk.interp (k := ⟨62, [.sl 0 [] .nil], [], .tup [], []⟩) (K := []) mixed (findT_ok tbl_ok) (by simp) 20 (by kernel_rfl)) rfl rfl

def pruleF (g : Gr) (r : Rl) : Bool := okName r.label && hasF g.sorts r.sort && r.parts.all (partF g) && placedF (sortF (argL r.parts)) && lastF r
theorem prule_eq (g : Gr) (r : Rl) : pruleF g r = rruleF g r := by simp [pruleF, rruleF, placed_once]

theorem rule_c (g : Gr) (r : Rl) (hs : g.sorts.length ≤ 2 ^ 31) (hp : r.parts.length ≤ 12) {h : AHeap} : AEx PP Gl 47 [encR r, encG g] h (.ret (.sc (.bool (rruleF g r)))) h := by
  rw [← prule_eq]
  refine enter_grammar_Rule_valid (by simp) ?_
  simp -implicitDefEqProofs [code_grammar_Rule_valid, res_grammar_Rule_valid, ann_grammar_Rule_valid, encR, encG]
  refine callk (name_c r.label) rfl rfl ?_
  generalize hb1 : okName r.label = b1
  cases b1 with
  | false => simp; exact retE (by simp [deferred, dslot]) rfl (by simp [pruleF, hb1]) rfl
  | true =>
  simp
  refine callk (contains_c g.sorts g.sc r.sort hs) rfl rfl ?_
  generalize hb2 : hasF g.sorts r.sort = b2
  cases b2 with
  | false => simp; exact retE (by simp [deferred, dslot]) rfl (by simp [pruleF, hb2]) rfl
  | true =>
  simp
  refine callk (anyP_c r.parts r.cap 59 [] [.ip (encG g)] (fun p => !partF g p) (by omega) (fun e he => by simpa using notPart_c g e hs)) (by simp [encG]) rfl ?_
  generalize hb3 : r.parts.any (fun p => !partF g p) = b3
  cases b3 with
  | true =>
    simp
    refine retE (by simp [deferred, dslot]) rfl ?_ rfl
    have : r.parts.all (partF g) = false := by
      rw [List.any_eq_true] at hb3
      obtain ⟨x, hx, hx2⟩ := hb3
      rw [List.all_eq_false]
      exact ⟨x, hx, by simpa using hx2⟩
    simp [pruleF, this]
  | false =>
  have hall : r.parts.all (partF g) = true := by
    rw [List.all_eq_true]
    intro x hx
    rw [List.any_eq_false] at hb3
    simpa using hb3 x hx
  simp
  refine callk (arguments_c r) (by simp [encR]) rfl ?_
  simp
  refine AWp.keep [2, 5, 28] (le_of (by simp [dslot])) ?_
  simp
  refine AWp.rangeF (gf := 64) (fa := []) (fb := [.ip (encR r)]) (dl := []) rfl (by simp) (by simp [noPend]) (by simp [deferred, dslot]) ?_
  intro X hX
  simp [dslot]
  have hpre : ∀ i, (argL r.parts).take (argsF (r.parts.take i)) = argL (r.parts.take i) := fun i => by
    have e : argL r.parts = argL (r.parts.take i) ++ argL (r.parts.drop i) := by
      rw [argL, argL, argL, ← List.map_append, ← List.filter_append, List.take_append_drop]
    rw [e, ← argL_length, List.take_left]
  have hal : (argL r.parts).length ≤ 12 := by rw [argL_length]; have := argsF_le r.parts; omega
  generalize hE : ([(2, (AV.agg [AV.sc (Value.string r.label), AV.sc (Value.string r.sort), AV.sl 3 (List.map encP r.parts) r.cap, AV.sc (Value.bool r.var)]).ip), (5, AV.ptr (List.length h) 0 0), (28, AV.fn (Fn.func 64) [] [(encR r).ip])] : Env) = E
  have hcall := arguments1_c r (h.length + 2) (fun j => validH h ((argL r.parts).take j) E X .ready) (by omega) (fun i => by simp [isLoop, validH]) (fun i p hi hs2 => ?_)
  rotate_left
  · have := validRound r g ((argL r.parts).take (argsF (r.parts.take i))) p E X (h := h) (by rw [List.length_take]; omega) hX (by subst hE; simp) (by subst hE; simp [dslot])
    have e2 : (argL r.parts).take (argsF (r.parts.take i)) ++ [p.arg] = (argL r.parts).take (argsF (r.parts.take i) + 1) := by
      have h1 := hpre i
      have h2 := hpre (i + 1)
      rw [argsF_take hi, if_neg hs2, argL_take hi, if_neg hs2] at h2
      rw [h1, h2]
    rw [e2] at this
    exact this
  have hheap : validH h ((argL r.parts).take 0) E X .ready = h ++ [.cells 0 [.sl 0 [] .nil], .queue, .loop E X .ready none] := by simp [validH, argV, argH]
  simp only [hheap] at hcall
  refine ⟨_, hcall, ?_⟩
  intro r' h' hrr
  obtain ⟨rfl, rfl⟩ := hrr
  have hfull : (argL r.parts).take (argsF r.parts) = argL r.parts := by rw [← argL_length, List.take_length]
  rw [hfull]
  have e1 : h.length + 1 + 1 = h.length + 2 := rfl
  subst hE
  have hres : pruleF g r = (placedF (sortF (argL r.parts)) && lastF r) := by simp [pruleF, hb1, hb2, hall]
  have hnn := argL_length r.parts
  generalize hL : argL r.parts = L at *
  cases L with
  | nil =>
    have hn0 : argsF r.parts = 0 := by simpa using hnn.symm
    have hs0 : placedF (sortF []) = true := by rw [placed_iff]; rfl
    simp -implicitDefEqProofs [rangeEnd, validH, argV, argH, e1]
    refine callk sort0_c rfl rfl ?_
    simp -implicitDefEqProofs
    refine AWp.cnt 0 [2, 5, 37, 38, 1000000] (fun i => [(39, i64 i)]) (fun _ => h ++ [.cells 0 [.sl 0 [] .nil], .queue, .dead]) (fun _ => True) mixed trivial (le_of (by simp [dslot])) rfl (fun i hi => by omega) ?_
    intro _
    generalize hv : r.var = v
    cases v with
    | false =>
      simp -implicitDefEqProofs [lp0_grammar_Rule_valid]
      refine retDefer [.it (h.length + 1)] (by simp [deferred, dslot]) (leaveIt (by simp [isQueue]) ?_)
      simp
      exact leaveD (v := .sc (.bool true)) (by simp [evalRes, evalRes1]) (by simp [AV.strip, AV.inb]) (by simp [AV.strip, hres, hs0, lastF, hv]) rfl
    | true =>
      by_cases hl1 : r.parts.length = 1
      · simp -implicitDefEqProofs [lp0_grammar_Rule_valid, hl1]
        refine retDefer [.it (h.length + 1)] (by simp [deferred, dslot]) (leaveIt (by simp [isQueue]) ?_)
        simp
        exact leaveD (v := .sc (.bool true)) (by simp [evalRes, evalRes1]) (by simp [AV.strip, AV.inb]) (by simp [AV.strip, hres, hs0, lastF, hv, hl1, hn0]) rfl
      · have hl1' : ¬ (r.parts.length : Int) = 1 := by omega
        simp -implicitDefEqProofs [lp0_grammar_Rule_valid, hl1, hl1']
        refine retDefer [.it (h.length + 1)] (by simp [deferred, dslot]) (leaveIt (by simp [isQueue]) ?_)
        simp
        exact leaveD (v := .sc (.bool false)) (by simp [evalRes, evalRes1]) (by simp [AV.strip, AV.inb]) (by simp [AV.strip, hres, hs0, lastF, hv, hl1]) rfl
  | cons a l =>
    simp -implicitDefEqProofs [rangeEnd, validH, argV, argH, e1]
    refine callk (sort_c (a :: l) (h.length + 3) l.length (.own 1) hal (by simp)) (by simp) rfl ?_
    have hSl : (sortF (a :: l)).length = l.length + 1 := by simp
    have hll : l.length + 1 ≤ 12 := by simpa using hal
    have hn0 : ¬ argsF r.parts = 0 := by rw [← hnn]; simp
    generalize hS : sortF (a :: l) = S at *
    simp -implicitDefEqProofs
    refine AWp.cnt (l.length + 1) [2, 5, 37, 38, 1000000] (fun i => [(39, i64 i)]) (fun _ => h ++ [.cells 0 [.rf (h.length + 3) l.length 0 (l.length + 1) (.own 1)], .queue, .dead, .cells l.length (S.map i64)]) (fun i => ∀ j x, j < i → S[j]? = some x → x = (j : Int)) mixed (by simp) (le_of (by simp [dslot])) (by simp) ?_ ?_
    · intro i hi hz
      obtain ⟨x, hx⟩ : ∃ x, S[i]? = some x := ⟨S[i]'(by omega), by simp [show i < S.length by omega]⟩
      have hlt : (i : Int) < (l.length : Int) + 1 := by omega
      have hi' : i < l.length + 1 := hi
      simp -implicitDefEqProofs [lp0_grammar_Rule_valid, hlt, hi', hx]
      refine ⟨fun hxi => ?_, fun hxi => ?_⟩
      · rw [IntWalk.i64_in ((i : Int) + 1) (by omega)]
        refine ⟨fun j y hj hy => ?_, le_of (by simp [dslot])⟩
        by_cases e : j = i
        · subst e; rw [hx] at hy; cases hy; exact hxi
        · exact hz j y (by omega) hy
      · refine retDefer [.it (h.length + 1)] (by simp [deferred, dslot]) (leaveIt (by simp [isQueue]) ?_)
        simp
        have : placedF S = false := allIdx_false hx (by simpa using hxi)
        exact leaveD (v := .sc (.bool false)) (by simp [evalRes, evalRes1]) (by simp [AV.strip, AV.inb]) (by simp [AV.strip, hres, this]) rfl
    · intro hz
      have hpl : placedF S = true := allIdx_true fun i x hx => by simpa using hz i x (by have := (List.getElem?_eq_some_iff.1 hx).1; omega) hx
      have hnl : ¬ (l.length : Int) + 1 = 0 := by omega
      generalize hv : r.var = v
      cases v with
      | false =>
        simp -implicitDefEqProofs [lp0_grammar_Rule_valid]
        refine retDefer [.it (h.length + 1)] (by simp [deferred, dslot]) (leaveIt (by simp [isQueue]) ?_)
        simp
        exact leaveD (v := .sc (.bool true)) (by simp [evalRes, evalRes1]) (by simp [AV.strip, AV.inb]) (by simp [AV.strip, hres, hpl, lastF, hv]) rfl
      | true =>
        by_cases hl1 : r.parts.length = 1
        · simp -implicitDefEqProofs [lp0_grammar_Rule_valid, hl1, hnl]
          refine retDefer [.it (h.length + 1)] (by simp [deferred, dslot]) (leaveIt (by simp [isQueue]) ?_)
          simp
          exact leaveD (v := .sc (.bool false)) (by simp [evalRes, evalRes1]) (by simp [AV.strip, AV.inb]) (by simp [AV.strip, hres, hpl, lastF, hv, hl1, hn0]) rfl
        · have hl1' : ¬ (r.parts.length : Int) = 1 := by omega
          simp -implicitDefEqProofs [lp0_grammar_Rule_valid, hl1, hl1']
          refine retDefer [.it (h.length + 1)] (by simp [deferred, dslot]) (leaveIt (by simp [isQueue]) ?_)
          simp
          exact leaveD (v := .sc (.bool false)) (by simp [evalRes, evalRes1]) (by simp [AV.strip, AV.inb]) (by simp [AV.strip, hres, hpl, lastF, hv, hl1]) rfl
end Go.Apx
