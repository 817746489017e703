/- Walks: variables, what a meaning does, holds. -/
import Derived.Test.YtbijnfhclfimeaaDoorM3
namespace Go.Apx
open Go.Proofs
set_option linter.unusedVariables false
set_option linter.unusedSimpArgs false
set_option linter.unnecessarySimpa false
set_option maxRecDepth 4000

/-- The variables of trees. -/
def varsF (m : Means) (l : List Tr) : List ByteArray := visitL m l []
/-- What 'variables' hands back. -/
theorem variables_c (m : Means) (om : Nat) (ts : List Tr) (c : Cap) {h : AHeap} (hn : Tr.nodesL ts ≤ 2 ^ 31) (ho : h[om]? = some (.amap (smap iv m))) :
    AEx PP Gl 43 [.mp om, .sl 2 (ts.map encT) c] h (.ret (grown 1 ((varsF m ts).map sv))) h := by
  have hom : om < h.length := (List.getElem?_eq_some_iff.1 ho).1
  have hlen := Tr.length_le ts
  refine enter_modal_variables (by simp) ?_
  simp [code_modal_variables, res_modal_variables, ann_modal_variables]
  refine AWp.cnt ts.length [5, 7, 12, 13] (fun i => [(14, i64 i)]) (fun i => h ++ varsH h.length om (visitL m (ts.take i) [])) (fun _ => True) mixed trivial (le_of (by simp [dslot])) (by simp [varsH, visitL, metOf]) ?_ ?_
  · intro i hi _
    obtain ⟨k, hki⟩ : ∃ k, ts[i]? = some k := ⟨ts[i], by simp [hi]⟩
    have hlt : (i : Int) < ts.length := by omega
    have hne0 : ts ≠ [] := by intro e; rw [e] at hi; simp at hi
    have h1 := Tr.nodes_get hki
    have h2 := Tr.nodesL_take ts (i + 1)
    have h3 := visitL_len m (ts.take i) []
    simp [lp0_modal_variables, hlt, hki, encT_eq k, varsH]
    refine callk (visitV_c m om k (visitL m (ts.take i) []) (by simp at h3; omega) ho) (by simp [encT_eq k]) (by simp [varsH]) ?_
    simp
    rw [IntWalk.i64_in ((i : Int) + 1) (by omega)]
    exact ⟨le_of (by simp [dslot]), by simp [visitL_get m hki, varsH]⟩
  · intro _
    cases hv : varsF m ts with
    | nil =>
      have hv' : visitL m ts [] = [] := hv
      simp [lp0_modal_variables, varsH, hv']
      exact retD (by simp [deferred, dslot]) rfl (by simp [AV.strip, stripL, AV.inb, inbL, Cap.strip, Cap.inb]) (by simp [AV.strip, stripL, Cap.strip, grown]) rfl
    | cons x xs =>
      have hv' : visitL m ts [] = x :: xs := hv
      simp [lp0_modal_variables, varsH, hv']
      have hs : ∀ l : List ByteArray, stripL (l.map sv) = l.map sv := fun l => by induction l with | nil => rfl | cons a l ih => simp [stripL, AV.strip, ih]
      have hb : ∀ (n : Nat) (l : List ByteArray), inbL n (l.map sv) = true := fun n l => by induction l with | nil => rfl | cons a l ih => simp [inbL, AV.inb, ih]
      exact retD (by simp [deferred, dslot]) rfl (by simp [AV.strip, stripL, AV.inb, inbL, Cap.strip, Cap.inb, hs, hb]) (by simp [AV.strip, stripL, Cap.strip, grown, hs]) rfl

/-! ## places -/
def plc (S : List U) (c : Cap) (om ov : Nat) : AV := .agg [.sl 1 (S.map u64) c, .mp om, .mp ov]

def bitsF (p : U → Bool) : List U → Nat → U → U
  | [], _, out => out
  | s :: r, w, out => bitsF p r (w + 1) (if p s = true then out ||| (1#64 <<< w) else out)
theorem bitsF_append (p : U → Bool) (a b : List U) (w : Nat) (out : U) : bitsF p (a ++ b) w out = bitsF p b (w + a.length) (bitsF p a w out) := by
  induction a generalizing w out with
  | nil => rfl
  | cons x a ih => simp only [List.cons_append, bitsF, ih, List.length_cons]; congr 1; omega
theorem bitsF_get (p : U → Bool) {l : List U} {i : Nat} {s : U} (h : l[i]? = some s) : bitsF p (l.take (i + 1)) 0 0#64 = if p s = true then bitsF p (l.take i) 0 0#64 ||| (1#64 <<< i) else bitsF p (l.take i) 0 0#64 := by
  have hi := (List.getElem?_eq_some_iff.1 h).1
  rw [take_succ_of h, bitsF_append]
  simp [bitsF, List.length_take, Nat.min_eq_left (Nat.le_of_lt hi)]

def boxF (S : List U) (a : U) : U := bitsF (fun s => decide (s &&& ~~~ a = 0#64)) S 0 0#64
def diaF (S : List U) (a : U) : U := bitsF (fun s => !decide (s &&& a = 0#64)) S 0 0#64

section
variable (S : List U) (c c' : Cap) (om ov : Nat) (r : List AV) (a b : U) {h : AHeap}
theorem place_not_c : AEx PP Gl 75 [plc S c om ov, .sl 1 (u64 a :: r) c'] h (.ret (u64 (full S.length &&& ~~~ a))) h := by
  refine enter_modal_place_not (by simp) ?_
  simp [code_modal_place_not, res_modal_place_not, ann_modal_place_not, plc]
  refine callk worlds_c rfl rfl ?_
  simp
  exact retE (by simp [deferred, dslot]) rfl (by simp) rfl
theorem place_implies_c : AEx PP Gl 76 [plc S c om ov, .sl 1 (u64 a :: u64 b :: r) c'] h (.ret (u64 ((full S.length &&& ~~~ a) ||| b))) h := by
  refine enter_modal_place_implies (by simp) ?_
  simp [code_modal_place_implies, res_modal_place_implies, ann_modal_place_implies, plc]
  refine callk (place_not_c S c c' om ov (u64 b :: r) a) (by simp [plc]) rfl ?_
  simp
  exact retE (by simp [deferred, dslot]) rfl (by simp) rfl
theorem place_and_c : AEx PP Gl 77 [plc S c om ov, .sl 1 (u64 a :: u64 b :: r) c'] h (.ret (u64 (a &&& b))) h := by
  refine enter_modal_place_and (by simp) ?_
  simp [code_modal_place_and, res_modal_place_and, ann_modal_place_and, plc]
  exact retE (by simp [deferred, dslot]) rfl (by simp) rfl
theorem place_or_c : AEx PP Gl 78 [plc S c om ov, .sl 1 (u64 a :: u64 b :: r) c'] h (.ret (u64 (a ||| b))) h := by
  refine enter_modal_place_or (by simp) ?_
  simp [code_modal_place_or, res_modal_place_or, ann_modal_place_or, plc]
  exact retE (by simp [deferred, dslot]) rfl (by simp) rfl
theorem place_iff_c : AEx PP Gl 79 [plc S c om ov, .sl 1 (u64 a :: u64 b :: r) c'] h (.ret (u64 (full S.length &&& ~~~ (a ^^^ b)))) h := by
  refine enter_modal_place_iff (by simp) ?_
  simp [code_modal_place_iff, res_modal_place_iff, ann_modal_place_iff, plc]
  refine callk worlds_c rfl rfl ?_
  simp
  exact retE (by simp [deferred, dslot]) rfl (by simp) rfl
theorem place_all_c (k : Nat) : AEx PP Gl 80 [plc S c om ov, .sl k r c'] h (.ret (u64 (full S.length))) h := by
  refine enter_modal_place_all (by simp) ?_
  simp [code_modal_place_all, res_modal_place_all, ann_modal_place_all, plc]
  refine callk worlds_c rfl rfl ?_
  simp
  exact retE (by simp [deferred, dslot]) rfl (by simp) rfl
theorem place_none_c (k : Nat) : AEx PP Gl 81 [plc S c om ov, .sl k r c'] h (.ret (u64 0#64)) h := by
  refine enter_modal_place_none (by simp) ?_
  simp [code_modal_place_none, res_modal_place_none, ann_modal_place_none, plc]
  exact retE (by simp [deferred, dslot]) rfl (by simp) rfl
theorem place_box_c (hS : S.length < 2 ^ 40) : AEx PP Gl 82 [plc S c om ov, .sl 1 (u64 a :: r) c'] h (.ret (u64 (boxF S a))) h := by
  refine enter_modal_place_box (by simp) ?_
  simp [code_modal_place_box, res_modal_place_box, ann_modal_place_box, plc]
  refine AWp.cnt S.length [1, 10, 11] (fun i => [(5, u64 (boxF (S.take i) a)), (12, i64 i)]) (fun _ => h) (fun _ => True) mixed trivial (le_of (by simp [dslot, boxF, bitsF])) rfl ?_ ?_
  · intro i hi _
    obtain ⟨s, hs⟩ : ∃ s, S[i]? = some s := ⟨S[i], by simp [hi]⟩
    have hlt : (i : Int) < S.length := by omega
    have hg := bitsF_get (fun s => decide (s &&& ~~~ a = 0#64)) hs
    simp [lp0_modal_place_box, hlt, hs]
    rw [IntWalk.i64_in ((i : Int) + 1) (by omega)]
    refine ⟨fun hz => le_of ?_, fun hz => le_of ?_⟩
    · simp [dslot]; simp [boxF, hg, hz]
    · simp [dslot]; simp [boxF, hg, hz]
  · intro _
    simp [lp0_modal_place_box]
    exact retE (by simp [deferred, dslot]) rfl (by simp) rfl
theorem place_diamond_c (hS : S.length < 2 ^ 40) : AEx PP Gl 83 [plc S c om ov, .sl 1 (u64 a :: r) c'] h (.ret (u64 (diaF S a))) h := by
  refine enter_modal_place_diamond (by simp) ?_
  simp [code_modal_place_diamond, res_modal_place_diamond, ann_modal_place_diamond, plc]
  refine AWp.cnt S.length [1, 10, 11] (fun i => [(5, u64 (diaF (S.take i) a)), (12, i64 i)]) (fun _ => h) (fun _ => True) mixed trivial (le_of (by simp [dslot, diaF, bitsF])) rfl ?_ ?_
  · intro i hi _
    obtain ⟨s, hs⟩ : ∃ s, S[i]? = some s := ⟨S[i], by simp [hi]⟩
    have hlt : (i : Int) < S.length := by omega
    have hg := bitsF_get (fun s => !decide (s &&& a = 0#64)) hs
    simp [lp0_modal_place_diamond, hlt, hs]
    rw [IntWalk.i64_in ((i : Int) + 1) (by omega)]
    refine ⟨fun hz => le_of ?_, fun hz => le_of ?_⟩
    · simp [dslot]; simp [diaF, hg, hz]
    · simp [dslot]; simp [diaF, hg, hz]
  · intro _
    simp [lp0_modal_place_diamond]
    exact retE (by simp [deferred, dslot]) rfl (by simp) rfl
end

/-- Which function stands for a meaning. -/
def meanId (n : Int) : FuncId := if n = 1 then 75 else if n = 2 then 76 else if n = 3 then 77 else if n = 4 then 78 else if n = 5 then 79 else
  if n = 6 then 80 else if n = 7 then 81 else if n = 8 then 82 else 83
theorem meaning_c (n : Int) {h : AHeap} : AEx PP Gl 66 [.sc (.int .i64 n)] h (.ret (.fn (.func (meanId n)) [] [])) h := by
  refine enter_modal_meaning (by simp) ?_
  by_cases c1 : n = 1
  · simp [code_modal_meaning, res_modal_meaning, ann_modal_meaning, c1]
    exact retE (by simp [deferred, dslot]) rfl (by simp [meanId]) rfl
  by_cases c2 : n = 2
  · simp [code_modal_meaning, res_modal_meaning, ann_modal_meaning, c2]
    exact retE (by simp [deferred, dslot]) rfl (by simp [meanId]) rfl
  by_cases c3 : n = 3
  · simp [code_modal_meaning, res_modal_meaning, ann_modal_meaning, c3]
    exact retE (by simp [deferred, dslot]) rfl (by simp [meanId]) rfl
  by_cases c4 : n = 4
  · simp [code_modal_meaning, res_modal_meaning, ann_modal_meaning, c4]
    exact retE (by simp [deferred, dslot]) rfl (by simp [meanId]) rfl
  by_cases c5 : n = 5
  · simp [code_modal_meaning, res_modal_meaning, ann_modal_meaning, c5]
    exact retE (by simp [deferred, dslot]) rfl (by simp [meanId]) rfl
  by_cases c6 : n = 6
  · simp [code_modal_meaning, res_modal_meaning, ann_modal_meaning, c6]
    exact retE (by simp [deferred, dslot]) rfl (by simp [meanId]) rfl
  by_cases c7 : n = 7
  · simp [code_modal_meaning, res_modal_meaning, ann_modal_meaning, c7]
    exact retE (by simp [deferred, dslot]) rfl (by simp [meanId]) rfl
  by_cases c8 : n = 8
  · simp [code_modal_meaning, res_modal_meaning, ann_modal_meaning, c8]
    exact retE (by simp [deferred, dslot]) rfl (by simp [meanId]) rfl
  simp [code_modal_meaning, res_modal_meaning, ann_modal_meaning, c1, c2, c3, c4, c5, c6, c7, c8]
  exact retE (by simp [deferred, dslot]) rfl (by simp [meanId, c1, c2, c3, c4, c5, c6, c7, c8]) rfl

def meanF (S : List U) (n : Int) (l : List U) : U :=
  let a := l.getD 0 0#64
  let b := l.getD 1 0#64
  if n = 1 then full S.length &&& ~~~ a else if n = 2 then (full S.length &&& ~~~ a) ||| b else if n = 3 then a &&& b else if n = 4 then a ||| b else if n = 5 then full S.length &&& ~~~ (a ^^^ b) else
  if n = 6 then full S.length else if n = 7 then 0#64 else if n = 8 then boxF S a else diaF S a

theorem mean_c (S : List U) (c : Cap) (om ov : Nat) (n : Int) (l : List U) (t : Nat) {h : AHeap} (hS : S.length < 2 ^ 40) (hn : 1 ≤ n ∧ n ≤ 9) (hl : (l.length : Int) = kidsN n) :
    AEx PP Gl (meanId n) [plc S c om ov, apd 1 (l.map uv) t] h (.ret (u64 (meanF S n l))) h := by
  have hcase : n = 1 ∨ n = 2 ∨ n = 3 ∨ n = 4 ∨ n = 5 ∨ n = 6 ∨ n = 7 ∨ n = 8 ∨ n = 9 := by omega
  rcases l with _ | ⟨a, _ | ⟨b, _ | ⟨d, r⟩⟩⟩
  · rcases hcase with rfl | rfl | rfl | rfl | rfl | rfl | rfl | rfl | rfl
    all_goals first | (exfalso; simp [kidsN] at hl; done) | skip
    · exact place_all_c S c .nil om ov [] 0
    · exact place_none_c S c .nil om ov [] 0
  · rcases hcase with rfl | rfl | rfl | rfl | rfl | rfl | rfl | rfl | rfl
    all_goals first | (exfalso; simp [kidsN] at hl; done) | skip
    · exact place_not_c S c (.tok t) om ov [] a
    · exact place_box_c S c (.tok t) om ov [] a hS
    · exact place_diamond_c S c (.tok t) om ov [] a hS
  · rcases hcase with rfl | rfl | rfl | rfl | rfl | rfl | rfl | rfl | rfl
    all_goals first | (exfalso; simp [kidsN] at hl; done) | skip
    · exact place_implies_c S c (.tok t) om ov [] a b
    · exact place_and_c S c (.tok t) om ov [] a b
    · exact place_or_c S c (.tok t) om ov [] a b
    · exact place_iff_c S c (.tok t) om ov [] a b
  · exfalso
    have : kidsN n ≤ 2 := by rcases hcase with rfl | rfl | rfl | rfl | rfl | rfl | rfl | rfl | rfl <;> decide
    simp at hl; omega

/-! ## holds -/
mutual
def holdsF (S : List U) (m : Means) (V : List (ByteArray × U)) : Tr → U
  | .node l ks _ => if sget m l = 0 then (sfind V l).getD 0#64 else meanF S (sget m l) (holdsL S m V ks)
def holdsL (S : List U) (m : Means) (V : List (ByteArray × U)) : List Tr → List U
  | [] => []
  | t :: r => holdsF S m V t :: holdsL S m V r
end
theorem holdsL_map (S : List U) (m : Means) (V : List (ByteArray × U)) : ∀ l, holdsL S m V l = l.map (holdsF S m V)
  | [] => rfl
  | t :: r => by simp [holdsL, holdsL_map S m V r]
theorem holdsF_eq (S : List U) (m : Means) (V : List (ByteArray × U)) (t : Tr) : holdsF S m V t = if sget m t.label = 0 then (sfind V t.label).getD 0#64 else meanF S (sget m t.label) (t.kids.map (holdsF S m V)) := by
  cases t; simp only [holdsF, holdsL_map, Tr.label, Tr.kids]; rfl

def okM (m : Means) : Prop := ∀ s, 0 ≤ sget m s ∧ sget m s ≤ 9

theorem holds_c (S : List U) (c : Cap) (m : Means) (V : List (ByteArray × U)) (om ov : Nat) (t : Tr) {h : AHeap} (hS : S.length < 2 ^ 40) (hm : okM m) (hn : t.nodes ≤ 2 ^ 31) (hf : formed m t = true)
    (ho : h[om]? = some (.amap (smap iv m))) (hv : h[ov]? = some (.amap (smap uv V))) :
    AEx PP Gl 44 [plc S c om ov, encT t] h (.ret (u64 (holdsF S m V t))) h := by
  have hom : om < h.length := (List.getElem?_eq_some_iff.1 ho).1
  have hov : ov < h.length := (List.getElem?_eq_some_iff.1 hv).1
  have ho1 : ∀ x, (h ++ x)[om]? = some (.amap (smap iv m)) := fun x => by rw [List.getElem?_append_left hom, ho]
  have hv1 : ∀ x, (h ++ x)[ov]? = some (.amap (smap uv V)) := fun x => by rw [List.getElem?_append_left hov, hv]
  have hlen := Tr.length_le t.kids
  have hne := Tr.nodes_eq t
  rw [formed_eq, Bool.and_eq_true, decide_eq_true_eq] at hf
  obtain ⟨hk, hfl⟩ := hf
  rw [formedL_all, List.all_eq_true] at hfl
  refine enter_modal_place_holds (by simp) ?_
  simp [code_modal_place_holds, res_modal_place_holds, ann_modal_place_holds, encT_eq t, plc, ho, hv]
  refine ⟨fun h0 => ?_, fun h0 => ?_⟩
  · exact retE (by simp [deferred, dslot]) rfl (by simp [holdsF_eq, h0]) rfl
  obtain ⟨A, hA⟩ : ∃ A : Nat → List U, ∀ i, A i = (t.kids.take i).map (holdsF S m V) := ⟨_, fun _ => rfl⟩
  have hA0 : A 0 = [] := by simp [hA]
  have hAn : A t.kids.length = t.kids.map (holdsF S m V) := by simp [hA]
  refine AWp.cnt t.kids.length [2, 5, 22, 23] (fun i => [(6, apd 1 ((A i).map uv) h.length), (24, i64 i)]) (fun i => h ++ apdH (A i).length) (fun _ => True) mixed trivial (le_of (by simp [dslot, hA0])) (by simp [hA0]) ?_ ?_
  · intro i hi _
    obtain ⟨k, hki⟩ : ∃ k, t.kids[i]? = some k := ⟨t.kids[i], by simp [hi]⟩
    have hlt : (i : Int) < t.kids.length := by omega
    have hne0 : t.kids ≠ [] := by intro e; rw [e] at hi; simp at hi
    have h1 := Tr.nodes_get hki
    have h2 := Tr.nodesL_take t.kids (i + 1)
    have hAl : (A i).length = i := by rw [hA]; simp; omega
    have hAs : A (i + 1) = A i ++ [holdsF S m V k] := by simp [hA, take_succ_of hki]
    simp [lp0_modal_place_holds, hlt, hki, encT_eq k]
    refine callk (holds_c S c m V om ov k hS hm (by omega) (hfl k (List.mem_of_getElem? hki)) (ho1 _) (hv1 _)) (by simp [encT_eq k, plc]) rfl ?_
    simp
    refine appk ((A i).map uv) (uv (holdsF S m V k)) h (by simp) (by simp) (by simp) (len_tok (by simp; omega)) ?_
    simp
    rw [IntWalk.i64_in ((i : Int) + 1) (by omega)]
    refine ⟨le_of (by simp [dslot, hAs]), by simp [hAs]⟩
  · intro _
    simp [lp0_modal_place_holds, hAn]
    refine callk (meaning_c _) rfl rfl ?_
    simp
    refine callk (mean_c S c om ov (sget m t.label) (t.kids.map (holdsF S m V)) h.length hS (by have := hm t.label; omega) (by simpa using hk)) (by simp [plc]) rfl ?_
    simp
    exact retD (by simp [deferred, dslot]) rfl (by simp [AV.strip, AV.inb]) (by simp [AV.strip, holdsF_eq, h0]) rfl
termination_by SizeOf.sizeOf t
decreasing_by exact Tr.sizeOf_kids hki
end Go.Apx
