/- Walks: meanings, check. -/
import Derived.Test.YtbijnfhclfimeaaDoorM1
namespace Go.Apx
open Go.Proofs
set_option linter.unusedVariables false
set_option linter.unusedSimpArgs false
set_option linter.unnecessarySimpa false
set_option maxRecDepth 4000

structure Role where
  label : ByteArray
  m : Int
def encRole (r : Role) : AV := .agg [.sc (.string r.label), .sc (.int .i64 r.m)]
abbrev Means := List (ByteArray × Int)
def sget (m : Means) (s : ByteArray) : Int := (sfind m s).getD 0

def meaningsF : List Role → Means → Option Means
  | [], m => some m
  | r :: rs, m => if r.label = ⟨#[]⟩ ∨ sget m r.label ≠ 0 ∨ r.m < 1 ∨ 9 < r.m then none else meaningsF rs (sset m r.label r.m)
def meansUpto (l : List Role) (i : Nat) : Means := (l.take i).foldl (fun m r => sset m r.label r.m) []
theorem meansUpto_succ {l : List Role} {i : Nat} {r : Role} (h : l[i]? = some r) : meansUpto l (i + 1) = sset (meansUpto l i) r.label r.m := by
  simp [meansUpto, List.take_add_one, h]
theorem drop_get {α : Type} {l : List α} {i : Nat} {r : α} (h : l[i]? = some r) : l.drop i = r :: l.drop (i + 1) := by
  obtain ⟨h1, h2⟩ := List.getElem?_eq_some_iff.1 h
  rw [List.drop_eq_getElem_cons h1, h2]

/-- The heap behind 'meanings'. -/
def meansH (o : Option Means) : AHeap := match o with | none => [] | some m => [.amap (smap iv m)]
def meansR (o : Option Means) (n : Nat) : AV := match o with | none => .tup [.sc (.map none), bool false] | some m => .tup [.mp n, bool true]

@[simp] theorem sget_eq (m : Means) (s : ByteArray) : (sfind m s).getD 0 = sget m s := rfl
theorem meansBad {l : List Role} {h : AHeap} {m : Means} {env : Env} (hn : meaningsF l [] = none) (hd : deferred env = some []) (hv : evalRes Gl env (h ++ [.amap (smap iv m)]) res_modal_meanings = some (.tup [.sc (.map none), bool false])) :
    retPost PP Gl h [.t 2, .t 3] (fun r h' => r = .ret (meansR (meaningsF l []) h.length) ∧ h' = h ++ meansH (meaningsF l [])) .ret env (h ++ [.amap (smap iv m)]) :=
  retD hd hv (by simp [AV.strip, stripL, AV.inb, inbL]) (by simp [hn, meansR, AV.strip, stripL]) (by simp [hn, meansH])

theorem meanings_c (l : List Role) (c : Cap) (hl : l.length < 2 ^ 40) {h : AHeap} :
    AEx PP Gl 52 [.sl 2 (l.map encRole) c] h (.ret (meansR (meaningsF l []) h.length)) (h ++ meansH (meaningsF l [])) := by
  refine enter_modal_meanings (by simp) ?_
  simp [code_modal_meanings, res_modal_meanings, ann_modal_meanings]
  refine AWp.cnt l.length [4, 8, 9] (fun i => [(10, i64 i)]) (fun i => h ++ [.amap (smap iv (meansUpto l i))]) (fun i => meaningsF l [] = meaningsF (l.drop i) (meansUpto l i)) mixed (by simp [meansUpto]) (le_of (by simp [dslot])) (by simp [meansUpto]) ?_ ?_
  · intro i hi hz
    obtain ⟨r, hr⟩ : ∃ r, l[i]? = some r := ⟨l[i], by simp [hi]⟩
    have hlt : (i : Int) < l.length := by omega
    rw [drop_get hr] at hz
    have hz' : meaningsF l [] = if r.label = ⟨#[]⟩ ∨ sget (meansUpto l i) r.label ≠ 0 ∨ r.m < 1 ∨ 9 < r.m then none else meaningsF (l.drop (i + 1)) (sset (meansUpto l i) r.label r.m) := hz
    have hbad : r.label = ⟨#[]⟩ ∨ sget (meansUpto l i) r.label ≠ 0 ∨ r.m < 1 ∨ 9 < r.m → meaningsF l [] = none := fun h => by rw [hz', if_pos h]
    have enc : encRole r = .agg [.sc (.string r.label), .sc (.int .i64 r.m)] := rfl
    by_cases c1 : r.label = ⟨#[]⟩
    · simp [lp0_modal_meanings, hlt, hr, enc, c1]
      exact meansBad (hbad (by simp [c1])) (by simp [deferred, dslot]) (by simp [res_modal_meanings, evalRes, evalRes1])
    by_cases c2 : sget (meansUpto l i) r.label = 0
    rotate_left
    · simp [lp0_modal_meanings, hlt, hr, enc, c1, c2]
      exact meansBad (hbad (by simp [c2])) (by simp [deferred, dslot]) (by simp [res_modal_meanings, evalRes, evalRes1])
    by_cases c3 : r.m < 1
    · simp [lp0_modal_meanings, hlt, hr, enc, c1, c2, c3]
      exact meansBad (hbad (by simp [c3])) (by simp [deferred, dslot]) (by simp [res_modal_meanings, evalRes, evalRes1])
    by_cases c4 : 9 < r.m
    · simp [lp0_modal_meanings, hlt, hr, enc, c1, c2, c3, c4]
      exact meansBad (hbad (by simp [c4])) (by simp [deferred, dslot]) (by simp [res_modal_meanings, evalRes, evalRes1])
    simp [lp0_modal_meanings, hlt, hr, enc, c1, c2, c3, c4]
    rw [IntWalk.i64_in ((i : Int) + 1) (by omega)]
    refine ⟨?_, le_of (by simp [dslot]), by simp [meansUpto_succ hr]⟩
    rw [hz', if_neg (by simp [c1, c2, c3, c4]), meansUpto_succ hr]
  · intro hz
    have : meaningsF l [] = some (meansUpto l l.length) := by rw [hz]; simp [meaningsF]
    simp [lp0_modal_meanings]
    refine retE (by simp [deferred, dslot]) rfl ?_ ?_
    · simp [lp0_modal_meanings, this, meansR]
    · simp [lp0_modal_meanings, this, meansH]

/-- The errors ahead of all. -/
def startedF (sees : List U) (l : List Role) : Option Means × Int :=
  if rightF sees = false then (none, 371) else match meaningsF l [] with | none => (none, 370) | some m => (some m, 0)
def startedR (p : Option Means × Int) (n : Nat) : AV := .tup [match p.1 with | none => .sc (.map none) | some _ => .mp n, i64 p.2]

theorem started_c (sees : List U) (c : Cap) (l : List Role) (c' : Cap) (hl : l.length < 2 ^ 40) (hs : sees.length < 2 ^ 40) {h : AHeap} :
    AEx PP Gl 32 [.agg [.sl 1 (sees.map u64) c], .sl 2 (l.map encRole) c'] h (.ret (startedR (startedF sees l) h.length)) (h ++ meansH (startedF sees l).1) := by
  refine enter_modal_started (by simp) ?_
  simp [code_modal_started, res_modal_started, ann_modal_started]
  refine callk (right_c sees c hs) (by simp) rfl ?_
  simp
  refine ⟨fun hr => ?_, fun hr => ?_⟩
  rotate_left
  · refine retE (by simp [deferred, dslot]) rfl ?_ ?_
    · simp [startedF, startedR, hr, evalRes1]
    · simp [startedF, hr, meansH]
  refine callk (meanings_c l c' hl) rfl rfl ?_
  have hr' : rightF sees = true := by simpa using hr
  cases hm : meaningsF l [] with
  | none =>
    simp [meansR]
    refine retE (by simp [deferred, dslot]) rfl ?_ ?_
    · simp [startedF, startedR, hr', hm, evalRes1]
    · simp [startedF, hr', hm, meansH]
  | some m =>
    simp [meansR]
    refine retE (by simp [deferred, dslot]) rfl ?_ ?_
    · simp [startedF, startedR, hr', hm, evalRes1]
    · simp [startedF, hr', hm, meansH]

def kidsN (m : Int) : Int := if m = 1 ∨ m = 8 ∨ m = 9 then 1 else if m = 3 ∨ m = 4 ∨ m = 2 ∨ m = 5 then 2 else 0
theorem kidsN_c (m : Int) {h : AHeap} : AEx PP Gl 56 [.sc (.int .i64 m)] h (.ret (i64 (kidsN m))) h := by
  refine enter_modal_kids (by simp) ?_
  by_cases c1 : m = 1
  · simp [code_modal_kids, res_modal_kids, ann_modal_kids, c1]
    exact retE (by simp [deferred, dslot]) rfl (by simp [kidsN]) rfl
  by_cases c2 : m = 8
  · simp [code_modal_kids, res_modal_kids, ann_modal_kids, c2]
    exact retE (by simp [deferred, dslot]) rfl (by simp [kidsN]) rfl
  by_cases c3 : m = 9
  · simp [code_modal_kids, res_modal_kids, ann_modal_kids, c3]
    exact retE (by simp [deferred, dslot]) rfl (by simp [kidsN]) rfl
  by_cases c4 : m = 3
  · simp [code_modal_kids, res_modal_kids, ann_modal_kids, c4]
    exact retE (by simp [deferred, dslot]) rfl (by simp [kidsN]) rfl
  by_cases c5 : m = 4
  · simp [code_modal_kids, res_modal_kids, ann_modal_kids, c5]
    exact retE (by simp [deferred, dslot]) rfl (by simp [kidsN]) rfl
  by_cases c6 : m = 2
  · simp [code_modal_kids, res_modal_kids, ann_modal_kids, c6]
    exact retE (by simp [deferred, dslot]) rfl (by simp [kidsN]) rfl
  by_cases c7 : m = 5
  · simp [code_modal_kids, res_modal_kids, ann_modal_kids, c7]
    exact retE (by simp [deferred, dslot]) rfl (by simp [kidsN]) rfl
  simp [code_modal_kids, res_modal_kids, ann_modal_kids, c1, c2, c3, c4, c5, c6, c7]
  exact retE (by simp [deferred, dslot]) rfl (by simp [kidsN, c1, c2, c3, c4, c5, c6, c7]) rfl

/-! ## check -/
mutual
def formed (m : Means) : Tr → Bool
  | .node l ks _ => decide ((ks.length : Int) = kidsN (sget m l)) && formedL m ks
def formedL (m : Means) : List Tr → Bool
  | [] => true
  | t :: r => formed m t && formedL m r
end
theorem formed_eq (m : Means) (t : Tr) : formed m t = (decide ((t.kids.length : Int) = kidsN (sget m t.label)) && formedL m t.kids) := by cases t; rfl
theorem formedL_all (m : Means) : ∀ l, formedL m l = l.all (formed m)
  | [] => rfl
  | t :: r => by simp [formedL, formedL_all m r]
theorem formedL_get {m : Means} {l : List Tr} {i : Nat} {k : Tr} (h : l[i]? = some k) : formedL m (l.take (i + 1)) = (formedL m (l.take i) && formed m k) := by
  simp only [formedL_all, take_succ_of h, List.all_append]; simp

def wrongV : AV := .ifc 109 (.agg [])
def visitV (o v : Nat) : AV := .fn (.func 55) [] [.ip (.mp o), .ptr v 0 0]

theorem visit_c (m : Means) (o v : Nat) (t : Tr) {h : AHeap} (hn : t.nodes ≤ 2 ^ 40) (ho : h[o]? = some (.amap (smap iv m))) (hv : h[v]? = some (.cells 0 [visitV o v])) :
    AEx PP Gl 55 [encT t, .ip (.mp o), .ptr v 0 0] h (if formed m t then .ret (.tup []) else .pan wrongV) h := by
  have hlen := Tr.length_le t.kids
  have hne := Tr.nodes_eq t
  refine enter_modal_check_2 (by simp) ?_
  simp [code_modal_check_2, res_modal_check_2, ann_modal_check_2, encT_eq t, ho]
  refine callk (kidsN_c _) rfl rfl ?_
  simp
  refine ⟨fun hk => ?_, fun hk => ?_⟩
  rotate_left
  · refine panE (by simp [deferred, dslot]) ?_ rfl
    have : formed m t = false := by rw [formed_eq]; simp [hk]
    simp [this, wrongV]
  refine AWp.cnt t.kids.length [2, 18, 19] (fun i => [(20, i64 i)]) (fun i => h) (fun i => formedL m (t.kids.take i) = true) mixed (by simp [formedL]) (le_of (by simp [dslot])) rfl ?_ ?_
  · intro i hi hz
    obtain ⟨k, hki⟩ : ∃ k, t.kids[i]? = some k := ⟨t.kids[i], by simp [hi]⟩
    have hlt : (i : Int) < t.kids.length := by omega
    have hne0 : t.kids ≠ [] := by intro e; rw [e] at hi; simp at hi
    have h1 := Tr.nodes_get hki
    have h2 := Tr.nodesL_take t.kids (i + 1)
    simp [lp0_modal_check_2, hlt, hki, encT_eq k, hv, visitV]
    refine callk (visit_c m o v k (by omega) ho hv) (by simp [encT_eq k]) rfl ?_
    by_cases hf : formed m k = true
    · simp [lp0_modal_check_2, hf]
      rw [IntWalk.i64_in ((i : Int) + 1) (by omega)]
      exact ⟨by rw [formedL_get hki, hz, hf]; rfl, le_of (by simp [dslot])⟩
    · simp [lp0_modal_check_2, hf]
      refine panE (by simp [deferred, dslot]) ?_ rfl
      have : formed m t = false := by
        rw [formed_eq, formedL_all]
        have : t.kids.all (formed m) = false := by
          rw [List.all_eq_false]
          exact ⟨k, List.mem_of_getElem? hki, hf⟩
        simp [lp0_modal_check_2, this]
      simp [lp0_modal_check_2, this]
  · intro hz
    simp [lp0_modal_check_2]
    refine retE (by simp [deferred, dslot]) rfl ?_ rfl
    have : formed m t = true := by
      rw [formed_eq, formedL_all]
      have : t.kids.all (formed m) = true := by rw [← formedL_all]; simpa using hz
      simp [lp0_modal_check_2, this, hk]
    simp [lp0_modal_check_2, this]
termination_by SizeOf.sizeOf t
decreasing_by exact Tr.sizeOf_kids hki
end Go.Apx
