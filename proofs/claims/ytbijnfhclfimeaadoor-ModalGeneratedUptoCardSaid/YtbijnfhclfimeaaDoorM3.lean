/- Walks: check, variables. -/
import Derived.Test.YtbijnfhclfimeaaDoorM2
namespace Go.Apx
open Go.Proofs
set_option linter.unusedVariables false
set_option linter.unusedSimpArgs false
set_option linter.unnecessarySimpa false
set_option maxRecDepth 4000

theorem rec_c (e : Nat) {h : AHeap} {x : Int} (he : h[e]? = some (.cells 0 [.sc (.int .i64 x)])) : ADefer PP Gl 54 [.ptr e 0 0] .ret h (fun md h' => md = .ret ∧ h' = h) := by
  refine adefer_of_code Tryd.func54 body_modal_check_1 comp_modal_check_1 resc_modal_check_1 (by simp) (by simp [dslot]) ?_
  simp [plainWp, recV]
  refine codeWp_sound mixed ?_
  simp
  simp [dPost, deferred, dslot, evalRes, res_modal_check_1]
theorem recP_c (e : Nat) {h : AHeap} {x : Int} (he : h[e]? = some (.cells 0 [.sc (.int .i64 x)])) : ADefer PP Gl 54 [.ptr e 0 0] (.pan wrongV) h (fun md h' => md = .recd wrongV ∧ h' = h.set e (.cells 0 [.sc (.int .i64 370)])) := by
  refine adefer_of_code Tryd.func54 body_modal_check_1 comp_modal_check_1 resc_modal_check_1 (by simp) (by simp [dslot]) ?_
  simp [plainWp, recV, wrongV]
  refine codeWp_sound mixed ?_
  simp [he]
  simp [dPost, deferred, dslot, evalRes, res_modal_check_1]

def checkF (m : Means) (t : Tr) : Int := if 4000 < t.nodes then 4 else if 100 < t.depth then 9 else if formed m t then 0 else 370

theorem check_c (m : Means) (o : Nat) (t : Tr) {h : AHeap} (hok : t.ok = true) (hn : t.nodes ≤ 2 ^ 40) (ho : h[o]? = some (.amap (smap iv m))) :
    AEx PP Gl 34 [.mp o, encT t] h (.ret (i64 (checkF m t))) h := by
  have ho' : o < h.length := (List.getElem?_eq_some_iff.1 ho).1
  refine enter_modal_check (by simp) ?_
  simp [code_modal_check, res_modal_check, ann_modal_check, encT_eq t]
  refine callk (size_c t hok hn) (by simp [encT_eq t]) rfl ?_
  simp
  refine ⟨fun h1 => ?_, fun h1 => ?_⟩
  · refine retD (v := i64 4) (by simp [deferred, dslot]) (evalRes_one (by simp [evalRes1])) (by simp [AV.strip, AV.inb]) ?_ rfl
    have : 4000 < t.nodes := by omega
    simp [checkF, this, AV.strip]
  have h1' : ¬ 4000 < t.nodes := by omega
  refine ⟨fun h2 => ?_, fun h2 => ?_⟩
  · refine retD (v := i64 9) (by simp [deferred, dslot]) (evalRes_one (by simp [evalRes1])) (by simp [AV.strip, AV.inb]) ?_ rfl
    have : 100 < t.depth := by omega
    simp [checkF, h1', this, AV.strip]
  have h2' : ¬ 100 < t.depth := by omega
  simp [deferred, dslot]
  refine callk (visit_c m o (h.length + 1) t hn (by rw [List.getElem?_append_left ho', ho]) (by simp [visitV])) (by simp [encT_eq t]) rfl ?_
  by_cases hf : formed m t = true
  · simp [hf]
    refine retDefer [.tup [.fn (.func 54) [] [.ptr h.length 0 0]]] (by simp [deferred, dslot]) ?_
    refine leaveCall (by simpa using rec_c h.length (x := 0) (by simp)) ?_
    refine leaveD (v := i64 0) (evalRes_one (by simp [evalRes1])) (by simp [AV.strip, AV.inb]) ?_ rfl
    simp [checkF, h1', h2', hf, AV.strip]
  · simp [hf]
    refine panDefer [.tup [.fn (.func 54) [] [.ptr h.length 0 0]]] (by simp [deferred, dslot]) ?_
    refine leaveCall (by simpa using recP_c h.length (x := 0) (by simp)) ?_
    simp
    refine leaveD (v := i64 370) (evalRes_one (by simp [evalRes1])) (by simp [AV.strip, AV.inb]) ?_ rfl
    simp [checkF, h1', h2', hf, AV.strip]

/-! ## variables -/
mutual
/-- The variables of a tree, behind some. -/
def visitT (m : Means) : Tr → List ByteArray → List ByteArray
  | .node l ks _, out => visitL m ks (if sget m l = 0 ∧ l ∉ out then out ++ [l] else out)
def visitL (m : Means) : List Tr → List ByteArray → List ByteArray
  | [], out => out
  | t :: r, out => visitL m r (visitT m t out)
end
theorem visitT_eq (m : Means) (t : Tr) (out : List ByteArray) : visitT m t out = visitL m t.kids (if sget m t.label = 0 ∧ t.label ∉ out then out ++ [t.label] else out) := by cases t; rfl
theorem visitL_get (m : Means) {l : List Tr} {i : Nat} {k : Tr} (h : l[i]? = some k) (out : List ByteArray) : visitL m (l.take (i + 1)) out = visitT m k (visitL m (l.take i) out) := by
  rw [take_succ_of h]
  generalize l.take i = a
  induction a generalizing out with
  | nil => rfl
  | cons x a ih => simp [visitL, ih]
mutual
theorem visitT_len (m : Means) : ∀ (t : Tr) (out : List ByteArray), (visitT m t out).length ≤ out.length + t.nodes
  | .node l ks _, out => by
    have := visitL_len m ks (if sget m l = 0 ∧ l ∉ out then out ++ [l] else out)
    simp only [visitT, Tr.nodes]
    split at this
    · rename_i h; rw [if_pos h]; simp at this; omega
    · rename_i h; rw [if_neg h]; omega
theorem visitL_len (m : Means) : ∀ (l : List Tr) (out : List ByteArray), (visitL m l out).length ≤ out.length + Tr.nodesL l
  | [], out => by simp [visitL]
  | t :: r, out => by
    have h1 := visitL_len m r (visitT m t out)
    have h2 := visitT_len m t out
    simp only [visitL, Tr.nodesL]; omega
end

/-- The map of what has been met. -/
def metOf (out : List ByteArray) : List (ByteArray × Bool) := out.map fun s => (s, true)
@[simp] theorem metOf_find (out : List ByteArray) (s : ByteArray) : sfind (metOf out) s = if s ∈ out then some true else none := by
  induction out with
  | nil => rfl
  | cons x out ih =>
    simp only [metOf, List.map_cons, sfind, List.mem_cons] at ih ⊢
    by_cases h : s = x
    · simp [h]
    · simp [h, ih]
theorem metOf_set (out : List ByteArray) (s : ByteArray) (h : s ∉ out) : sset (metOf out) s true = metOf (out ++ [s]) := by
  rw [sset_none _ _ _ (by simp [h])]
  simp [metOf]

/-- The objects of a search for variables. -/
def varsH (n om : Nat) (out : List ByteArray) : AHeap :=
  .cells 0 [apd 1 (out.map sv) (n + 3)] :: .amap (smap bv (metOf out)) :: .cells 0 [.fn (.func 65) [] [.ip (.mp om), .ip (.mp (n + 1)), .ptr n 0 0, .ptr (n + 2) 0 0]] :: apdH out.length

theorem visitV_c (m : Means) (om : Nat) (t : Tr) (out : List ByteArray) {h : AHeap} (hn : out.length + t.nodes ≤ 2 ^ 31) (ho : h[om]? = some (.amap (smap iv m))) :
    AEx PP Gl 65 [encT t, .ip (.mp om), .ip (.mp (h.length + 1)), .ptr h.length 0 0, .ptr (h.length + 2) 0 0] (h ++ varsH h.length om out) (.ret (.tup [])) (h ++ varsH h.length om (visitT m t out)) := by
  have hom : om < h.length := (List.getElem?_eq_some_iff.1 ho).1
  have ho1 : ∀ x, (h ++ x)[om]? = some (.amap (smap iv m)) := fun x => by rw [List.getElem?_append_left hom, ho]
  have hlen := Tr.length_le t.kids
  have hne := Tr.nodes_eq t
  refine enter_modal_variables_1 (by simp) ?_
  obtain ⟨out', ho'⟩ : ∃ out', out' = if sget m t.label = 0 ∧ t.label ∉ out then out ++ [t.label] else out := ⟨_, rfl⟩
  have hv : visitT m t out = visitL m t.kids out' := by rw [visitT_eq, ho']
  have ho'l : out'.length ≤ out.length + 1 := by rw [ho']; split <;> simp
  have fin : ∀ env h1, env.get 4 = some (.ptr (h.length + 2) 0 0) → env.get 29 = some (.sl 2 (t.kids.map encT) t.cap) → env.get 30 = some (i64 t.kids.length) → env.get 31 = some (i64 0) → env.get dslot = none → h1 = h ++ varsH h.length om out' →
      AWp ⟨PP, Gl, 39, [5, 7], (h ++ varsH h.length om out).length, none⟩ (.loop lp0_modal_variables_1) (blockP 0 (retPost PP Gl (h ++ varsH h.length om out) [] fun r h' => r = .ret (.tup []) ∧ h' = h ++ varsH h.length om (visitT m t out))) env h1 := by
    intro env h1 e4 e29 e30 e31 ed eh
    refine AWp.cnt t.kids.length [4, 29, 30] (fun i => [(31, i64 i)]) (fun i => h ++ varsH h.length om (visitL m (t.kids.take i) out')) (fun _ => True) mixed trivial (le_of (by simp [e4, e29, e30, e31]; simp [dslot]; exact ed.symm)) (by simp [eh, visitL]) ?_ ?_
    · intro i hi _
      obtain ⟨k, hki⟩ : ∃ k, t.kids[i]? = some k := ⟨t.kids[i], by simp [hi]⟩
      have hlt : (i : Int) < t.kids.length := by omega
      have hne0 : t.kids ≠ [] := by intro e; rw [e] at hi; simp at hi
      have h1 := Tr.nodes_get hki
      have h2 := Tr.nodesL_take t.kids (i + 1)
      have h3 := visitL_len m (t.kids.take i) out'
      simp [lp0_modal_variables_1, e4, e29, e30, hlt, hki, encT_eq k, varsH]
      refine callk (visitV_c m om k (visitL m (t.kids.take i) out') (by omega) ho) (by simp [encT_eq k]) (by simp [varsH]) ?_
      simp
      rw [IntWalk.i64_in ((i : Int) + 1) (by omega)]
      exact ⟨le_of (by simp [dslot]), by simp [visitL_get m hki, varsH]⟩
    · intro _
      simp [lp0_modal_variables_1, e4, e29, e30]
      exact retE (by simp [deferred, dslot]) rfl rfl (by simp [hv])
  by_cases c1 : sget m t.label = 0
  · by_cases c2 : t.label ∈ out
    · have hout : out' = out := by rw [ho', if_neg (by simp [c2])]
      simp [code_modal_variables_1, res_modal_variables_1, ann_modal_variables_1, encT_eq t, ho1, c1, c2, varsH]
      simpa [varsH] using fin _ _ (by simp) (by simp) (by simp) (by simp) (by simp [dslot]) (by simp [varsH, hout])
    · have hout : out' = out ++ [t.label] := by rw [ho', if_pos ⟨c1, c2⟩]
      cases out with
      | nil =>
        simp [code_modal_variables_1, res_modal_variables_1, ann_modal_variables_1, encT_eq t, ho1, c1, c2, varsH, len_tok, appW]
        simpa [varsH] using fin _ _ (by simp) (by simp) (by simp) (by simp) (by simp [dslot]) (by simp [varsH, hout]; rfl)
      | cons x out =>
        have hmx : out.length + 1 + 1 ≤ maxLenA := len_tok (by simp at hn; omega)
        simp [code_modal_variables_1, res_modal_variables_1, ann_modal_variables_1, encT_eq t, ho1, c1, c2, varsH, hmx, appW, metOf_set _ _ c2]
        simpa [varsH] using fin _ _ (by simp) (by simp) (by simp) (by simp) (by simp [dslot]) (by simp [varsH, hout])
  · have hout : out' = out := by rw [ho', if_neg (by simp [c1])]
    simp [code_modal_variables_1, res_modal_variables_1, ann_modal_variables_1, encT_eq t, ho1, c1, varsH]
    simpa [varsH] using fin _ _ (by simp) (by simp) (by simp) (by simp) (by simp [dslot]) (by simp [varsH, hout])
termination_by SizeOf.sizeOf t
decreasing_by exact Tr.sizeOf_kids hki
end Go.Apx
