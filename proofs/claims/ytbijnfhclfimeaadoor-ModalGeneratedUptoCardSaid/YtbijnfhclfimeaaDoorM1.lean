/- Walks: worlds, trees, sizes, frames. -/
import Derived.Test.YtbijnfhclfimeaaDoorCode
import Derived.Test.YtbijnfhclfimeaaDoorAmC
namespace Go.Apx
open Go.Proofs
set_option linter.unusedVariables false
set_option linter.unusedSimpArgs false


/-- All worlds. -/
def full (n : Nat) : BitVec 64 := (1#64 <<< n) - 1#64

theorem worlds_c {es : List AV} {c : Cap} {h : AHeap} : ACalls PP Gl 42 [.agg [.sl 1 es c]] h (fun r h' => r = .ret (u64 (full es.length)) ∧ h' = h) := by
  refine enter_modal_Frame_worlds (by simp) ?_
  simp [code_modal_Frame_worlds, res_modal_Frame_worlds, ann_modal_Frame_worlds]
  refine ret1 (by simp [deferred, dslot]) rfl ?_
  simp [full]


/-- A tree of the document: label, kids, and what is known of the room behind the kids. -/
inductive Tr where
  | node (label : ByteArray) (kids : List Tr) (cap : Cap)

def Tr.kids : Tr → List Tr | .node _ k _ => k
def Tr.label : Tr → ByteArray | .node l _ _ => l
def Tr.cap : Tr → Cap | .node _ _ c => c

mutual
def encT : Tr → AV
  | .node l ks c => .agg [.sc (.string l), .sl 2 (encTs ks) c]
def encTs : List Tr → List AV
  | [] => []
  | t :: r => encT t :: encTs r
end
theorem encTs_map : ∀ l, encTs l = l.map encT
  | [] => rfl
  | t :: r => by simp [encTs, encTs_map r]
theorem encT_eq (t : Tr) : encT t = .agg [.sc (.string t.label), .sl 2 (t.kids.map encT) t.cap] := by
  cases t; simp [encT, encTs_map, Tr.kids, Tr.label, Tr.cap]

theorem nodeOf_c (t : Tr) {h : AHeap} : ACalls PP Gl 85 [encT t] h (fun r h' => r = .ret (if t.kids = [] then .ifc 140 (.sc (.string t.label)) else .ifc 142 (encT t)) ∧ h' = h) := by
  rw [encT_eq]
  refine enter_syntax_nodeOf (by simp) ?_
  simp [code_syntax_nodeOf, res_syntax_nodeOf, ann_syntax_nodeOf]
  refine ⟨fun hk => ?_, fun hk => ?_⟩
  · refine ret1 (by simp [deferred, dslot]) rfl ?_
    simp [hk]
  · refine ret1 (by simp [deferred, dslot]) rfl ?_
    simp [hk]

theorem kids_c (t : Tr) (hc : t.cap.inb 0 = true) {h : AHeap} : ACalls PP Gl 69 [encT t] h (fun r h' => (∃ c, r = .ret (.sl (if t.kids = [] then 0 else 2) (t.kids.map encT) c) ∧ c.inb 0 = true) ∧ h' = h) := by
  refine enter_syntax_kids (by simp) ?_
  simp [code_syntax_kids, res_syntax_kids, ann_syntax_kids, encT_eq t]
  refine callk (nodeOf_c t) (by simp [encT_eq t]) rfl ?_
  by_cases hk : t.kids = []
  · simp [hk]
    refine ret1 (by simp [deferred, dslot]) rfl ⟨⟨.nil, rfl, rfl⟩, rfl⟩
  · simp [hk, encT_eq t]
    exact ret1 (by simp [deferred, dslot]) rfl ⟨⟨_, rfl, hc⟩, rfl⟩

@[simp] theorem isPend_encT (t : Tr) : (encT t).isPend = false := by cases t; rfl
@[simp] theorem one_encT (t : Tr) : (encT t).one = false := by cases t; rfl

mutual
def Tr.nodes : Tr → Nat
  | .node _ ks _ => Tr.nodesL ks + 1
def Tr.nodesL : List Tr → Nat
  | [] => 0
  | t :: r => t.nodes + Tr.nodesL r
end
mutual
def Tr.depth : Tr → Nat
  | .node _ ks _ => Tr.depthL ks + 1
def Tr.depthL : List Tr → Nat
  | [] => 0
  | t :: r => max t.depth (Tr.depthL r)
end


mutual
def Tr.ok : Tr → Bool
  | .node _ ks c => c.inb 0 && Tr.okL ks
def Tr.okL : List Tr → Bool
  | [] => true
  | t :: r => t.ok && Tr.okL r
end
theorem Tr.okL_mem : ∀ {l : List Tr}, Tr.okL l = true → ∀ t ∈ l, t.ok = true
  | [], _, t, h => by cases h
  | x :: r, h, t, ht => by
    simp only [Tr.okL, Bool.and_eq_true] at h
    simp only [List.mem_cons] at ht
    rcases ht with rfl | ht
    · exact h.1
    · exact Tr.okL_mem h.2 t ht
theorem Tr.nodes_eq (t : Tr) : t.nodes = Tr.nodesL t.kids + 1 := by cases t; simp [Tr.nodes, Tr.kids]
theorem Tr.depth_eq (t : Tr) : t.depth = Tr.depthL t.kids + 1 := by cases t; simp [Tr.depth, Tr.kids]
theorem Tr.ok_eq (t : Tr) : t.ok = (t.cap.inb 0 && Tr.okL t.kids) := by cases t; simp [Tr.ok, Tr.kids, Tr.cap]
theorem Tr.nodesL_append (a b : List Tr) : Tr.nodesL (a ++ b) = Tr.nodesL a + Tr.nodesL b := by
  induction a with
  | nil => simp [Tr.nodesL]
  | cons x a ih => simp [Tr.nodesL, ih]; omega
theorem Tr.depthL_append (a b : List Tr) : Tr.depthL (a ++ b) = max (Tr.depthL a) (Tr.depthL b) := by
  induction a with
  | nil => simp [Tr.depthL]
  | cons x a ih => simp only [List.cons_append, Tr.depthL, ih]; omega
mutual
theorem Tr.depth_le : ∀ t : Tr, t.depth ≤ t.nodes
  | .node _ ks _ => by simp only [Tr.depth, Tr.nodes]; have := Tr.depthL_le ks; omega
theorem Tr.depthL_le : ∀ l : List Tr, Tr.depthL l ≤ Tr.nodesL l
  | [] => by simp [Tr.depthL]
  | t :: r => by simp only [Tr.depthL, Tr.nodesL]; have := Tr.depth_le t; have := Tr.depthL_le r; omega
end
theorem take_succ_of {α : Type} {l : List α} {i : Nat} {x : α} (h : l[i]? = some x) : l.take (i + 1) = l.take i ++ [x] := by
  rw [List.take_add_one, h]; rfl
theorem Tr.nodes_get {l : List Tr} {i : Nat} {t : Tr} (h : l[i]? = some t) : Tr.nodesL (l.take (i + 1)) = Tr.nodesL (l.take i) + t.nodes := by
  rw [take_succ_of h, Tr.nodesL_append]; simp [Tr.nodesL]
theorem Tr.depth_get {l : List Tr} {i : Nat} {t : Tr} (h : l[i]? = some t) : Tr.depthL (l.take (i + 1)) = max (Tr.depthL (l.take i)) t.depth := by
  rw [take_succ_of h, Tr.depthL_append]; simp [Tr.depthL]
theorem Tr.nodesL_take (l : List Tr) (i : Nat) : Tr.nodesL (l.take i) ≤ Tr.nodesL l := by
  have := Tr.nodesL_append (l.take i) (l.drop i)
  rw [List.take_append_drop] at this; omega
theorem Tr.sizeOf_kids {t : Tr} {i : Nat} {k : Tr} (h : t.kids[i]? = some k) : SizeOf.sizeOf k < SizeOf.sizeOf t := by
  cases t with
  | node l ks c =>
    have := List.sizeOf_lt_of_mem (List.mem_of_getElem? (show ks[i]? = some k from h))
    simp only [Tr.node.sizeOf_spec]; omega
theorem Tr.nodes_pos (t : Tr) : 1 ≤ t.nodes := by rw [Tr.nodes_eq]; omega
theorem Tr.length_le : ∀ l : List Tr, l.length ≤ Tr.nodesL l
  | [] => Nat.zero_le _
  | t :: r => by have := Tr.length_le r; have := Tr.nodes_pos t; simp only [List.length_cons, Tr.nodesL]; omega

theorem size_c (t : Tr) (hok : t.ok = true) (hn : t.nodes ≤ 2 ^ 40) {h : AHeap} : ACalls PP Gl 53 [encT t] h (fun r h' => r = .ret (.tup [i64 t.nodes, i64 t.depth]) ∧ h' = h) := by
  have hc : t.cap.inb 0 = true ∧ Tr.okL t.kids = true := by rw [Tr.ok_eq, Bool.and_eq_true] at hok; exact hok
  have hdep := Tr.depth_le t
  have hne := Tr.nodes_eq t
  refine enter_syntax_Size (by simp) ?_
  simp [code_syntax_Size, res_syntax_Size, ann_syntax_Size, encT_eq t]
  refine callr (kids_c t hc.1) (by simp [encT_eq t]) rfl ?_
  rintro r h' ⟨⟨c, rfl, hcap⟩, rfl⟩
  simp
  refine AWp.count t.kids.length (fun i => [(0, encT t), (1, .ip (encT t)), (2, i64 (Tr.nodesL (t.kids.take i))), (3, i64 (Tr.depthL (t.kids.take i))), (9, .sl (if t.kids = [] then 0 else 2) (t.kids.map encT) c),
    (10, i64 t.kids.length), (11, i64 i)]) (fun _ => h') mixed ?_ rfl ?_ ?_
  · refine EnvLe.of ?_ ?_
    · simp [lp0_syntax_Size, encT_eq t, Tr.nodesL, Tr.depthL]
    · simp [lp0_syntax_Size, dslot]
  · intro i hi
    have hk : t.kids ≠ [] := by intro e; rw [e] at hi; simp at hi
    obtain ⟨k, hki⟩ : ∃ k, t.kids[i]? = some k := ⟨t.kids[i], by simp [hi]⟩
    have hkn := Tr.nodes_get hki
    have hkd := Tr.depth_get hki
    have h1 := Tr.nodesL_take t.kids (i + 1)
    have h2 := Tr.depthL_le (t.kids.take i)
    have h3 := Tr.depth_le k
    have hlen : (i : Int) < t.kids.length := by omega
    have hlen2 := Tr.length_le t.kids
    simp [lp0_syntax_Size, hk, hki, hlen, encT_eq k]
    refine callk (size_c k (Tr.okL_mem hc.2 k (List.mem_of_getElem? hki)) (by omega) (h := h')) (by simp [encT_eq k]) rfl ?_
    simp [lp0_syntax_Size]
    rw [IntWalk.i64_in ((Tr.nodesL (t.kids.take i) : Int) + k.nodes) (by omega), IntWalk.i64_in ((i : Int) + 1) (by omega)]
    refine EnvLe.of ?_ (by simp [dslot])
    simp [lp0_syntax_Size, hkn, hkd]
    split <;> omega
  · have hdl := Tr.depthL_le t.kids
    simp [lp0_syntax_Size]
    have hlen2 := Tr.length_le t.kids
    rw [IntWalk.i64_in _ (by omega), IntWalk.i64_in _ (by omega)]
    refine ret1 (by simp [deferred, dslot]) rfl ⟨?_, rfl⟩
    simp [lp0_syntax_Size, hne, Tr.depth_eq t]
termination_by SizeOf.sizeOf t
decreasing_by exact Tr.sizeOf_kids hki


abbrev U := BitVec 64
def idx (o : Option Nat) : Int := match o with | some i => i | none => -1

theorem right1_c (s : U) (es : List AV) (c : Cap) {h : AHeap} : ACalls PP Gl 68 [u64 s, .ip (.agg [.sl 1 es c])] h (fun r h' => r = .ret (bool (!decide (s &&& ~~~ full es.length = 0#64))) ∧ h' = h) := by
  refine enter_modal_Frame_right_1 (by simp) ?_
  simp [code_modal_Frame_right_1, res_modal_Frame_right_1, ann_modal_Frame_right_1]
  refine callk worlds_c rfl rfl ?_
  simp
  exact ret1 (by simp [deferred, dslot]) rfl ⟨by simp, rfl⟩

theorem indexFuncU_c (l : List U) (c : Cap) (fid : FuncId) (a b : List AV) (p : U → Bool) {h : AHeap} (hl : l.length < 2 ^ 40) (hp : ∀ e ∈ l, ACalls PP Gl fid (a ++ [u64 e] ++ b) h (fun r h' => r = .ret (bool (p e)) ∧ h' = h)) :
    ACalls PP Gl 84 [.sl 1 (l.map u64) c, .fn (.func fid) a b] h (fun r h' => r = .ret (i64 (idx (l.findIdx? p))) ∧ h' = h) := by
  refine enter_slices_IndexFunc_uint_uint (by simp) ?_
  simp [code_slices_IndexFunc_uint_uint, res_slices_IndexFunc_uint_uint, ann_slices_IndexFunc_uint_uint]
  refine AWp.scan l.length (fun i => [(0, .sl 1 (l.map u64) c), (1, .fn (.func fid) a b), (4, i64 0), (7, i64 l.length), (8, i64 i)]) (fun _ => h) (fun i => ∀ j, j < i → ∀ e, l[j]? = some e → p e = false) mixed (by simp) (EnvLe.of (by simp) (by simp [dslot])) rfl ?_ ?_
  · intro i hi hj
    obtain ⟨e, hie⟩ : ∃ e, l[i]? = some e := ⟨l[i], by simp [hi]⟩
    have hlt' : (i : Int) < l.length := by omega
    simp [lp0_slices_IndexFunc_uint_uint, hlt', hie]
    refine callk (hp e (List.mem_of_getElem? hie)) (by simp) rfl ?_
    simp [lp0_slices_IndexFunc_uint_uint]
    rw [IntWalk.i64_in ((i : Int) + 1) (by omega)]
    refine ⟨fun hpe => ?_, fun hpe => ?_⟩
    rotate_left
    · refine ⟨fun j hj' e' he' => ?_, EnvLe.of (by simp) (by simp [dslot])⟩
      by_cases hji : j = i
      · subst hji; rw [hie] at he'; cases he'; exact hpe
      · exact hj j (by omega) e' he'
    · refine ret1 (by simp [deferred, dslot]) rfl ⟨?_, rfl⟩
      have : l.findIdx? p = some i := by
        rw [List.findIdx?_eq_some_iff_getElem]
        have hi' : l[i] = e := (List.getElem?_eq_some_iff.1 hie).2
        refine ⟨hi, by rw [hi']; exact hpe, fun j hji => ?_⟩
        rw [hj j hji l[j] (by simp)]; simp
      simp [lp0_slices_IndexFunc_uint_uint, this, idx]
  · intro hz
    simp [lp0_slices_IndexFunc_uint_uint]
    refine ret1 (by simp [deferred, dslot]) rfl ⟨?_, rfl⟩
    have : l.findIdx? p = none := by
      rw [List.findIdx?_eq_none_iff]
      intro e he
      obtain ⟨j, hj⟩ := List.getElem?_of_mem he
      exact hz j (List.getElem?_eq_some_iff.1 hj).1 e hj
    simp [lp0_slices_IndexFunc_uint_uint, this, idx]

theorem containsFuncU_c (l : List U) (c : Cap) (fid : FuncId) (a b : List AV) (p : U → Bool) {h : AHeap} (hl : l.length < 2 ^ 40) (hp : ∀ e ∈ l, ACalls PP Gl fid (a ++ [u64 e] ++ b) h (fun r h' => r = .ret (bool (p e)) ∧ h' = h)) :
    ACalls PP Gl 67 [.sl 1 (l.map u64) c, .fn (.func fid) a b] h (fun r h' => r = .ret (bool (l.any p)) ∧ h' = h) := by
  refine enter_slices_ContainsFunc_uint_uint (by simp) ?_
  simp [code_slices_ContainsFunc_uint_uint, res_slices_ContainsFunc_uint_uint, ann_slices_ContainsFunc_uint_uint]
  refine callk (indexFuncU_c l c fid a b p hl hp) rfl rfl ?_
  simp
  refine ret1 (by simp [deferred, dslot]) rfl ⟨?_, rfl⟩
  have : l.any p = (l.findIdx? p).isSome := by simp [List.findIdx?_isSome]
  rw [this]
  cases l.findIdx? p <;> simp [idx]

/-- Is a frame right? -/
def rightF (l : List U) : Bool := decide (1 ≤ l.length) && decide (l.length ≤ 6) && !(l.any fun s => !decide (s &&& ~~~ full l.length = 0#64))

theorem right_c (l : List U) (c : Cap) {h : AHeap} (hl : l.length < 2 ^ 40) : ACalls PP Gl 45 [.agg [.sl 1 (l.map u64) c]] h (fun r h' => r = .ret (bool (rightF l)) ∧ h' = h) := by
  refine enter_modal_Frame_right (by simp) ?_
  by_cases h1 : 1 ≤ (l.length : Int)
  · by_cases h2 : (l.length : Int) ≤ 6
    · simp [code_modal_Frame_right, res_modal_Frame_right, ann_modal_Frame_right, h1, h2]
      refine callk (containsFuncU_c l c 68 [] [.ip (.agg [.sl 1 (l.map u64) c])] (fun s => !decide (s &&& ~~~ full l.length = 0#64)) hl (fun e he => by simpa using right1_c e (l.map u64) c)) rfl rfl ?_
      simp
      refine ret1 (by simp [deferred, dslot]) rfl ⟨?_, rfl⟩
      have g1 : 1 ≤ l.length := by omega
      have g2 : l.length ≤ 6 := by omega
      simp [rightF, g1, g2]
    · simp [code_modal_Frame_right, res_modal_Frame_right, ann_modal_Frame_right, h1, h2]
      refine ret1 (by simp [deferred, dslot]) rfl ⟨?_, rfl⟩
      have g2 : ¬ l.length ≤ 6 := by omega
      simp [rightF, g2]
  · simp [code_modal_Frame_right, res_modal_Frame_right, ann_modal_Frame_right, h1]
    refine ret1 (by simp [deferred, dslot]) rfl ⟨?_, rfl⟩
    have g1 : ¬ 1 ≤ l.length := by omega
    simp [rightF, g1]
end Go.Apx
