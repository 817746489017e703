/- Walks: data of grammars and trees; names, places, sizes. -/
import Derived.Test.YtchbhhgnkcaegaaCode
import Derived.Test.YtchbhhgnkcaegaaAmC
namespace Go.Apx
open Go.Proofs
set_option linter.unusedVariables false
set_option linter.unusedSimpArgs false
set_option linter.unnecessarySimpa false
set_option maxRecDepth 4000

/-! ## data -/
structure Pt where
  sym : ByteArray
  sort : ByteArray
  arg : Int
structure Rl where
  label : ByteArray
  sort : ByteArray
  parts : List Pt
  var : Bool
  cap : Cap
structure Gr where
  sorts : List ByteArray
  rules : List Rl
  sc : Cap
  rc : Cap
def encP (p : Pt) : AV := .agg [.sc (.string p.sym), .sc (.string p.sort), .sc (.int .i64 p.arg)]
def encR (r : Rl) : AV := .agg [.sc (.string r.label), .sc (.string r.sort), .sl 3 (r.parts.map encP) r.cap, .sc (.bool r.var)]
def encG (g : Gr) : AV := .agg [.sl 1 (g.sorts.map sv) g.sc, .sl 4 (g.rules.map encR) g.rc]
@[simp] theorem isPend_encP (p : Pt) : (encP p).isPend = false := rfl
@[simp] theorem one_encP (p : Pt) : (encP p).one = false := rfl
@[simp] theorem isPend_encR (p : Rl) : (encR p).isPend = false := rfl
@[simp] theorem one_encR (p : Rl) : (encR p).one = false := rfl
@[simp] theorem isPend_encG (p : Gr) : (encG p).isPend = false := rfl
@[simp] theorem one_encG (p : Gr) : (encG p).one = false := rfl

/-- A tree of the document: label, kids, and what is known of the room behind the kids. -/
inductive Tr where
  | node (label : ByteArray) (kids : List Tr) (cap : Cap)
def Tr.kids : Tr → List Tr | .node _ k _ => k
def Tr.label : Tr → ByteArray | .node l _ _ => l
def Tr.cap : Tr → Cap | .node _ _ c => c
mutual
def encT : Tr → AV
  | .node l ks c => .agg [.sc (.string l), .sl 2 (encTs ks) c]
def encTs : List Tr → List AV
  | [] => []
  | t :: r => encT t :: encTs r
end
theorem encTs_map : ∀ l, encTs l = l.map encT
  | [] => rfl
  | t :: r => by simp [encTs, encTs_map r]
theorem encT_eq (t : Tr) : encT t = .agg [.sc (.string t.label), .sl 2 (t.kids.map encT) t.cap] := by
  cases t; simp [encT, encTs_map, Tr.kids, Tr.label, Tr.cap]
@[simp] theorem isPend_encT (t : Tr) : (encT t).isPend = false := by cases t; rfl
@[simp] theorem one_encT (t : Tr) : (encT t).one = false := by cases t; rfl
mutual
def Tr.nodes : Tr → Nat
  | .node _ ks _ => Tr.nodesL ks + 1
def Tr.nodesL : List Tr → Nat
  | [] => 0
  | t :: r => t.nodes + Tr.nodesL r
end
theorem Tr.nodes_eq (t : Tr) : t.nodes = Tr.nodesL t.kids + 1 := by cases t; rfl
theorem Tr.nodes_pos (t : Tr) : 1 ≤ t.nodes := by cases t; simp [Tr.nodes]
theorem Tr.length_le (l : List Tr) : l.length ≤ Tr.nodesL l := by
  induction l with
  | nil => simp
  | cons x l ih => have := Tr.nodes_pos x; simp [Tr.nodesL]; omega
theorem Tr.nodesL_mem {l : List Tr} {t : Tr} (h : t ∈ l) : t.nodes ≤ Tr.nodesL l := by
  induction l with
  | nil => cases h
  | cons x l ih =>
    simp only [Tr.nodesL]
    rcases List.mem_cons.1 h with rfl | h
    · omega
    · have := ih h; omega

/-! ## names and places -/
def okName (s : ByteArray) : Bool := !decide (s = ⟨#[]⟩) && decide ((s.size : Int) ≤ 60)
theorem name_c (s : ByteArray) {h : AHeap} : AEx PP Gl 46 [.sc (.string s)] h (.ret (.sc (.bool (okName s)))) h := by
  refine enter_grammar_name (by simp) ?_
  simp [code_grammar_name, res_grammar_name, ann_grammar_name]
  by_cases hs : s = ⟨#[]⟩
  · simp [hs]
    exact retE (by simp [deferred, dslot]) rfl (by simp [okName]) rfl
  · simp [hs]
    exact retE (by simp [deferred, dslot]) rfl (by simp [okName, hs]) rfl
theorem rname_c (s : ByteArray) {h : AHeap} : AEx PP Gl 32 [.sc (.string s)] h (.ret (.sc (.bool (okName s)))) h := by
  refine enter_ref13_name (by simp) ?_
  simp [code_ref13_name, res_ref13_name, ann_ref13_name]
  by_cases hs : s = ⟨#[]⟩
  · simp [hs]
    exact retE (by simp [deferred, dslot]) rfl (by simp [okName]) rfl
  · simp [hs]
    exact retE (by simp [deferred, dslot]) rfl (by simp [okName, hs]) rfl

/-- The place of the first that fits, -1 without one. -/
def placeF {α : Type} (p : α → Bool) (l : List α) : Int := match l.findIdx? p with
  | some i => i
  | none => -1
theorem placeF_none {α : Type} {p : α → Bool} {l : List α} (h : ∀ x ∈ l, p x = false) : placeF p l = -1 := by
  have : l.findIdx? p = none := List.findIdx?_eq_none_iff.2 h
  simp [placeF, this]
theorem placeF_some {α : Type} {p : α → Bool} {l : List α} {i : Nat} {x : α} (hi : l[i]? = some x) (hp : p x = true) (h : ∀ y ∈ l.take i, p y = false) : placeF p l = i := by
  have hlt := (List.getElem?_eq_some_iff.1 hi).1
  have hx := (List.getElem?_eq_some_iff.1 hi).2
  have : l.findIdx? p = some i := by
    rw [List.findIdx?_eq_some_iff_getElem]
    refine ⟨hlt, by rw [hx]; exact hp, fun j hj => ?_⟩
    have := h l[j] (List.mem_of_getElem? (i := j) (by rw [List.getElem?_take, if_pos hj]; simp))
    simp [this]
  simp [placeF, this]
theorem take_ext {α : Type} {l : List α} {i : Nat} {x : α} (hi : l[i]? = some x) {q : α → Prop} (h : ∀ y ∈ l.take i, q y) (hx : q x) : ∀ y ∈ l.take (i + 1), q y := by
  intro y hy
  rw [List.take_add_one, hi] at hy
  simp at hy
  rcases hy with hy | rfl
  · exact h y hy
  · exact hx
theorem take_all {α : Type} {l : List α} {q : α → Prop} (h : ∀ y ∈ l.take l.length, q y) : ∀ y ∈ l, q y := by simpa using h

def indexF (l : List ByteArray) (s : ByteArray) : Int := placeF (fun x => decide (x = s)) l
theorem rindex_c (l : List ByteArray) (c : Cap) (s : ByteArray) (hl : l.length ≤ 2 ^ 31) {h : AHeap} : AEx PP Gl 33 [.sl 1 (l.map sv) c, .sc (.string s)] h (.ret (.sc (.int .i64 (indexF l s)))) h := by
  refine enter_ref13_index (by simp) ?_
  simp [code_ref13_index, res_ref13_index, ann_ref13_index]
  refine AWp.cnt l.length [0, 1] (fun i => [(5, i64 i)]) (fun _ => h) (fun i => ∀ y ∈ l.take i, decide (y = s) = false) mixed (by simp) (le_of (by simp [dslot])) rfl ?_ ?_
  · intro i hi hz
    obtain ⟨k, hki⟩ : ∃ k, l[i]? = some k := ⟨l[i], by simp [hi]⟩
    have hlt : (i : Int) < l.length := by omega
    have hne : l ≠ [] := by intro e; rw [e] at hi; simp at hi
    simp [lp0_ref13_index, hlt, hki, sv]
    refine ⟨fun hk => ?_, fun hk => ?_⟩
    · exact retE (by simp [deferred, dslot]) rfl (by simp [indexF, placeF_some hki (by simpa using hk) hz]) rfl
    · rw [IntWalk.i64_in ((i : Int) + 1) (by omega)]
      refine ⟨by simpa using take_ext hki (q := fun y => decide (y = s) = false) hz (by simpa using hk), le_of (by simp [dslot])⟩
  · intro hz
    simp [lp0_ref13_index]
    exact retE (by simp [deferred, dslot]) rfl (by simp [indexF, placeF_none (take_all hz)]) rfl
end Go.Apx
