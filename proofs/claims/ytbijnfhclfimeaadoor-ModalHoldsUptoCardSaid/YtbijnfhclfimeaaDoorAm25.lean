/- ABSTRACT MACHINE, part 25: maps by strings, growing slices, heaps at their end, ends of functions. -/
import Derived.Test.YtbijnfhclfimeaaDoorAm24
namespace Go.Apx
set_option linter.unusedVariables false
set_option linter.unusedSimpArgs false

attribute [simp] Env.get_put
/-! ## heaps -/
section
variable {α : Type} {h l : List α} {a b : α} {n : Nat}
@[simp] theorem getE_end : (h ++ a :: l)[h.length]? = some a := by simp
@[simp] theorem getE_add : (h ++ l)[h.length + n]? = l[n]? := by
  rw [List.getElem?_append_right (by omega)]; congr 1; omega
@[simp] theorem set_end : (h ++ a :: l).set h.length b = h ++ b :: l := by simp
@[simp] theorem set_add : (h ++ l).set (h.length + n) b = h ++ l.set n b := by
  rw [List.set_append_right _ _ (by omega)]; congr 2; omega
@[simp] theorem take_end : (h ++ l).take h.length = h := by simp
end

/-! ## maps by strings -/
section
variable {α : Type}
def sfind : List (ByteArray × α) → ByteArray → Option α
  | [], _ => none
  | (k, v) :: r, s => if s = k then some v else sfind r s
def sset : List (ByteArray × α) → ByteArray → α → List (ByteArray × α)
  | [], s, v => [(s, v)]
  | (k, u) :: r, s, v => if s = k then (s, v) :: r else (k, u) :: sset r s v
def smap (f : α → AV) (l : List (ByteArray × α)) : List (AV × AV) := l.map fun p => (.sc (.string p.1), f p.2)
@[simp] theorem smap_nil (f : α → AV) : smap f [] = [] := rfl
@[simp] theorem amapFind_smap (f : α → AV) (l : List (ByteArray × α)) (s : ByteArray) : amapFind (.sc (.string s)) (smap f l) = some ((sfind l s).map f) := by
  induction l with
  | nil => rfl
  | cons p r ih =>
    obtain ⟨k, v⟩ := p
    simp only [smap, List.map_cons, amapFind, keyEq, sfind] at ih ⊢
    by_cases e : s = k
    · subst e; simp
    · simp [e, ih]
@[simp] theorem amapSet_smap (f : α → AV) (l : List (ByteArray × α)) (s : ByteArray) (v : α) : amapSet (.sc (.string s)) (f v) (smap f l) = some (smap f (sset l s v)) := by
  induction l with
  | nil => rfl
  | cons p r ih =>
    obtain ⟨k, u⟩ := p
    simp only [smap, List.map_cons, amapSet, keyEq, sset] at ih ⊢
    by_cases e : s = k
    · subst e; simp
    · simp [e, ih]
def iv (n : Int) : AV := .sc (.int .i64 n)
def bv (b : Bool) : AV := .sc (.bool b)
def uv (b : BitVec 64) : AV := .sc (v64 b)
def sv (b : ByteArray) : AV := .sc (.string b)
@[simp] theorem iv_app (n : Int) : iv n = .sc (.int .i64 n) := rfl
@[simp] theorem bv_app (b : Bool) : bv b = .sc (.bool b) := rfl
@[simp] theorem uv_app (b : BitVec 64) : uv b = .sc (v64 b) := rfl
@[simp] theorem sv_app (b : ByteArray) : sv b = .sc (.string b) := rfl
@[simp] theorem getD_iv (o : Option Int) (n : Int) : (o.map iv).getD (.sc (.int .i64 n)) = .sc (.int .i64 (o.getD n)) := by cases o <;> rfl
@[simp] theorem getD_bv (o : Option Bool) (n : Bool) : (o.map bv).getD (.sc (.bool n)) = .sc (.bool (o.getD n)) := by cases o <;> rfl
@[simp] theorem getD_uv (o : Option (BitVec 64)) (n : BitVec 64) : (o.map uv).getD (.sc (v64 n)) = .sc (v64 (o.getD n)) := by cases o <;> rfl
@[simp] theorem isSome_map' {α : Type} {f : α → AV} (o : Option α) : (o.map f).isSome = o.isSome := by cases o <;> rfl
@[simp] theorem amapSet_iv (l : List (ByteArray × Int)) (s : ByteArray) (n : Int) : amapSet (.sc (.string s)) (.sc (.int .i64 n)) (smap iv l) = some (smap iv (sset l s n)) := amapSet_smap iv l s n
@[simp] theorem amapSet_bv (l : List (ByteArray × Bool)) (s : ByteArray) (n : Bool) : amapSet (.sc (.string s)) (.sc (.bool n)) (smap bv l) = some (smap bv (sset l s n)) := amapSet_smap bv l s n
@[simp] theorem amapSet_uv (l : List (ByteArray × BitVec 64)) (s : ByteArray) (n : BitVec 64) : amapSet (.sc (.string s)) (.sc (v64 n)) (smap uv l) = some (smap uv (sset l s n)) := amapSet_smap uv l s n
theorem sfind_sset (l : List (ByteArray × α)) (s t : ByteArray) (v : α) : sfind (sset l s v) t = if t = s then some v else sfind l t := by
  induction l with
  | nil => simp [sset, sfind]
  | cons p r ih =>
    obtain ⟨k, u⟩ := p
    simp only [sset]
    by_cases e : s = k
    · subst e
      by_cases e2 : t = s <;> simp [sfind, e2]
    · simp only [if_neg e, sfind, ih]
      by_cases e2 : t = k
      · subst e2; simp [Ne.symm e]
      · simp [e2]
theorem sfind_append (l r : List (ByteArray × α)) (s : ByteArray) : sfind (l ++ r) s = (sfind l s).or (sfind r s) := by
  induction l with
  | nil => simp [sfind]
  | cons p l ih =>
    obtain ⟨k, v⟩ := p
    simp only [List.cons_append, sfind, ih]
    split <;> simp
theorem sset_none (l : List (ByteArray × α)) (s : ByteArray) (v : α) (h : sfind l s = none) : sset l s v = l ++ [(s, v)] := by
  induction l with
  | nil => rfl
  | cons p r ih =>
    obtain ⟨k, u⟩ := p
    simp only [sfind] at h
    split at h
    · cases h
    · rename_i e
      simp only [sset, if_neg e, ih h, List.cons_append]
end
/-! ## values that may stand for others -/
def AVLe (u v : AV) : Prop := ∀ I m x, AVRel I m u x → AVRel I m v x
def ArgsLe (us vs : List AV) : Prop := ∀ I m xs, AVRels I m us xs → AVRels I m vs xs
theorem AVLe.refl (u : AV) : AVLe u u := fun _ _ _ h => h
theorem AVLe.trans {u v w : AV} (h : AVLe u v) (h' : AVLe v w) : AVLe u w := fun I m x hx => h' I m x (h I m x hx)
theorem AVLe.nil (j k : Nat) : AVLe (.sl j [] .nil) (.sl k [] .nil) := fun I m x h => by
  cases h with
  | slnil => exact .slnil k
  | sl _ _ _ a cap vs hc => exact absurd rfl hc
theorem AVLe.any (k : Nat) (es : List AV) (c : Cap) (hc : c ≠ .nil) : AVLe (.sl k es c) (.sl k es .any) := fun I m x h => by
  cases h with
  | slnil => exact absurd rfl hc
  | sl _ _ _ a cap vs hc hle hk hw h1 hl h hI hs hcap => exact .sl k es .any a cap vs (by intro e; cases e) hle hk hw h1 hl h hI hs trivial
theorem AVLe.strip (v : AV) : AVLe v v.strip := fun I m x h => h.strip
theorem ArgsLe.nil : ArgsLe [] [] := fun _ _ _ h => h
theorem ArgsLe.cons {u v : AV} {us vs : List AV} (h : AVLe u v) (hs : ArgsLe us vs) : ArgsLe (u :: us) (v :: vs) := fun I m xs hx => by
  obtain ⟨y, ys, rfl, h1, h2⟩ := AVRels.cons_iff.1 hx
  exact .cons (h I m y h1) (hs I m ys h2)
theorem ArgsLe.refl (us : List AV) : ArgsLe us us := fun _ _ _ h => h
theorem ACalls.args {P : Program} {G : Globs} {f : FuncId} {args args' : List AV} {h : AHeap} {R : AEnd → AHeap → Prop} (hc : ACalls P G f args' h R) (ha : ArgsLe args args') : ACalls P G f args h R :=
  ⟨hc.1, fun I m w vs hi hv => hc.2 I m w vs hi (ha I m vs hv)⟩
theorem callk2 {C : Cx} {f : FuncId} {args args' : List AV} {h h1 h0 : AHeap} {r0 : AEnd} {dst : Option Nat} {env : Env} {K : Env → AHeap → Prop} {Q : APost} (hc : ACalls C.P C.G f args' h1 (fun r h' => r = r0 ∧ h' = h0)) (ha : ArgsLe args args') (hh : h = h1)
    (hk : goOn dst env K Q r0 h0) : callW C f args dst env h K Q := callk (hc.args ha) rfl hh hk

/-! ## growing slices -/
/-- A slice that grows from nil by append; its room has the name t. -/
def apd (k : Nat) (es : List AV) (t : Nat) : AV := .sl (if es = [] then 0 else k) es (if es = [] then .nil else .tok t)
def apdH (n : Nat) : AHeap := match n with | 0 => [] | n + 1 => [.tok (n + 1)]
@[simp] theorem apd_nil (k t : Nat) : apd k [] t = .sl 0 [] .nil := rfl
@[simp] theorem apd_cons (k t : Nat) (x : AV) (xs : List AV) : apd k (x :: xs) t = .sl k (x :: xs) (.tok t) := rfl
@[simp] theorem isPend_apd (k t : Nat) (es : List AV) : (apd k es t).isPend = false := by cases es <;> rfl
@[simp] theorem one_apd (k t : Nat) (es : List AV) : (apd k es t).one = true := by cases es <;> rfl
@[simp] theorem cells_apd (k t : Nat) (es : List AV) : (apd k es t).cells = [apd k es t] := by cases es <;> rfl
@[simp] theorem apdH_zero : apdH 0 = [] := rfl
@[simp] theorem apdH_succ (n : Nat) : apdH (n + 1) = [.tok (n + 1)] := rfl
theorem len_tok {n : Nat} (h : n ≤ 4294967296) : n ≤ maxLenA := h
/-- What the caller sees of it. -/
def grown (k : Nat) (es : List AV) : AV := .sl (if es = [] then 0 else k) es (if es = [] then .nil else .any)

@[simp] theorem isPend_grown (k : Nat) (es : List AV) : (grown k es).isPend = false := by cases es <;> rfl
@[simp] theorem one_grown (k : Nat) (es : List AV) : (grown k es).one = true := by cases es <;> rfl
@[simp] theorem cells_grown (k : Nat) (es : List AV) : (grown k es).cells = [grown k es] := by cases es <;> rfl

/-- One element more. -/
theorem appk {C : Cx} {k b : Nat} {x y : Opd} {d : Option Nat} {env : Env} {H : AHeap} {K : Env → AHeap → Prop} (es : List AV) (v : AV) (h : AHeap) (hx : evalOpd C.G env x = some (apd k es h.length)) (hy : (evalOpd C.G env y).bind (elems H k) = some [v])
    (hH : H = h ++ apdH es.length) (hm : es.length + 1 ≤ maxLenA) (hK : K (putD env d (apd k (es ++ [v]) h.length)) (h ++ apdH (es.length + 1))) : appW C k b x y d env H K := by
  subst hH
  unfold appW
  have he : evalOp C.G env (h ++ apdH es.length) (.append k b x y) = some (apd k (es ++ [v]) h.length, h ++ apdH (es.length + 1)) := by
    simp only [evalOp, hx, hy]
    cases es with
    | nil => simp [len_tok]
    | cons a es =>
      have : es.length + 1 + 1 ≤ maxLenA := hm
      simp [this]
  rw [he]
  exact hK

/-! ## ends -/
theorem Cl.app (h0 x : AHeap) : Cl h0 (h0 ++ x) h0.length := by
  intro i o hi ho
  rw [List.getElem?_append_left hi] at ho
  exact .inl ho
theorem Cl.appN (h0 x : AHeap) (n : Nat) (hx : (x.take n).all (AObj.inb (h0.length + n)) = true) : Cl h0 (h0 ++ x) (h0.length + n) := by
  intro i o hi ho
  by_cases h1 : i < h0.length
  · rw [List.getElem?_append_left h1] at ho; exact .inl ho
  · rw [List.getElem?_append_right (by omega)] at ho
    rw [List.all_eq_true] at hx
    exact .inr (hx o (List.mem_of_getElem? (i := i - h0.length) (by rw [List.getElem?_take, if_pos (by omega)]; exact ho)))
theorem Cl.set {h0 h : AHeap} {n j : Nat} {x : AObj} (hc : Cl h0 h n) (hx : x.inb n = true) : Cl h0 (h.set j x) n := by
  intro i o hi ho
  rw [List.getElem?_set] at ho
  split at ho
  · split at ho
    · simp at ho; subst ho; exact .inr hx
    · cases ho
  · exact hc i o hi ho

@[simp] theorem retPost_normal {P : Program} {G : Globs} {h0 : AHeap} {rs : List ResA} {R : AEnd → AHeap → Prop} {env : Env} {h : AHeap} : retPost P G h0 rs R .normal env h = retPost P G h0 rs R .ret env h := rfl
theorem panE {P : Program} {G : Globs} {hh : AHeap} {rs : List ResA} {env : Env} {h h0 : AHeap} {v : AV} {r0 : AEnd} (hd : deferred env = some []) (hr : AEnd.pan v = r0) (hh' : h = h0) :
    retPost P G hh rs (fun r h' => r = r0 ∧ h' = h0) (.pan v) env h := by
  simp only [retPost, hd]
  exact .inl ⟨hr, hh'⟩
/-- What has been laid behind the caller's objects is forgotten. -/
theorem retD {P : Program} {G : Globs} {h0 x h1 : AHeap} {rs : List ResA} {env : Env} {v : AV} {r0 : AEnd} (hd : deferred env = some []) (hv : evalRes G env (h0 ++ x) rs = some v) (h3 : v.strip.inb h0.length = true)
    (hR : .ret v.strip = r0) (hh : h0 = h1) : retPost P G h0 rs (fun r h' => r = r0 ∧ h' = h1) .ret env (h0 ++ x) :=
  retCut h0.length hd hv (Nat.le_refl _) (by simp) h3 (Cl.app h0 x) ⟨hR, by simpa using hh⟩
/-- Likewise, but for the first n of it. -/
theorem retDn {P : Program} {G : Globs} {h0 x h1 : AHeap} {rs : List ResA} {env : Env} {v : AV} {r0 : AEnd} (n : Nat) (hd : deferred env = some []) (hv : evalRes G env (h0 ++ x) rs = some v) (hn : n ≤ x.length) (hx : (x.take n).all (AObj.inb (h0.length + n)) = true)
    (h3 : v.strip.inb (h0.length + n) = true) (hR : .ret v.strip = r0) (hh : h0 ++ x.take n = h1) : retPost P G h0 rs (fun r h' => r = r0 ∧ h' = h1) .ret env (h0 ++ x) :=
  retCut (h0.length + n) hd hv (by omega) (by simp; exact hn) h3 (Cl.appN h0 x n hx) ⟨hR, by rw [← hh, List.take_length_add_append]⟩
/-- The general case. -/
theorem retG {P : Program} {G : Globs} {h0 h h1 : AHeap} {rs : List ResA} {env : Env} {v : AV} {r0 : AEnd} (n : Nat) (hd : deferred env = some []) (hv : evalRes G env h rs = some v) (hk : h0.length ≤ n) (hn : n ≤ h.length) (h3 : v.strip.inb n = true) (hc : Cl h0 h n)
    (hR : .ret v.strip = r0) (hh : h.take n = h1) : retPost P G h0 rs (fun r h' => r = r0 ∧ h' = h1) .ret env h :=
  retCut n hd hv hk hn h3 hc ⟨hR, hh⟩
theorem retDefer {P : Program} {G : Globs} {h0 h : AHeap} {rs : List ResA} {R : AEnd → AHeap → Prop} {env : Env} (l : List AV) (hd : deferred env = some l) (hl : leaveP P G h0 rs R env l .ret h) : retPost P G h0 rs R .ret env h := by
  simp only [retPost, hd]; exact hl
theorem panDefer {P : Program} {G : Globs} {h0 h : AHeap} {rs : List ResA} {R : AEnd → AHeap → Prop} {env : Env} {v : AV} (l : List AV) (hd : deferred env = some l) (hl : leaveP P G h0 rs R env l (.pan v) h) : retPost P G h0 rs R (.pan v) env h := by
  simp only [retPost, hd]; exact hl
theorem leaveD {P : Program} {G : Globs} {h0 x h1 : AHeap} {rs : List ResA} {env : Env} {v : AV} {r0 : AEnd} (hv : evalRes G env (h0 ++ x) rs = some v) (h3 : v.strip.inb h0.length = true)
    (hR : .ret v.strip = r0) (hh : h0 = h1) : leaveP P G h0 rs (fun r h' => r = r0 ∧ h' = h1) env [] .ret (h0 ++ x) :=
  ⟨v, hv, .inr ⟨h0.length, Nat.le_refl _, by simp, h3, Cl.app h0 x, hR, by simpa using hh⟩⟩
theorem leaveE {P : Program} {G : Globs} {h0 h h1 : AHeap} {rs : List ResA} {env : Env} {v : AV} {r0 : AEnd} (hv : evalRes G env h rs = some v)
    (hR : .ret v = r0) (hh : h = h1) : leaveP P G h0 rs (fun r h' => r = r0 ∧ h' = h1) env [] .ret h :=
  ⟨v, hv, .inl ⟨hR, hh⟩⟩
theorem leaveIt {P : Program} {G : Globs} {h0 h : AHeap} {rs : List ResA} {R : AEnd → AHeap → Prop} {env : Env} {l : List AV} {o : Nat} {md : AMode} (hq : isQueue h o = true) (hl : leaveP P G h0 rs R env l md (h.set o .dead)) : leaveP P G h0 rs R env (.it o :: l) md h := by
  rw [leaveP]
  exact ⟨hq, hl⟩
theorem leaveCall {P : Program} {G : Globs} {h0 h h2 : AHeap} {rs : List ResA} {R : AEnd → AHeap → Prop} {env : Env} {l a b args : List AV} {f : FuncId} {md md2 : AMode} (hc : ADefer P G f (a ++ args ++ b) md h (fun md' h' => md' = md2 ∧ h' = h2))
    (hl : leaveP P G h0 rs R env l md2.settle h2) : leaveP P G h0 rs R env (.tup (.fn (.func f) a b :: args) :: l) md h := by
  rw [leaveP]
  exact ⟨_, hc, fun md' h' ⟨e, e'⟩ => by subst e e'; exact hl⟩
/-- Evaluating results. -/
@[simp] theorem evalRes_one {G : Globs} {env : Env} {h : AHeap} {r : ResA} {v : AV} (hr : evalRes1 G env h r = some v) : evalRes G env h [r] = some v := by simp [evalRes, hr]
end Go.Apx
