/- ABSTRACT MACHINE, part 17: code: resolved code, its rules, the entry of a function. -/
import Derived.Test.YtbijnfhclfimeaaDoorAm16
import Derived.Scope
import Derived.OrdersIn
import Derived.RangeFuncLeaves
import Derived.RangeFuncSeq
import Derived.Recover
namespace Go.Apx
set_option linter.unusedVariables false
set_option linter.unusedSimpArgs false

structure AItem where
  dst : Option Nat
  op : AOp
  guard : Option (Nat × Bool)
  after : List Nat

/-! ### operations whose order is drawn: a plan that stands for every order -/
def Opd.slots : Opd → List Nat
  | .t n => [n]
  | _ => []

def AOp.opds : AOp → List Opd
  | .mv x | .box x | .boxm x | .load _ x | .un _ x | .conv _ x | .same x | .mkIface _ x | .faddr _ _ x | .field _ _ x | .extract x _ | .len _ x | .tassert _ _ _ x | .panic x | .pstore _ _ x => [x]
  | .pick c a b => [c, a, b]
  | .new _ | .pnew _ | .mkMap | .recover => []
  | .build _ ps => ps.map fun p => p.2.2
  | .bslice _ _ _ ps => ps.map fun p => p.2
  | .store _ a x => [a, x]
  | .bin _ x y | .eqb _ x y | .eqnil _ _ x y | .eqagg _ _ x y | .mkSlice _ _ _ x y | .iaddr _ x y | .iaddrA _ _ x y | .index _ _ x y | .indexS x y | .lookup _ _ _ x y | .append _ _ x y | .copy _ x y | .mx _ x y => [x, y]
  | .mkFunc _ a b => a ++ b
  | .mapUpd _ a b c => [a, b, c]
  | .slice _ x lo hi m3 => x :: (lo.toList ++ hi.toList ++ m3.toList)
  | .call f args | .defer f args => f :: args

/-- Slots that are read and written beside operands. -/
def AOp.extra : AOp → List Nat
  | .pstore _ d _ => [d]
  | .defer _ _ => [dslot]
  | _ => []

/-- The slots that an item reads. -/
def AItem.reads (it : AItem) : List Nat :=
  (match it.guard with | some (d, _) => [d] | none => []) ++ it.op.extra ++ it.op.opds.flatMap Opd.slots
/-- The slots that it writes. -/
def AItem.writes (it : AItem) : List Nat :=
  (match it.dst with | some d => [d] | none => []) ++ it.op.extra

def AItem.apart (x y : AItem) : Bool :=
  x.writes.all (fun t => !(y.reads.contains t) && !(y.writes.contains t)) && y.writes.all (fun t => !(x.reads.contains t))

/-- What it never gives place to: what may write, or run long. -/
def AOp.loud : AOp → Bool
  | .new _ | .boxm _ | .store _ _ _ | .mkMap | .mkSlice _ _ _ _ _ | .mapUpd _ _ _ _ | .append _ _ _ _ | .copy _ _ _ | .panic _ | .call _ _ | .defer _ _ | .recover => true
  | _ => false

/-- Per item, in the order of the text, all that must come before it (flags). -/
def ancs : List AItem → List (List Nat) → List (List Nat)
  | [], acc => acc.reverse
  | it :: r, acc => ancs r ((it.after ++ it.after.flatMap fun j => (acc.reverse)[j]?.getD []).eraseDups :: acc)

/-- The plan: quiet operations as early as their forebears let them. -/
def planIdx (l : List AItem) : List Nat :=
  let an := ancs l []
  let loud := (List.range l.length).filter fun i => (l[i]?).any fun it => it.op.loud
  let lev := fun i => (loud.filter fun j => (an[i]?.getD []).contains j).length
  let quietAt := fun n => (List.range l.length).filter fun i => !loud.contains i && lev i == n
  quietAt 0 ++ (List.range loud.length).flatMap fun n => (loud[n]?).toList ++ quietAt (n + 1)

/-- Each place of the plan: the item, whether some later one may overtake it. -/
def planMarks (l : List AItem) (an : List (List Nat)) : List Nat → List (Bool × Nat)
  | [] => []
  | i :: r => (r.any fun j => !(an[j]?.getD []).contains i, i) :: planMarks l an r

/-- Is the plan one that stands for every order? -/
def planOk (l : List AItem) (an : List (List Nat)) : List Nat → List Nat → Bool
  | _, [] => true
  | done, i :: r =>
    (match l[i]? with
     | none => false
     | some it => it.after.all (done.contains ·) && r.all fun j => j != i && ((an[j]?.getD []).contains i || (match l[j]? with | some jt => it.apart jt | none => false))) && planOk l an (i :: done) r

/-- Does the table of forebears say no more than the edges do? -/
def ancOk (l : List AItem) (an : List (List Nat)) : Bool :=
  (List.range l.length).all fun i => (an[i]?.getD []).all fun x => match l[i]? with
    | some it => it.after.any fun j => j == x || (an[j]?.getD []).contains x
    | none => false

def planOf (l : List AItem) : Option (List (Bool × AItem)) :=
  let an := ancs l []
  let p := planIdx l
  if p.length = l.length ∧ ancOk l an = true ∧ planOk l an [] p = true ∧ (List.range l.length).all (p.contains ·) = true then mapM' (fun (q : Bool × Nat) => (l[q.2]?).map fun it => (q.1, it)) (planMarks l an p) else none

inductive ACode where
  | skip
  | reg (l : List AItem)
  | dreg (l : List (Bool × AItem))
  | seq (a b : ACode)
  | cond (c : Opd) (a b : ACode)
  | block (id : Nat) (a : ACode)
  | loop (a : ACode)
  | scope (a : ACode)
  | rangeF (g : Opd) (ps : List Nat) (a b : ACode)
  | exit (id : Nat)
  | ret

def dstOk (N : Nat) : Option Nat → Bool
  | some d => decide (d < N) && decide (d < dslot)
  | none => true

def compItem (P : Program) (ann : List Nat) (N : Nat) (ops : Array Oper) (o : Oper) : Option AItem :=
  match compOp P ann o with
  | none => none
  | some op =>
    if dstOk N o.dst then
      match o.guard with
      | none => some { dst := o.dst, op, guard := none, after := (o.after.toList.filter (Region.binds .any)).map (·.on) }
      | some (j, want) => match (ops[j]?).bind (·.dst) with
        | some d => if dslot ≤ d then none else some { dst := o.dst, op, guard := some (d, want), after := (o.after.toList.filter (Region.binds .any)).map (·.on) }
        | none => none
    else none

def compCode (P : Program) (ann : List Nat) (N : Nat) : Code → Option ACode
  | .skip => some .skip
  | .label _ => some .skip
  | .region _ ops draw => match mapM' (compItem P ann N ops) ops.toList with
    | some l => if draw then (planOf l).map .dreg else some (.reg l)
    | none => none
  | .seq a b => match compCode P ann N a, compCode P ann N b with
    | some a, some b => some (.seq a b)
    | _, _ => none
  | .cond c a b => match compOpd c, compCode P ann N a, compCode P ann N b with
    | some c, some a, some b => some (.cond c a b)
    | _, _, _ => none
  | .block id a => (compCode P ann N a).map (.block id)
  | .loop a => (compCode P ann N a).map .loop
  | .scope a => (compCode P ann N a).map .scope
  | .rangeFunc g ps a b => match compOpd g, compCode P ann N a, compCode P ann N b with
    | some g, some a, some b => if ps.toList.all (fun t => decide (t < N) && decide (t < dslot)) then some (.rangeF g ps.toList a b) else none
    | _, _, _ => none
  | .exit id => some (.exit id)
  | .ret => some .ret
  | _ => none

/-- What stays fixed in a function's run: program, known variables, number of slots, annotated slots, how many objects are the caller's, the round that it is in. -/
structure Cx where
  P : Program
  G : Globs
  N : Nat
  ann : List Nat
  k : Nat
  ro : Option Nat

inductive AExit where
  | normal
  | exit (id : Nat)
  | ret
  | pan (v : AV)

def ExitRel (I : Imm) (m : Locs) : AExit → Exit → Prop
  | .normal, .normal => True
  | .exit i, .exit j => i = j
  | .ret, .ret => True
  | .pan v, .panic ch => ∃ x, ch = [{ v := x, recovered := false }] ∧ AVRel I m v x
  | _, _ => False

abbrev APost := AExit → Env → AHeap → Prop

def fen : Option Nat → Fence
  | none => Fence.wide
  | some l => Fence.wide.inRound l

def CPost (C : Cx) (rc : Option Nat) (I0 : Imm) (m0 : Locs) (w0 : World) (Q : APost) : Exit → Act → World → Prop := fun e a w =>
  ∃ x env h I m, Q x env h ∧ ExitRel I m x e ∧ Rel C.G C.N (C.ro, rc) w0.heap.size I m env h a w ∧ Trans C.k I0 m0 w0 I m w ∧ C.k ≤ m.length

def AWp (C : Cx) (ac : ACode) (Q : APost) (env : Env) (h : AHeap) : Prop :=
  ∀ c, compCode C.P C.ann C.N c = some ac → ∀ (rc : Option Nat) (I0 : Imm) (m0 : Locs) (w0 : World) (I : Imm) (m : Locs) (a : Act) (w : World), Trans C.k I0 m0 w0 I m w → C.k ≤ m.length →
    Rel C.G C.N (C.ro, rc) w0.heap.size I m env h a w → c.wpIn (fen rc) 0 C.P (CPost C rc I0 m0 w0 Q) a w

theorem AWp.mono {C : Cx} {ac : ACode} {Q Q' : APost} {env : Env} {h : AHeap} (hw : AWp C ac Q env h) (hq : ∀ e env h, Q e env h → Q' e env h) : AWp C ac Q' env h :=
  fun c hc rc I0 m0 w0 I m a w ht hk hr => wpIn_mono (hw c hc rc I0 m0 w0 I m a w ht hk hr) fun e a w ⟨x, env, h, I, m, h1, h2⟩ => ⟨x, env, h, I, m, hq _ _ _ h1, h2⟩

theorem Rel.weaken {G : Globs} {N S : Nat} {D : Ro} {I : Imm} {m : Locs} {env env' : Env} {h : AHeap} {a : Act} {w : World} (hr : Rel G N D S I m env h a w) (hle : EnvLe env' env) : Rel G N D S I m env' h a w :=
  ⟨hr.inv, hr.env.weaken hle, hr.size, by rw [hle.2]; exact hr.defers, hr.ro⟩

theorem AWp.weaken {C : Cx} {ac : ACode} {Q : APost} {env env' : Env} {h : AHeap} (hw : AWp C ac Q env' h) (hle : EnvLe env' env) : AWp C ac Q env h :=
  fun c hc rc I0 m0 w0 I m a w ht hk hr => hw c hc rc I0 m0 w0 I m a w ht hk (hr.weaken hle)

/-! ## one operation -/
def putD (env : Env) : Option Nat → AV → Env
  | some d, v => env.put d v
  | none, _ => env

def guardOf (env : Env) : Option (Nat × Bool) → Option Bool
  | none => some true
  | some (d, want) => match env.get d with
    | some (.sc (.bool b)) => some (b == want)
    | some (.tup []) => some false
    | _ => none

/-- THE CONTRACT of a call of yield: one round of the loop whose record is o. -/
def AYields (P : Program) (G : Globs) (o : Nat) (args : List AV) (h : AHeap) (R : AEnd → AHeap → Prop) : Prop :=
  ∀ (I : Imm) (m : Locs) (w : World) (vs : List Value) (l : Nat), Inv G I m h w → AVRels I m args vs → m[o]? = some (.whole l) →
    YieldAt Fence.wide 0 P l vs.toArray w fun e w' => ∃ r h' I' m', R r h' ∧ EndRel I' m' r e ∧ Inv G I' m' h' w' ∧ Trans h.length I m w I' m' w'

def isLoop (h : AHeap) (o : Nat) : Bool :=
  match h[o]? with
  | some (.loop _ _ _ _) => true
  | _ => false

def deferred (env : Env) : Option (List AV) :=
  match env.get dslot with
  | none => some []
  | some (.tup l) => some l
  | some _ => none

def opWp (C : Cx) (it : AItem) (env : Env) (h : AHeap) (K : Env → AHeap → Prop) (Q : APost) : Prop :=
  match it.op with
  | .pnew n => match it.dst with
    | some d => K (env.put d (.pend n)) h
    | none => False
  | .pstore n d x => match env.get d, oneOpd C.G env x with
    | some (.pend n'), some v => n' = n ∧ v.cells.length = n ∧ it.dst = none ∧ K (env.put d (.ip v)) h
    | _, _ => False
  | .call f args => match evalOpd C.G env f, mapM' (evalOpd C.G env) args with
    | some (.fn (.func fid) a b), some vs => ∃ R, ACalls C.P C.G fid (a ++ vs ++ b) h R ∧ ∀ r h', R r h' → (match r with
        | .ret v => K (putD env it.dst v) h'
        | .pan v => Q (.pan v) env h')
    | some (.yld o), some vs => isLoop h o = true ∧ ∃ R, AYields C.P C.G o vs h R ∧ ∀ r h', R r h' → (match r with
        | .ret v => K (putD env it.dst v) h'
        | .pan v => Q (.pan v) env h')
    | _, _ => False
  | .defer f args => match evalOpd C.G env f, mapM' (evalOpd C.G env) args, deferred env with
    | some (.fn (.func fid) a b), some vs, some l => C.ro = none ∧ it.dst = none ∧ K (env.put dslot (.tup (.tup (.fn (.func fid) a b :: vs) :: l))) h
    | _, _, _ => False
  | .panic x => match evalOpd C.G env x with
    | some (.ifc t v) => Q (.pan (.ifc t v)) env h
    | _ => False
  | op => match evalOp C.G env h op with
    | some (v, h') => K (putD env it.dst v) h'
    | none => False

def itemWp (C : Cx) (it : AItem) (env : Env) (h : AHeap) (K : Env → AHeap → Prop) (Q : APost) : Prop :=
  match guardOf env it.guard with
  | some true => opWp C it env h K Q
  | some false => K (putD env it.dst (.tup [])) h
  | none => False

def opsWp (C : Cx) : List AItem → APost → Env → AHeap → Prop
  | [], Q, env, h => Q .normal env h
  | it :: r, Q, env, h => itemWp C it env h (fun env h => opsWp C r Q env h) Q

/-! ### soundness -/
theorem Trans.locs {k : Nat} {I I' : Imm} {m m' : Locs} {w w' : World} (h : Trans k I m w I' m' w') (hk : m.length = k) : LocsLe m m' :=
  fun i l hi => h.loc i l (by rw [← hk]; exact (List.getElem?_eq_some_iff.1 hi).1) hi

theorem Trans.len {k : Nat} {I I' : Imm} {m m' : Locs} {w w' : World} (h : Trans k I m w I' m' w') (hk : k ≤ m.length) : k ≤ m'.length := by
  rcases Nat.lt_or_ge m'.length k with h1 | h1
  · obtain ⟨l', h2, _⟩ := h.loc m'.length m[m'.length] h1 (by simp [show m'.length < m.length by omega])
    have := (List.getElem?_eq_some_iff.1 h2).1
    omega
  · exact h1

section
variable {C : Cx} {I0 : Imm} {m0 : Locs} {w0 : World} {I : Imm} {m : Locs} {a : Act} {w : World} {env : Env} {h : AHeap} {ops : Array Oper} {o : Oper} {it : AItem}

theorem put_rel {D : Ro} {G : Globs} {N S : Nat} {dst : Option Nat} {v : AV} {x : Value} {h' : AHeap} {I' : Imm} {m' : Locs} {w' : World} {k : Nat} (hr : Rel G N D S I m env h a w) (hi : Inv G I' m' h' w') (ht : Trans k I m w I' m' w') (hm : LocsLe m m')
    (hv : AVRel I' m' v x) (hd : ∀ d, dst = some d → d < N ∧ d ≠ dslot) : Rel G N D S I' m' (putD env dst v) h' (a.put dst x) w' := by
  have he := hr.env.trans ht hm
  cases dst with
  | none => exact ⟨hi, he, hr.size, hr.defers.mono ht.imm hm, hr.ro.mono hm⟩
  | some d =>
    refine ⟨hi, he.put hv (by rw [hr.size]; exact (hd d rfl).1), ?_, ?_, hr.ro.mono hm⟩
    rotate_left
    · simp only [putD, Env.get_put, if_neg (Ne.symm (hd d rfl).2)]; exact hr.defers.mono ht.imm hm
    simp [Act.put, hr.size]

theorem compItem_some (hc : compItem C.P C.ann C.N ops o = some it) : compOp C.P C.ann o = some it.op ∧ it.dst = o.dst ∧ (∀ d, o.dst = some d → d < C.N ∧ d ≠ dslot) ∧
    ((o.guard = none ∧ it.guard = none) ∨ ∃ j want d, o.guard = some (j, want) ∧ (ops[j]?).bind (·.dst) = some d ∧ it.guard = some (d, want) ∧ d ≠ dslot) ∧
    it.after = (o.after.toList.filter (Region.binds .any)).map (·.on) := by
  unfold compItem at hc
  split at hc
  · cases hc
  · rename_i op hop
    split at hc
    · rename_i hd
      have hd' : ∀ d, o.dst = some d → d < C.N ∧ d ≠ dslot := by
        intro d h1; rw [h1] at hd
        simp only [dstOk, Bool.and_eq_true, decide_eq_true_eq] at hd
        exact ⟨hd.1, Nat.ne_of_lt hd.2⟩
      split at hc
      · rename_i hg
        simp at hc; subst hc
        exact ⟨hop, rfl, hd', .inl ⟨hg, rfl⟩, rfl⟩
      · rename_i j want hg
        split at hc
        · rename_i d hj
          split at hc
          · cases hc
          · rename_i hle
            simp at hc; subst hc
            exact ⟨hop, rfl, hd', .inr ⟨j, want, d, hg, hj, rfl, fun e => hle (by rw [e]; exact Nat.le_refl _)⟩, rfl⟩
        · cases hc
    · cases hc

theorem undef_rel : AVRel I m (.tup []) undef := .tup [] [] rfl (fun i a x ha => by simp at ha)

theorem pcalls {P : Program} {G : Globs} {N S : Nat} {D : Ro} {ann : List Nat} {f : Opd} {args : List Opd} {fid : FuncId} {fa fb vs : List AV} (hc : compOp P ann o = some (.call f args)) (hr : Rel G N D S I m env h a w)
    (hf : evalOpd G env f = some (.fn (.func fid) fa fb)) (hvs : mapM' (evalOpd G env) args = some vs) (hbody : ∃ fn, P.funcs[fid]? = some fn ∧ fn.body.isNone = false ∧ (fn.name == "runtime.NumGoroutine") = false) :
    ∃ us, AVRels I m (fa ++ vs ++ fb) us ∧ (execOp a.eval o).run P w = .ok (.enter fid us.toArray) w := by
  obtain ⟨fn, hfn, hb, hnm⟩ := hbody
  cases hop : o.op
  case makeMap t r => cases r <;> simp [compOp, hop] at hc
  all_goals simp only [compOp, hop] at hc
  case call c =>
    split at hc
    · rename_i fo hcal
      split at hc
      · rename_i f' args' hcf hca
        simp at hc
        obtain ⟨rfl, rfl⟩ := hc
        have h1 := opd_sound hcf hr hf
        have h2 := opds_sound hca hr hvs
        generalize hax : a.eval fo = ax at h1
        cases h1 with
        | fn _ _ _ fs cs hl hl' hrel hrel' =>
          refine ⟨fs ++ c.args.toList.map a.eval ++ cs, (AVRels.append ⟨hl, hrel⟩ h2).append ⟨hl', hrel'⟩, ?_⟩
          have hargs : c.args.map a.eval = (c.args.toList.map a.eval).toArray := by apply Array.ext'; simp
          simp only [execOp, hop, resolve, hcal, hax, Deferred.ofValue, Sem.run_bind, Sem.run_pure, Result.andThen_ok, invoke, callFunc, run_program, hfn, hnm, hb]
          simp [hargs]
      · cases hc
    all_goals (repeat' split at hc) <;> simp at hc
  all_goals first
    | (simp at hc; done)
    | ((repeat' split at hc) <;> simp at hc; done)
    | (simp only [compBin] at hc; (repeat' split at hc) <;> simp at hc; done)

theorem pyields {P : Program} {G : Globs} {N S : Nat} {D : Ro} {ann : List Nat} {f : Opd} {args : List Opd} {ob : Nat} {vs : List AV} (hc : compOp P ann o = some (.call f args)) (hr : Rel G N D S I m env h a w)
    (hf : evalOpd G env f = some (.yld ob)) (hvs : mapM' (evalOpd G env) args = some vs) :
    ∃ us l, AVRels I m vs us ∧ ob < m.length ∧ (∀ b, m[ob]? = some (.whole b) → l = b) ∧ (execOp a.eval o).run P w = (Instr.yield l us.toArray).run P w := by
  cases hop : o.op
  case makeMap t r => cases r <;> simp [compOp, hop] at hc
  all_goals simp only [compOp, hop] at hc
  case call c =>
    split at hc
    · rename_i fo hcal
      split at hc
      · rename_i f' args' hcf hca
        simp at hc
        obtain ⟨rfl, rfl⟩ := hc
        have h1 := opd_sound hcf hr hf
        have h2 := opds_sound hca hr hvs
        generalize hax : a.eval fo = ax at h1
        cases h1 with
        | yld _ l ho hl =>
          refine ⟨c.args.toList.map a.eval, l, h2, ho, hl, ?_⟩
          have hargs : c.args.map a.eval = (c.args.toList.map a.eval).toArray := by apply Array.ext'; simp
          simp only [execOp, hop, resolve, hcal, hax, Deferred.ofValue, Sem.run_bind, Sem.run_pure, Result.andThen_ok, invoke]
          simp [hargs]
      · cases hc
    all_goals (repeat' split at hc) <;> simp at hc
  all_goals first
    | (simp at hc; done)
    | ((repeat' split at hc) <;> simp at hc; done)
    | (simp only [compBin] at hc; (repeat' split at hc) <;> simp at hc; done)

end
end Go.Apx
