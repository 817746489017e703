/- ABSTRACT MACHINE, part 20: from a body's run to a function's contract; code as one predicate. -/
import Derived.Test.YtbijnfhclfimeaaDoorAm19
import Derived.RangeFuncOwn
namespace Go.Apx
set_option linter.unusedVariables false
set_option linter.unusedSimpArgs false

inductive ResA where
  | t (n : Nat)
  | cell (a : Nat) (ty : Ty)

def compRes (P : Program) : ResultVar → Option ResA
  | .tmp t => if t < dslot then some (.t t) else none
  | .cell a t => if a < dslot then (compTy P t).map (.cell a) else none

def evalRes1 (G : Globs) (env : Env) (h : AHeap) : ResA → Option AV
  | .t n => evalOpd G env (.t n)
  | .cell a ty => (evalOp G env h (.load ty (.t a))).map (·.1)
def evalRes (G : Globs) (env : Env) (h : AHeap) (rs : List ResA) : Option AV :=
  match mapM' (evalRes1 G env h) rs with
  | some [v] => some v
  | some vs => some (.tup vs)
  | none => none

def numFrom : Nat → List AV → Env
  | _, [] => []
  | i, v :: r => (i, v) :: numFrom (i + 1) r
def initEnv (args : List AV) : Env := numFrom 0 args
theorem numFrom_get : ∀ (args : List AV) (i t : Nat), (numFrom i args).get t = if i ≤ t then args[t - i]? else none
  | [], i, t => by simp [numFrom, Env.get]
  | v :: r, i, t => by
    simp only [numFrom, Env.get, numFrom_get r]
    by_cases h1 : t = i
    · subst h1; simp
    · rw [if_neg h1]
      by_cases h2 : i ≤ t
      · rw [if_pos h2, if_pos (by omega)]
        rw [show t - i = (t - (i + 1)) + 1 by omega]
        simp
      · rw [if_neg h2, if_neg (by omega)]

/-- How a frame goes out: by its return; by a panic; by one that has been recovered. -/
inductive AMode where
  | ret
  | pan (v : AV)
  | recd (v : AV)
def AMode.settle : AMode → AMode
  | .recd _ => .ret
  | u => u
def ModeRel (I : Imm) (m : Locs) : AMode → FrameMode → Prop
  | .ret, u => u = .returning
  | .pan v, u => ∃ x, u = .panicking [{ v := x, recovered := false }] ∧ AVRel I m v x
  | .recd v, u => ∃ x, u = .panicking [{ v := x, recovered := true }] ∧ AVRel I m v x
theorem ModeRel.mono {I I' : Imm} {m m' : Locs} (hI : ImmLe I I') (hm : LocsLe m m') {md : AMode} {u : FrameMode} (h : ModeRel I m md u) : ModeRel I' m' md u := by
  cases md with
  | ret => exact h
  | pan v => obtain ⟨x, h1, h2⟩ := h; exact ⟨x, h1, h2.mono hI hm⟩
  | recd v => obtain ⟨x, h1, h2⟩ := h; exact ⟨x, h1, h2.mono hI hm⟩
theorem ModeRel.settled {I : Imm} {m : Locs} {md : AMode} {u : FrameMode} (h : ModeRel I m md u) : ModeRel I m md.settle (settle u) := by
  cases md with
  | ret => subst h; rfl
  | pan v => obtain ⟨x, rfl, h2⟩ := h; exact ⟨x, rfl, h2⟩
  | recd v => obtain ⟨x, rfl, h2⟩ := h; rfl
theorem ModeRel.not_run {I : Imm} {m : Locs} {md : AMode} {u : FrameMode} (h : ModeRel I m md u) : u ≠ .run := by
  cases md with
  | ret => subst h; simp
  | pan v => obtain ⟨x, rfl, h2⟩ := h; simp
  | recd v => obtain ⟨x, rfl, h2⟩ := h; simp

/-- THE CONTRACT of a deferred call, made while a frame goes out as md says; it returns. -/
def ADefer (P : Program) (G : Globs) (f : FuncId) (args : List AV) (md : AMode) (h : AHeap) (R : AMode → AHeap → Prop) : Prop :=
  hasBody P f = true ∧ ∀ (I : Imm) (m : Locs) (w : World) (vs : List Value) (u : FrameMode), Inv G I m h w → AVRels I m args vs → ModeRel I m md u →
    CallsDIn Fence.wide 0 P f vs.toArray u w fun e u' w' => (∃ x, e = .returned x) ∧ ∃ md' h' I' m', R md' h' ∧ ModeRel I' m' md' u' ∧ Inv G I' m' h' w' ∧ Trans h.length I m w I' m' w'

/-- The first n objects name nothing beyond, or stand as they came in. -/
def Cl (h0 h : AHeap) (n : Nat) : Prop := ∀ (i : Nat) (o : AObj), i < n → h[i]? = some o → h0[i]? = some o ∨ o.inb n = true
theorem Cl.inb {G : Globs} {I : Imm} {m : Locs} {w : World} {h0 h : AHeap} {n : Nat} (hc : Cl h0 h n) (hi : Inv G I m h0 w) (hn : h0.length ≤ n) : ∀ (i : Nat) (o : AObj), i < n → h[i]? = some o → o.inb n = true := by
  intro i o h1 h2
  rcases hc i o h1 h2 with h3 | h3
  · have hlt := (List.getElem?_eq_some_iff.1 h3).1
    have hm : i < m.length := by rw [hi.len]; exact hlt
    exact (hi.obj i o m[i] h3 (by simp [hm])).inb (by rw [hi.len]; exact hn)
  · exact h3

def endP (h0 : AHeap) (R : AEnd → AHeap → Prop) : AEnd → AHeap → Prop
  | .ret v, h => R (.ret v) h ∨ ∃ n, h0.length ≤ n ∧ n ≤ h.length ∧ v.strip.inb n = true ∧ Cl h0 h n ∧ R (.ret v.strip) (h.take n)
  | .pan v, h => R (.pan v) h ∨ ∃ n, h0.length ≤ n ∧ n ≤ h.length ∧ v.inb n = true ∧ Cl h0 h n ∧ R (.pan v) (h.take n)

def isQueue (h : AHeap) (o : Nat) : Bool :=
  match h[o]? with
  | some .queue => true
  | _ => false

/-- A frame goes out: its deferred calls, the newest first. -/
def leaveP (P : Program) (G : Globs) (h0 : AHeap) (rs : List ResA) (R : AEnd → AHeap → Prop) (env : Env) : List AV → AMode → AHeap → Prop
  | [], .ret, h => ∃ v, evalRes G env h rs = some v ∧ endP h0 R (.ret v) h
  | [], .pan v, h => endP h0 R (.pan v) h
  | [], .recd _, _ => False
  | .it o :: l, md, h => isQueue h o = true ∧ leaveP P G h0 rs R env l md (h.set o .dead)
  | .tup (.fn (.func f) a b :: args) :: l, md, h => ∃ R', ADefer P G f (a ++ args ++ b) md h R' ∧ ∀ md' h', R' md' h' → leaveP P G h0 rs R env l md'.settle h'
  | _ :: _, _, _ => False

/-- The end of a body: what its caller is told. -/
def retPost (P : Program) (G : Globs) (h0 : AHeap) (rs : List ResA) (R : AEnd → AHeap → Prop) : APost
  | .normal, env, h | .ret, env, h => match deferred env with
    | some l => leaveP P G h0 rs R env l .ret h
    | none => False
  | .pan v, env, h => match deferred env with
    | some l => leaveP P G h0 rs R env l (.pan v) h
    | none => False
  | .exit _, _, _ => False

theorem evalRes_run {P : Program} {G : Globs} {N S : Nat} {D : Ro} {I : Imm} {m : Locs} {env : Env} {h : AHeap} {a : Act} {w : World} {fn : Func} {rs : List ResA} {v : AV}
    (hres : mapM' (compRes P) fn.results.toList = some rs) (hr : Rel G N D S I m env h a w) (hv : evalRes G env h rs = some v) : ∃ x, (results fn a.tmps).run P w = .ok x w ∧ AVRel I m v x := by
  let f : ResultVar → Sem Value := fun
    | .tmp t => pure (a.tmps.getD t undef)
    | .cell ad t => do loadVar t (← asAddr (a.tmps.getD ad undef))
  have h1 : ∀ (r : ResultVar) (r' : ResA) (u : AV), compRes P r = some r' → evalRes1 G env h r' = some u → ∃ x, (f r).run P w = .ok x w ∧ AVRel I m u x := by
    intro r r' u hc hu
    cases r with
    | tmp t =>
      simp only [compRes] at hc
      split at hc
      · rename_i ht
        simp at hc; subst hc
        exact ⟨_, rfl, opd_sound (x := .tmp t) (x' := .t t) (by simp [compOpd, ht]) hr hu⟩
      · cases hc
    | cell ad t =>
      simp only [compRes] at hc
      split at hc
      case isFalse => cases hc
      rename_i had
      simp only [Option.map_eq_some_iff] at hc
      obtain ⟨ty, hty, rfl⟩ := hc
      simp only [evalRes1, Option.map_eq_some_iff] at hu
      obtain ⟨⟨u', h'⟩, he, rfl⟩ := hu
      obtain ⟨rfl, adr, y, hax, hrun, hv⟩ := load_run (x := .tmp ad) hty (by simp [compOpd, had]) hr he
      have hax' : a.tmps.getD ad undef = .pointer (some adr) := hax
      refine ⟨y, ?_, hv⟩
      show (do loadVar t (← asAddr (a.tmps.getD ad undef)) : Sem Value).run P w = _
      rw [hax']
      simp [asAddr, hrun]
  have h2 : ∀ (l : List ResultVar) (rs : List ResA) (us : List AV), mapM' (compRes P) l = some rs → mapM' (evalRes1 G env h) rs = some us → ∃ xs, (l.mapM f).run P w = .ok xs w ∧ AVRels I m us xs := by
    intro l
    induction l with
    | nil => intro rs us h3 h4; simp [mapM'] at h3; subst h3; simp [mapM'] at h4; subst h4; exact ⟨[], by simp, .nil⟩
    | cons r l ih =>
      intro rs us h3 h4
      simp only [mapM'] at h3
      split at h3
      · rename_i r' rs' g1 g2
        simp at h3; subst h3
        simp only [mapM'] at h4
        split at h4
        · rename_i u us' g3 g4
          simp at h4; subst h4
          obtain ⟨x, hx, hxr⟩ := h1 r r' u g1 g3
          obtain ⟨xs, hxs, hxsr⟩ := ih rs' us' g2 g4
          exact ⟨x :: xs, by rw [List.mapM_cons]; simp [hx, hxs], .cons hxr hxsr⟩
        · cases h4
      · cases h3
  have h3 : ∃ us, mapM' (evalRes1 G env h) rs = some us := by
    unfold evalRes at hv
    cases hq : mapM' (evalRes1 G env h) rs with
    | none => simp [hq] at hv
    | some us => exact ⟨us, rfl⟩
  obtain ⟨us, hus⟩ := h3
  obtain ⟨xs, hxs, hrel⟩ := h2 _ rs us hres hus
  have hrun : (fn.results.mapM f).run P w = .ok xs.toArray w := by
    rw [Array.mapM_eq_mapM_toList]
    simp [hxs]
  have hres' : (results fn a.tmps).run P w = .ok (if hh : xs.toArray.size = 1 then xs.toArray[0] else .tuple xs.toArray) w := by
    have : results fn a.tmps = (do
      let vs ← fn.results.mapM f
      pure (if h : vs.size = 1 then vs[0] else .tuple vs)) := rfl
    rw [this]
    simp only [Sem.run_bind, hrun, Result.andThen_ok, Sem.run_pure]
  refine ⟨_, hres', ?_⟩
  have hl := hrel.1
  unfold evalRes at hv
  rw [hus] at hv
  rcases us with _ | ⟨u, _ | ⟨u2, us⟩⟩ <;> rcases xs with _ | ⟨x, _ | ⟨x2, xs⟩⟩ <;> simp at hl
  · simp only [Option.some.injEq] at hv; subst hv
    exact AVRel.tup [] [] hrel.1 hrel.2
  · simp only [Option.some.injEq] at hv; subst hv
    obtain ⟨y, ys, e, hy, _⟩ := AVRels.cons_iff.1 hrel
    simp at e; obtain ⟨rfl, rfl⟩ := e
    exact hy
  · simp only [Option.some.injEq] at hv; subst hv
    exact AVRel.tup (u :: u2 :: us) (x :: x2 :: xs) hrel.1 hrel.2

theorem initRel {I : Imm} {m : Locs} {w : World} {args : List AV} {vs : List Value} {N : Nat} (hr : AVRels I m args vs) (S : Nat) :
    EnvRel S I m w (initEnv args) (vs.toArray ++ Array.replicate (N - vs.toArray.size) undef) := by
  have hget : ∀ t v, (initEnv args).get t = some v → args[t]? = some v := fun t v h => by
    unfold initEnv at h; rw [numFrom_get] at h; simpa using h
  have hrel : ∀ t v, (initEnv args).get t = some v → ∃ x, (vs.toArray ++ Array.replicate (N - vs.toArray.size) undef)[t]? = some x ∧ AVRel I m v x := by
    intro t v h
    obtain ⟨x, hx, hv⟩ := hr.get (hget t v h)
    refine ⟨x, ?_, hv⟩
    have hlt := (List.getElem?_eq_some_iff.1 hx).1
    rw [Array.getElem?_append_left (by simpa using hlt)]
    simpa using hx
  refine ⟨fun t v _ h => ?_, fun t t' n n' B h _ _ _ => ?_⟩
  · obtain ⟨x, hx, hv⟩ := hrel t v h; exact ⟨x, hx, .of_rel hv⟩
  · obtain ⟨x, hx, hv⟩ := hrel t _ h; exact hv.not_pend.elim

theorem Inv.setWhole {G : Globs} {I : Imm} {m : Locs} {h : AHeap} {w : World} {i b : Nat} {d0 d : Obj} {o' : AObj} {l' : Loc} (hv : Inv G I m h w) (hl : m[i]? = some (.whole b)) (hb : w.heap[b]? = some d0)
    (h0 : d0.isCells = false) (hd : d.isCells = false) (hle : LocLe (.whole b) l') (hown : ∀ b' p, l'.owns b' p → b' = b)
    (hrel : ObjRel I (m.set i l') (w.putObj b d) o' l') :
    Inv G I (m.set i l') (h.set i o') (w.putObj b d) ∧ (∀ k, Trans k I m w I (m.set i l') (w.putObj b d)) ∧ LocsLe m (m.set i l') := by
  have him : i < m.length := (List.getElem?_eq_some_iff.1 hl).1
  have hlt : b < w.heap.size := hv.lt i _ b 0 hl rfl
  have hheap : ∀ b', b' ≠ b → (w.putObj b d).heap[b']? = w.heap[b']? := fun b' hne => World.putObj_heap_other hne
  have hcell : ∀ b' o, b' ≠ b → (w.putObj b d).cell? ⟨b', o, none⟩ = w.cell? ⟨b', o, none⟩ := fun b' o hne => World.cell?_of_block (hheap b' hne)
  have hsame : (w.putObj b d).heap[b]? = some d := World.putObj_heap_same hlt
  have nofz : ∀ (o : Obj) (w : World) (a : Addr), o.isCells = false → w.heap[a.block]? = some o → w.frozen? a = false := fun o w a hc ha => by
    unfold World.frozen?
    rw [ha]
    cases o <;> first | rfl | (simp [Obj.isCells] at hc)
  have hfroz : ∀ a : Addr, (w.putObj b d).frozen? a = w.frozen? a := by
    intro a
    by_cases hne : a.block = b
    · rw [nofz d _ a hd (by rw [hne]; exact hsame), nofz d0 _ a h0 (by rw [hne]; exact hb)]
    · exact World.frozen?_of_block (hheap _ hne)
  have hno : ∀ o, w.cell? ⟨b, o, none⟩ = none := fun o => by
    unfold World.cell?
    simp only [hb]
    cases d0 <;> first | rfl | (simp [Obj.isCells] at h0)
  have himm : ∀ b' o x, I b' o = some x → b' ≠ b := by
    rintro b' o x hx rfl
    have := hv.imm b' o x hx
    rw [hno] at this; cases this
  have hget : ∀ j, (m.set i l')[j]? = if i = j then some l' else m[j]? := fun j => by
    rw [List.getElem?_set]
    by_cases e : i = j
    · subst e; simp [him]
    · simp [e]
  have hlocs : LocsLe m (m.set i l') := fun j l hj => by
    rw [hget]
    by_cases e : i = j
    · subst e; rw [if_pos rfl]; rw [hl] at hj; cases hj; exact ⟨l', rfl, hle⟩
    · rw [if_neg e]; exact ⟨l, hj, .refl l⟩
  have hback : ∀ (j : Nat) (l : Loc) (b' p : Nat), (m.set i l')[j]? = some l → l.owns b' p → ∃ l2 : Loc, m[j]? = some l2 ∧ l2.owns b' p := fun j l b' p hj hp => by
    rw [hget] at hj
    split at hj
    · rename_i e; subst e
      simp at hj; subst hj
      exact ⟨_, hl, by have := hown b' p hp; exact this⟩
    · exact ⟨l, hj, hp⟩
  refine ⟨?_, fun k => ?_, hlocs⟩
  · exact
    { len := by simp [hv.len]
      obj := fun j o l hj hlj => by
        rw [hget] at hlj
        rw [List.getElem?_set] at hj
        by_cases e : i = j
        · subst e
          rw [if_pos rfl] at hlj hj
          split at hj
          · simp at hj hlj; subst hj hlj; exact hrel
          · cases hj
        · rw [if_neg e] at hlj hj
          have hnb : ∀ b' p, l.owns b' p → b' ≠ b := by
            rintro b' p hp rfl
            exact e (hv.disj j i l _ b' p hlj hl hp rfl).symm
          exact (hv.obj j o l hj hlj).mono (.refl I) hlocs (fun b' p hp => ⟨hcell b' p (hnb b' p hp), hfroz _⟩)
            (fun b' e => hheap b' (hnb b' 0 (by subst e; exact rfl)))
      imm := fun b' o x hx => by rw [hcell b' o (himm b' o x hx)]; exact hv.imm b' o x hx
      disj := fun j j' l l1 b' p h1 h2 h3 h4 => by
        obtain ⟨l2, g1, g2⟩ := hback j l b' p h1 h3
        obtain ⟨l3, g3, g4⟩ := hback j' l1 b' p h2 h4
        exact hv.disj j j' l2 l3 b' p g1 g3 g2 g4
      immd := fun j l b' p h1 h2 => by
        obtain ⟨l2, g1, g2⟩ := hback j l b' p h1 h2
        exact hv.immd j l2 b' p g1 g2
      lt := fun j l b' p h1 h2 => by
        obtain ⟨l2, g1, g2⟩ := hback j l b' p h1 h2
        rw [World.putObj_size]; exact hv.lt j l2 b' p g1 g2
      glob := hv.glob }
  · exact
    { os := rfl, tape := rfl, output := rfl, size := by simp
      cell := fun b' o hb' hn => hcell b' o fun e => hn i _ hl (by subst e; exact rfl)
      froz := fun a ha => hfroz a
      blk := fun b' hb' hn => hheap b' fun e => hn i _ 0 hl (by subst e; exact rfl)
      imm := .refl I
      own := fun j l b' o h1 h2 _ => ⟨j, hback j l b' o h1 h2⟩
      immNew := fun b' o hb' hx => .inl hx
      loc := fun j l _ hj => hlocs j l hj }

/-- What a call's ending says. -/
def EndPost (G : Globs) (k : Nat) (I0 : Imm) (m0 : Locs) (w0 : World) (R : AEnd → AHeap → Prop) (e : Ending) (w : World) : Prop :=
  ∃ r h I m, R r h ∧ EndRel I m r e ∧ Inv G I m h w ∧ Trans k I0 m0 w0 I m w

theorem endP_post {G : Globs} {k : Nat} {I0 I : Imm} {m0 m : Locs} {w0 w : World} {R : AEnd → AHeap → Prop} {r : AEnd} {h h0 : AHeap} {e : Ending} (h00 : Inv G I0 m0 h0 w0) (hk0 : k = h0.length) (hp : endP h0 R r h) (hE : EndRel I m r e) (hi : Inv G I m h w) (ht : Trans k I0 m0 w0 I m w) :
    EndPost G k I0 m0 w0 R e w := by
  cases r with
  | ret v =>
    cases e with
    | returned x =>
      have hx : AVRel I m v x := hE
      subst hk0
      rcases hp with hR | ⟨n, n1, n2, n3, n4, hR⟩
      · exact ⟨.ret v, h, I, m, hR, hx, hi, ht⟩
      · refine ⟨.ret v.strip, h.take n, I, m.take n, hR, ?_, hi.take n (n4.inb h00 n1) n2, ht.take n1⟩
        exact hx.strip.cut (n := n) (by simp; have := hi.len; omega) (fun j hj => by rw [List.getElem?_take, if_pos hj]) n3
    | panicked ch => exact hE.elim
    | outgrown => exact hE.elim
  | pan v =>
    cases e with
    | returned x => exact hE.elim
    | panicked ch =>
      obtain ⟨x, rfl, hx⟩ := hE
      subst hk0
      rcases hp with hR | ⟨n, n1, n2, n3, n4, hR⟩
      · exact ⟨.pan v, h, I, m, hR, ⟨x, rfl, hx⟩, hi, ht⟩
      · exact ⟨.pan v, h.take n, I, m.take n, hR, ⟨x, rfl, hx.cut (n := n) (by simp; have := hi.len; omega) (fun j hj => by rw [List.getElem?_take, if_pos hj]) n3⟩, hi.take n (n4.inb h00 n1) n2, ht.take n1⟩
    | outgrown => exact hE.elim

theorem enter_run {P : Program} {w : World} {f : FuncId} {vs : Array Value} (hb : hasBody P f = true) : (callFunc f vs).run P w = .ok (.enter f vs) w := by
  have hbody : ∃ fn, P.funcs[f]? = some fn ∧ fn.body.isNone = false ∧ (fn.name == "runtime.NumGoroutine") = false := by
    unfold hasBody at hb
    split at hb
    · rename_i fn hfn
      simp at hb
      refine ⟨fn, hfn, ?_, by simpa using hb.2⟩
      cases hbd : fn.body <;> simp_all
    · cases hb
  obtain ⟨fn, hfn, hb, hnm⟩ := hbody
  simp only [callFunc, Sem.run_bind, run_program, Result.andThen_ok, hfn, hnm, hb]
  simp

theorem leaves_sound {P : Program} {G : Globs} {N S k : Nat} {D : Ro} {fn : Func} {rs : List ResA} {R : AEnd → AHeap → Prop} {env : Env} {I0 : Imm} {m0 : Locs} {w0 : World} {a : Act} {h0 : AHeap} (h00 : Inv G I0 m0 h0 w0) (hk0 : k = h0.length)
    (hres : mapM' (compRes P) fn.results.toList = some rs) : ∀ (l : List AV) (ds : List Deferred) (md : AMode) (u : FrameMode) (h : AHeap) (I : Imm) (m : Locs) (w : World), leaveP P G h0 rs R env l md h →
    l.length = ds.length → (∀ (i : Nat) (e : AV) (d : Deferred), l[i]? = some e → ds[i]? = some d → DRel I m e d) → ModeRel I m md u → Rel G N D S I m env h a w → Trans k I0 m0 w0 I m w → k ≤ m.length →
    LeavesInM Fence.wide 0 P fn a.tmps (EndPost G k I0 m0 w0 R) ds u w
  | [], ds, md, u, h, I, m, w, hl, hlen, hd, hmd, hr, ht, hk => by
    have : ds = [] := List.eq_nil_of_length_eq_zero (by simpa using hlen.symm)
    subst this
    cases md with
    | ret =>
      subst hmd
      obtain ⟨v, hv, hp⟩ := hl
      obtain ⟨x, hx, hxr⟩ := evalRes_run hres hr hv
      exact ⟨x, hx, endP_post h00 hk0 hp hxr hr.inv ht⟩
    | pan v =>
      obtain ⟨x, rfl, hx⟩ := hmd
      exact endP_post (r := .pan v) h00 hk0 hl ⟨x, rfl, hx⟩ hr.inv ht
    | recd v => exact hl.elim
  | e :: l, ds, md, u, h, I, m, w, hl, hlen, hd, hmd, hr, ht, hk => by
    cases ds with
    | nil => simp at hlen
    | cons d ds =>
      have hlen' : l.length = ds.length := by simpa using hlen
      have hd0 : DRel I m e d := hd 0 e d rfl rfl
      have hd' : ∀ (i : Nat) (e : AV) (d : Deferred), l[i]? = some e → ds[i]? = some d → DRel I m e d := fun i e d h1 h2 => hd (i + 1) e d (by simpa using h1) (by simpa using h2)
      refine ⟨hmd.not_run, ?_⟩
      cases e with
      | it o =>
        rw [leaveP] at hl
        obtain ⟨hq, hl⟩ := hl
        obtain ⟨r, rfl, ho, hro⟩ := hd0
        left
        unfold isQueue at hq
        split at hq
        · rename_i hob
          obtain ⟨b, e1, hb⟩ := hr.inv.obj o _ m[o] hob (by simp [ho])
          have hmo : m[o]? = some (.whole b) := by rw [← e1]; simp [ho]
          have := hro b hmo
          subst this
          obtain ⟨hi', ht', hm'⟩ := hr.inv.setWhole (o' := .dead) (l' := .dead) (d := .deferred none) hmo hb rfl rfl (.dead _) (fun b' p hp => hp.elim) rfl
          refine ⟨r, _, rfl, run_takeDeferred hb, ?_⟩
          refine leaves_sound h00 hk0 hres l ds md u _ I _ _ hl hlen' (fun i e d h1 h2 => (hd' i e d h1 h2).mono (.refl I) hm') (hmd.mono (.refl I) hm') ⟨hi', hr.env.trans (ht' k) hm', hr.size, hr.defers.mono (.refl I) hm', hr.ro.mono hm'⟩ (ht.trans (ht' k)) (by simpa using hk)
        · cases hq
      | tup vs =>
        cases vs with
        | nil => simp [leaveP] at hl
        | cons v args =>
          cases v with
          | fn f fa fb =>
            cases f with
            | func f =>
              rw [leaveP] at hl
              obtain ⟨R', ⟨hb, hcall⟩, hl⟩ := hl
              obtain ⟨fs, cs, as, h1, h2, h3, rfl⟩ := hd0
              right
              refine ⟨fun h => (by cases h), .func f, cs.toArray, f, (fs ++ as ++ cs).toArray, rfl, ?_, fun _ _ => trivial, ?_⟩
              · simp only [invoke]
                have := enter_run (w := w) (vs := (fs ++ as ++ cs).toArray) hb
                simpa using this
              · have := hcall I m w (fs ++ as ++ cs) u hr.inv ((h1.append h3).append h2) hmd
                refine CallsDIn.mono this fun e u' w' ⟨⟨x, hx⟩, md2, h2, I2, m2, hR, hmd2, hi2, ht2⟩ => ?_
                subst hx
                have hm2 := ht2.locs hr.inv.len
                have ht2' : Trans k I m w I2 m2 w' := ht2.mono (by rw [← hr.inv.len]; exact hk)
                exact leaves_sound h00 hk0 hres l ds _ _ h2 I2 m2 w' (hl md2 h2 hR) hlen' (fun i e d h1 h2 => (hd' i e d h1 h2).mono ht2'.imm hm2) hmd2.settled ⟨hi2, hr.env.trans ht2' hm2, hr.size, hr.defers.mono ht2'.imm hm2, hr.ro.mono hm2⟩ (ht.trans ht2') (ht2'.len hk)
            | _ => simp [leaveP] at hl
          | _ => simp [leaveP] at hl
      | _ => simp [leaveP] at hl

theorem deferred_rel {env : Env} {l : List AV} {I : Imm} {m : Locs} {ds : List Deferred} (h : deferred env = some l) (hd : DefRel I m (env.get dslot) ds) : l.length = ds.length ∧ ∀ (i : Nat) (e : AV) (d : Deferred), l[i]? = some e → ds[i]? = some d → DRel I m e d := by
  unfold deferred at h
  split at h
  · rename_i hg
    rw [hg] at hd
    have hd : ds = [] := hd
    simp at h; subst h hd
    exact ⟨rfl, fun i e d h1 => by simp at h1⟩
  · rename_i l' hg
    rw [hg] at hd
    simp at h; subst h
    exact hd
  · cases h

/-- FROM A BODY'S RUN TO THE FUNCTION'S CONTRACT. -/
theorem acalls_of_code {P : Program} {G : Globs} {f : FuncId} {fn : Func} {ann : List Nat} {ac : ACode} {rs : List ResA} {args : List AV} {h : AHeap} {R : AEnd → AHeap → Prop}
    (hf : P.funcs[f]? = some fn) (hb : hasBody P f = true) (hc : fn.body.bind (compCode P ann fn.ntmps) = some ac) (hres : mapM' (compRes P) fn.results.toList = some rs) (hargs : args.length ≤ fn.ntmps) (hds : args.length ≤ dslot)
    (hw : AWp ⟨P, G, fn.ntmps, ann, h.length, none⟩ ac (retPost P G h rs R) (initEnv args) h) : ACalls P G f args h R := by
  refine ⟨hb, fun I m w vs hi ha => ?_⟩
  simp only [Option.bind_eq_some_iff] at hc
  obtain ⟨c, hbody, hc⟩ := hc
  have hlen : vs.length = args.length := ha.1.symm
  have hnd : (initEnv args).get dslot = none := by
    unfold initEnv
    rw [numFrom_get]
    simp [hds]
  have hr : Rel G fn.ntmps (none, none) w.heap.size I m (initEnv args) h { tmps := vs.toArray ++ Array.replicate (fn.ntmps - vs.toArray.size) undef, defers := [] } w :=
    ⟨hi, initRel ha w.heap.size, by simp; omega, by rw [hnd]; rfl, trivial⟩
  refine callsIn_wide.1 (callsIn_of_wp_marks (n := 0) hf hbody trivial (wpIn_mono (hw c hc none I m w I m _ w (.refl h.length I m w) (by rw [hi.len]; exact Nat.le_refl _) hr) fun e a' w' ⟨x, env, h', I', m', h1, h2, h3, h4, h5⟩ => ?_))
  have fin : ∀ md u, (match deferred env with | some l => leaveP P G h rs R env l md h' | none => False) → ModeRel I' m' md u → LeavesInM Fence.wide 0 P fn a'.tmps (EndPost G h.length I m w R) a'.defers u w' := by
    intro md u hp hmd
    split at hp
    · rename_i l hl
      obtain ⟨g1, g2⟩ := deferred_rel hl h3.defers
      exact leaves_sound hi rfl hres l a'.defers md u h' I' m' w' hp g1 g2 hmd h3 h4 h5
    · exact hp.elim
  cases x with
  | normal => cases e <;> simp only [ExitRel] at h2; exact fin .ret _ h1 rfl
  | ret => cases e <;> simp only [ExitRel] at h2; exact fin .ret _ h1 rfl
  | pan v =>
    cases e <;> simp only [ExitRel] at h2
    obtain ⟨x, rfl, hx⟩ := h2
    exact fin (.pan v) _ h1 ⟨x, rfl, hx⟩
  | exit id => exact h1.elim

/-! ## code as one predicate -/
def codeWp (C : Cx) : ACode → APost → Env → AHeap → Prop
  | .skip, Q, env, h => Q .normal env h
  | .reg l, Q, env, h => opsWp C l Q env h
  | .dreg l, Q, env, h => drawWp C l Q env h
  | .seq a b, Q, env, h => codeWp C a (thenP (fun env h => codeWp C b Q env h) Q) env h
  | .cond c a b, Q, env, h => ∃ t, evalOpd C.G env c = some (.sc (.bool t)) ∧ (t = true → codeWp C a Q env h) ∧ (t = false → codeWp C b Q env h)
  | .block id a, Q, env, h => codeWp C a (blockP id Q) env h
  | .scope a, Q, env, h => codeWp C a Q env h
  | .loop a, Q, env, h => AWp C (.loop a) Q env h
  | .rangeF g ps a b, Q, env, h => AWp C (.rangeF g ps a b) Q env h
  | .exit id, Q, env, h => Q (.exit id) env h
  | .ret, Q, env, h => Q .ret env h

theorem codeWp_sound {C : Cx} (hm : C.P.follows .mixedOrders = true) : ∀ {ac : ACode} {Q : APost} {env : Env} {h : AHeap}, codeWp C ac Q env h → AWp C ac Q env h
  | .skip, Q, env, h, hw => .skip hw
  | .reg l, Q, env, h, hw => .reg hw
  | .dreg l, Q, env, h, hw => .dreg hm hw
  | .seq a b, Q, env, h, hw => .seq ((codeWp_sound hm (ac := a) hw).mono fun e env h he => by
      cases e with
      | normal => exact codeWp_sound hm (ac := b) he
      | _ => exact he)
  | .cond c a b, Q, env, h, ⟨t, h1, h2, h3⟩ => .cond h1 (fun ht => codeWp_sound hm (h2 ht)) (fun hf => codeWp_sound hm (h3 hf))
  | .block id a, Q, env, h, hw => .block (codeWp_sound hm (ac := a) hw)
  | .scope a, Q, env, h, hw => .scope (codeWp_sound hm (ac := a) hw)
  | .loop a, Q, env, h, hw => hw
  | .rangeF g ps a b, Q, env, h, hw => hw
  | .exit id, Q, env, h, hw => .exit hw
  | .ret, Q, env, h, hw => .ret hw

/-- A loop whose n-th head is known: slots 'E i', heap 'H i'. -/
theorem AWp.count {C : Cx} {x : ACode} {Q : APost} {env : Env} {h : AHeap} (n : Nat) (E : Nat → Env) (H : Nat → AHeap) (hm : C.P.follows .mixedOrders = true) (h0 : EnvLe (E 0) env) (hH : h = H 0)
    (round : ∀ i, i < n → codeWp C x (thenP (fun env' h' => EnvLe (E (i + 1)) env' ∧ h' = H (i + 1)) Q) (E i) (H i))
    (last : codeWp C x (thenP (fun _ _ => False) Q) (E n) (H n)) : AWp C (.loop x) Q env h := by
  refine .loop (fun k env h => ∃ i, i ≤ n ∧ k = n - i ∧ EnvLe (E i) env ∧ h = H i) (n0 := n) ⟨0, Nat.zero_le n, by simp, h0, hH⟩ ?_
  rintro k env h ⟨i, hi, rfl, he, rfl⟩
  refine AWp.weaken ?_ he
  by_cases hlt : i < n
  · refine (codeWp_sound hm (round i hlt)).mono fun e env' h' hp => ?_
    cases e with
    | normal => exact ⟨n - (i + 1), by omega, i + 1, by omega, rfl, hp.1, hp.2⟩
    | _ => exact hp
  · have : i = n := by omega
    subst this
    refine (codeWp_sound hm last).mono fun e env' h' hp => ?_
    cases e with
    | normal => exact hp.elim
    | _ => exact hp

end Go.Apx
