/- ABSTRACT MACHINE, part 22: deferred calls that recover. -/
import Derived.Test.YtbijnfhclfimeaaDoorAm21
import Derived.RecoverIn
namespace Go.Apx
set_option linter.unusedVariables false
set_option linter.unusedSimpArgs false

/-- Items that neither call nor panic. -/
def plainWp (G : Globs) : List AItem → (Env → AHeap → Prop) → Env → AHeap → Prop
  | [], K, env, h => K env h
  | it :: r, K, env, h => it.guard = none ∧ match evalOp G env h it.op with
    | some (v, h') => plainWp G r K (putD env it.dst v) h'
    | none => False

/-- What recover hands back, and how the frame goes out then. -/
def recV : AMode → AV × AMode
  | .pan v => (v, .recd v)
  | md => (.sc .nilIface, md)

def AMode.inb (n : Nat) : AMode → Bool
  | .ret => true
  | .pan v => v.inb n
  | .recd v => v.inb n

def dPost (G : Globs) (h0 : AHeap) (rs : List ResA) (R : AMode → AHeap → Prop) (md : AMode) : APost
  | .normal, env, h | .ret, env, h => deferred env = some [] ∧ (∃ v, evalRes G env h rs = some v) ∧
      (R md h ∨ ∃ n, h0.length ≤ n ∧ n ≤ h.length ∧ md.inb n = true ∧ Cl h0 h n ∧ R md (h.take n))
  | _, _, _ => False

section
variable {C : Cx} {I0 : Imm} {m0 : Locs} {w0 : World} {ops : Array Oper}

theorem plain_sound {Q : Exit → Act → List Frame → World → Prop} {K : Env → AHeap → Prop} {cs : List Frame}
    (hn : ∀ (env : Env) (h : AHeap) (I : Imm) (m : Locs) (a : Act) (w : World), K env h → Rel C.G C.N (C.ro, none) w0.heap.size I m env h a w → Trans C.k I0 m0 w0 I m w → C.k ≤ m.length → LocsLe m0 m → Q .normal a cs w) :
    ∀ (items : List AItem) (i : Nat) (env : Env) (h : AHeap) (I : Imm) (m : Locs) (a : Act) (w : World), (∀ (j : Nat) (it : AItem), items[j]? = some it → ∃ o, ops[i + j]? = some o ∧ compItem C.P C.ann C.N ops o = some it) →
      plainWp C.G items K env h → Rel C.G C.N (C.ro, none) w0.heap.size I m env h a w → Trans C.k I0 m0 w0 I m w → C.k ≤ m.length → LocsLe m0 m → wpOpsSIn Fence.wide 0 C.P ops Q (List.range' i items.length) a cs w
  | [], i, env, h, I, m, a, w, _, hw, hr, ht, hk, hl => hn env h I m a w hw hr ht hk hl
  | it :: items, i, env, h, I, m, a, w, hc, hw, hr, ht, hk, hl => by
    obtain ⟨o, ho, hco⟩ := hc 0 it rfl
    obtain ⟨hcomp, hdst, hlt, hguard, _⟩ := compItem_some hco
    simp only [plainWp] at hw
    obtain ⟨hg, hw⟩ := hw
    split at hw
    case h_2 => exact hw.elim
    rename_i v h' he
    obtain ⟨x, w', I', m', hgv, hv, hi, htr, hm⟩ := op_sound (k := C.k) hcomp hk hr he
    have hnext := plain_sound hn items (i + 1) (putD env it.dst v) h' I' m' (a.put o.dst x) w' (fun j it' hj => by
      obtain ⟨o', h1, h2⟩ := hc (j + 1) it' (by simpa using hj)
      exact ⟨o', by rw [show i + 1 + j = i + (j + 1) by omega]; exact h1, h2⟩) hw (by
        have := put_rel (dst := o.dst) hr hi htr hm hv hlt
        rw [hdst]; exact this) (ht.trans htr) (htr.len hk) (hl.trans hm)
    rw [List.length_cons, List.range'_succ]
    have ho' : ops[i]? = some o := ho
    simp only [wpOpsSIn, ho']
    refine ⟨fun _ _ => trivial, ?_⟩
    have hwant : Region.wanted o (yielded ops a.tmps) = true := by
      rcases hguard with ⟨hg1, _⟩ | ⟨j, want, d, _, _, hg2, _⟩
      · simp [Region.wanted, hg1]
      · rw [hg] at hg2; cases hg2
    rw [if_pos hwant]
    rcases hgv with hgv | ⟨hgv, hx⟩
    · simp only [hgv]; exact hnext
    · simp only [hgv]; rw [hx] at hnext; exact hnext

theorem recover_op {P : Program} {ann : List Nat} {o : Oper} {a : Act} {w : World} (hc : compOp P ann o = some .recover) : (execOp a.eval o).run P w = .ok .recover w := by
  cases hop : o.op
  case makeMap t r => cases r <;> simp [compOp, hop] at hc
  case call c =>
    simp only [compOp, hop] at hc
    split at hc
    · split at hc <;> simp at hc
    · (repeat' split at hc) <;> simp at hc
    · (repeat' split at hc) <;> simp at hc
    · (repeat' split at hc) <;> simp at hc
    · (repeat' split at hc) <;> simp at hc
    · (repeat' split at hc) <;> simp at hc
    · rename_i hcal
      simp [execOp, hop, resolve, hcal, invoke, builtin]
    · cases hc
  all_goals simp only [compOp, hop, compBin] at hc
  all_goals first
    | (simp at hc; done)
    | ((repeat' split at hc) <;> simp at hc; done)
end

theorem recV_rel {I : Imm} {m : Locs} {md : AMode} {c : Frame} {rest : List Frame} (h : ModeRel I m md c.mode) :
    (∃ x u, recoverD (c :: rest) = some (x, { c with mode := u } :: rest) ∧ AVRel I m (recV md).1 x ∧ ModeRel I m (recV md).2 u) ∨
    (recoverD (c :: rest) = none ∧ (recV md).1 = .sc .nilIface ∧ (recV md).2 = md) := by
  cases md with
  | ret =>
    right
    have h : c.mode = .returning := h
    exact ⟨by simp [recoverD, h], rfl, rfl⟩
  | pan v =>
    left
    obtain ⟨x, hx, hv⟩ := h
    exact ⟨x, .panicking [{ v := x, recovered := true }], by simp [recoverD, hx], hv, x, rfl, hv⟩
  | recd v =>
    right
    obtain ⟨x, hx, hv⟩ := h
    exact ⟨by simp [recoverD, hx], rfl, rfl⟩

theorem adefer_of_code {P : Program} {G : Globs} {f : FuncId} {fn : Func} {ann : List Nat} {ac : ACode} {d : Nat} {aft : List Nat} {rest : List AItem} {rs : List ResA} {args : List AV} {h : AHeap} {md : AMode} {R : AMode → AHeap → Prop}
    (hf : P.funcs[f]? = some fn) (hb : hasBody P f = true) (hc : fn.body.bind (compCode P ann fn.ntmps) = some (.seq (.reg (⟨some d, .recover, none, aft⟩ :: rest)) ac)) (hres : mapM' (compRes P) fn.results.toList = some rs)
    (hargs : args.length ≤ fn.ntmps) (hds : args.length ≤ dslot)
    (hw : plainWp G rest (fun env h1 => AWp ⟨P, G, fn.ntmps, ann, h.length, none⟩ ac (dPost G h rs R (recV md).2) env h1) ((initEnv args).put d (recV md).1) h) : ADefer P G f args md h R := by
  refine ⟨hb, fun I m w vs u hi ha hmd => ?_⟩
  simp only [Option.bind_eq_some_iff] at hc
  obtain ⟨c, hbody, hc⟩ := hc
  have hlen : vs.length = args.length := ha.1.symm
  have hnd : (initEnv args).get dslot = none := by
    unfold initEnv
    rw [numFrom_get]
    simp [hds]
  let C : Cx := ⟨P, G, fn.ntmps, ann, h.length, none⟩
  have hr : Rel C.G C.N (C.ro, none) w.heap.size I m (initEnv args) h { tmps := vs.toArray ++ Array.replicate (fn.ntmps - vs.toArray.size) undef, defers := [] } w :=
    ⟨hi, initRel ha w.heap.size, by simp [C]; omega, by rw [hnd]; rfl, trivial⟩
  have hkm : C.k ≤ m.length := by rw [hi.len]; exact Nat.le_refl _
  refine callsDIn_of_wpSIn hf hbody trivial fun c₀ cs hu => ?_
  cases c with
  | seq c1 c2 =>
    simp only [compCode] at hc
    split at hc
    case h_2 => cases hc
    rename_i x' y' hx hy
    simp only [Option.some.injEq, ACode.seq.injEq] at hc
    obtain ⟨rfl, rfl⟩ := hc
    cases c1 with
    | region id ops draw =>
      obtain ⟨l, hl, he⟩ := region_comp hx
      cases draw with
      | true => obtain ⟨pl, _, e⟩ := he; cases e
      | false =>
        simp only [ACode.reg.injEq] at he
        subst he
        obtain ⟨g1, g2⟩ := mapM'_some hl
        have hitem : ∀ (j : Nat) (it : AItem), (⟨some d, .recover, none, aft⟩ :: rest)[j]? = some it → ∃ o, ops[j]? = some o ∧ compItem C.P C.ann C.N ops o = some it := fun j it hj => by
          obtain ⟨o, ho⟩ := get_of_lt g1 hj
          exact ⟨o, by rw [← Array.getElem?_toList]; exact ho, g2 j o it ho hj⟩
        refine wpSIn_seq (wpSIn_region ?_)
        rw [List.range_eq_range', show ops.size = rest.length + 1 by simpa using g1, List.range'_succ]
        obtain ⟨o, ho, hco⟩ := hitem 0 _ rfl
        obtain ⟨hcomp, hdst, hlt, hguard, _⟩ := compItem_some hco
        have hdst' : o.dst = some d := hdst.symm
        have hrun := recover_op (a := { tmps := vs.toArray ++ Array.replicate (fn.ntmps - vs.toArray.size) undef, defers := [] }) (w := w) hcomp
        have hwant : Region.wanted o (yielded ops (vs.toArray ++ Array.replicate (fn.ntmps - vs.toArray.size) undef)) = true := by
          rcases hguard with ⟨hg1, _⟩ | ⟨j, want, d, _, _, hg2, _⟩
          · simp [Region.wanted, hg1]
          · cases hg2
        have ho' : ops[0]? = some o := ho
        rw [wpOpsSIn, ho']
        refine ⟨fun _ _ => trivial, ?_⟩
        rw [if_pos hwant, hrun]
        have hmd' : ModeRel I m md c₀.mode := by rw [hu]; exact hmd
        -- the rest, under the mode that recover has left
        have main : ∀ (x : Value) (u2 : FrameMode), AVRel I m (recV md).1 x → ModeRel I m (recV md).2 u2 →
            wpOpsSIn Fence.wide 0 P ops (Exit.thenS (c2.wpSIn Fence.wide 0 P (bodyPostS P fn c₀ cs fun e u' w' => (∃ x, e = .returned x) ∧ ∃ md' h' I' m', R md' h' ∧ ModeRel I' m' md' u' ∧ Inv G I' m' h' w' ∧ Trans h.length I m w I' m' w'))
              (bodyPostS P fn c₀ cs fun e u' w' => (∃ x, e = .returned x) ∧ ∃ md' h' I' m', R md' h' ∧ ModeRel I' m' md' u' ∧ Inv G I' m' h' w' ∧ Trans h.length I m w I' m' w')) (List.range' 1 rest.length)
              (({ tmps := vs.toArray ++ Array.replicate (fn.ntmps - vs.toArray.size) undef, defers := [] } : Act).put o.dst x) ({ c₀ with mode := u2 } :: cs) w := by
          intro x u2 hxr hmd2
          have hr2 : Rel C.G C.N (C.ro, none) w.heap.size I m ((initEnv args).put d (recV md).1) h (({ tmps := vs.toArray ++ Array.replicate (fn.ntmps - vs.toArray.size) undef, defers := [] } : Act).put o.dst x) w := by
            have := put_rel (k := C.k) (dst := o.dst) hr hr.inv (.refl C.k I m w) (.refl m) hxr hlt
            rw [hdst'] at this ⊢
            exact this
          refine plain_sound (C := C) (I0 := I) (m0 := m) (w0 := w) (K := fun env h1 => AWp C y' (dPost G h rs R (recV md).2) env h1) ?_ rest 1 _ h I m _ w (fun j it hj => by
            have := hitem (j + 1) it (by simpa using hj)
            rw [Nat.add_comm]; exact this) hw hr2 (.refl C.k I m w) hkm (.refl m)
          intro env h1 I1 m1 a1 w1 hK hr1 ht1 hk1 hl1
          refine wpSIn_of_wpIn rfl (wpIn_mono (hK c2 hy none I m w I1 m1 a1 w1 ht1 hk1 hr1) fun e a' w' ⟨ex, env', h', I', m', q1, q2, q3, q4, q5⟩ => ?_)
          have hlm : LocsLe m m' := q4.locs hi.len
          have fin : dPost G h rs R (recV md).2 .ret env' h' → a'.defers = [] ∧ ∃ u', ({ c₀ with mode := u2 } :: cs : List Frame) = { c₀ with mode := u' } :: cs ∧ ∃ v, (results fn a'.tmps).run P w' = .ok v w' ∧
              ((∃ x, Ending.returned v = .returned x) ∧ ∃ md' h' I' m', R md' h' ∧ ModeRel I' m' md' u' ∧ Inv G I' m' h' w' ∧ Trans h.length I m w I' m' w') := by
            rintro ⟨hd1, ⟨v, hv⟩, hR⟩
            have hd2 : a'.defers = [] := List.eq_nil_of_length_eq_zero (deferred_rel hd1 q3.defers).1.symm
            obtain ⟨z, hz, _⟩ := evalRes_run hres q3 hv
            refine ⟨hd2, u2, rfl, z, hz, ⟨z, rfl⟩, ?_⟩
            have hmd3 := hmd2.mono q4.imm hlm
            rcases hR with hR | ⟨n, n1, n2, n3, n4, hR⟩
            · exact ⟨_, h', I', m', hR, hmd3, q3.inv, q4⟩
            · refine ⟨_, h'.take n, I', m'.take n, hR, ?_, q3.inv.take n (n4.inb hi n1) n2, q4.take n1⟩
              have hcut : ∀ {v : AV} {x : Value}, AVRel I' m' v x → v.inb n = true → AVRel I' (m'.take n) v x := fun hx hb =>
                hx.cut (n := n) (by simp; have := q3.inv.len; omega) (fun j hj => by rw [List.getElem?_take, if_pos hj]) hb
              generalize (recV md).2 = md4 at hmd3 n3
              cases md4 with
              | ret => exact hmd3
              | pan v => obtain ⟨x, h1, h2⟩ := hmd3; exact ⟨x, h1, hcut h2 n3⟩
              | recd v => obtain ⟨x, h1, h2⟩ := hmd3; exact ⟨x, h1, hcut h2 n3⟩
          cases ex with
          | normal => cases e <;> simp only [ExitRel] at q2; exact fin q1
          | ret => cases e <;> simp only [ExitRel] at q2; exact fin q1
          | exit id => exact q1.elim
          | pan v => exact q1.elim
        rcases recV_rel (rest := cs) hmd' with ⟨x, u2, e1, e2, e3⟩ | ⟨e1, e2, e3⟩
        · rw [e1]
          exact main x u2 e2 e3
        · rw [e1]
          have := main .nilIface c₀.mode (by rw [e2]; exact .sc _) (by rw [e3]; exact hmd')
          exact this
    | _ => simp only [compCode] at hx <;> first | (simp at hx; done) | ((repeat' split at hx) <;> simp at hx; done)
  | region id ops draw => exact (not_region hc (by rintro _ e; cases e) (by rintro _ e; cases e)).elim
  | _ => simp only [compCode] at hc <;> first | (simp at hc; done) | ((repeat' split at hc) <;> simp at hc; done)

/-- A word of 64 bits without sign. -/
def v64 (b : BitVec 64) : Value := .int .u64 (b.toNat : Int)

end Go.Apx
