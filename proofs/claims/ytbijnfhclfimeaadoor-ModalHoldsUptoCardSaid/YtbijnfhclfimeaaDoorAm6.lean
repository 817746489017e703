/- ABSTRACT MACHINE, part 6: each operation does what the abstract one says (II): arithmetic, tests, parts, addresses. -/
import Derived.Test.YtbijnfhclfimeaaDoorAm5
namespace Go.Apx
set_option linter.unusedVariables false
set_option linter.unusedSimpArgs false

section
variable {P : Program} {G : Globs} {N S k : Nat} {D : Ro} {o : Oper} {a : Act} {I : Imm} {m : Locs} {w : World} {env : Env} {h : AHeap} {ann : List Nat}

theorem run_eqGuard_basic {op : BinOp} {t : TypeId} {x y : Operand} {u v r : Value} (h : binV op u v = some r) : (eqGuard op t x y u v).run P w = .ok () w := by
  unfold binV at h
  split at h
  · cases op <;> simp [eqGuard]
  · cases op <;> simp [eqGuard]
  · cases h

theorem run_binOp_basic {op : BinOp} {t : TypeId} {u v r : Value} (h : binV op u v = some r) : (binOp op t u v).run P w = .ok r w := by
  unfold binV at h
  split at h
  · rename_i k x k' y
    cases op <;> simp [isShift, shiftV, intV] at h <;> first
      | (obtain ⟨h1, h2⟩ := h; subst h2; simp [binOp, Op.shift, Int.not_lt.2 h1]; done)
      | (obtain ⟨h1, h3, h2⟩ := h; subst h2; subst h1; simp [binOp, Op.intDiv, h3]; done)
      | (obtain ⟨h1, h2⟩ := h; subst h2; subst h1; simp [binOp, Op.intArith, Op.intBits, Op.intCmp]; done)
      | (obtain ⟨h1, h3⟩ := h; split at h3 <;> simp_all [binOp, Op.shift, Op.intDiv]; done)
  · rename_i s s'
    cases op <;> simp [strV] at h <;> first
      | (subst h; simp [binOp, Op.stringOp]; done)
      | (obtain ⟨h1, h2⟩ := h; subst h2; simp [binOp, Op.stringOp]; omega)
  · cases h

theorem snd_bin {op : BinOp} {t t' : TypeId} {x y : Operand} {x' y' : Opd} {v : AV} {h' : AHeap} (ho : o.op = .binOp op t x y t') (hx : compOpd x = some x') (hy : compOpd y = some y')
    (hr : Rel G N D S I m env h a w) (he : evalOp G env h (.bin op x' y') = some (v, h')) : Does P G k o a I m w v h' := by
  simp only [evalOp] at he
  split at he
  · rename_i u u' hu hu'
    simp only [Option.map_eq_some_iff, Prod.mk.injEq] at he
    obtain ⟨r, hb, rfl, rfl⟩ := he
    have h1 := rel_sc (opd_sound hx hr hu)
    have h2 := rel_sc (opd_sound hy hr hu')
    refine .same hr.inv (.sc r) (.inl ?_)
    simp [execOp, ho, h1, h2, run_eqGuard_basic hb, run_binOp_basic hb]
  · cases he

theorem run_equal {t : TypeId} {x y : Value} : (Op.equal t x y).run P w = (Op.equalIn (9999 + 1) t x y).run P w := rfl

theorem snd_eqb {op : BinOp} {t t' : TypeId} {x y : Operand} {x' y' : Opd} {v : AV} {h' : AHeap} (ho : o.op = .binOp op t x y t') (hop : op = .eql ∨ op = .neq)
    (ht : P.underlying t = some .bool) (hx : compOpd x = some x') (hy : compOpd y = some y')
    (hr : Rel G N D S I m env h a w) (he : evalOp G env h (.eqb (op matches .neq) x' y') = some (v, h')) : Does P G k o a I m w v h' := by
  simp only [evalOp] at he
  split at he
  · rename_i u u' hu hu'
    simp only [Option.some.injEq, Prod.mk.injEq] at he
    obtain ⟨rfl, rfl⟩ := he
    have h1 := rel_sc (opd_sound hx hr hu)
    have h2 := rel_sc (opd_sound hy hr hu')
    have he : (Op.equal t (.bool u) (.bool u')).run P w = .ok (u == u') w := by
      rw [run_equal]; unfold Op.equalIn; simp only [Sem.run_bind, run_under ht, Result.andThen_ok, Sem.run_pure]
    refine .same hr.inv (.sc _) (.inl ?_)
    rcases hop with rfl | rfl
    · have hb : binOp .eql t (.bool u) (.bool u') = (do pure (.bool (← Op.equal t (.bool u) (.bool u')))) := rfl
      simp only [execOp, ho, h1, h2, hb, eqGuard, Sem.run_bind, Sem.run_pure, he, Result.andThen_ok]
      simp [he]
    · have hb : binOp .neq t (.bool u) (.bool u') = (do pure (.bool (!(← Op.equal t (.bool u) (.bool u'))))) := rfl
      simp only [execOp, ho, h1, h2, hb, eqGuard, Sem.run_bind, Sem.run_pure, he, Result.andThen_ok]
      simp [he]
  · cases he

def NilK.fits : NilK → Value → Bool → Prop
  | .sl, x, b => ∃ p n c, x = .slice p n c ∧ p.isNone = b
  | .map, x, b => ∃ p, x = .map p ∧ p.isNone = b
  | .fn, x, b => (b = true ∧ x = .nilFunc) ∨ (b = false ∧ ∃ f s c, x = .func f s c)
  | .ptr, x, b => ∃ p, x = .pointer p ∧ p.isNone = b
  | .ifc, x, b => (b = true ∧ x = .nilIface) ∨ (b = false ∧ ∃ t y, x = .iface t y)

theorem isNilK_fits {q : NilK} {v : AV} {x : Value} {b : Bool} (h : AVRel I m v x) (hq : isNilK q v = some b) : q.fits x b := by
  cases h with
  | sc x =>
    cases q <;> simp only [isNilK] at hq
    · cases hq
    all_goals
      split at hq
      · simp at hq; subst hq; simp [NilK.fits]
      · cases hq
  | slnil k => cases q <;> simp [isNilK] at hq; subst hq; exact ⟨none, 0, 0, rfl, rfl⟩
  | sl k es c a cap vs hc hle hk hw h1' hl h hI hs hcap =>
    cases q <;> simp [isNilK] at hq
    subst hq
    exact ⟨some a, _, cap, rfl, by simpa using hc⟩
  | rf o g off len full a cap ho hle hf h => cases q <;> simp [isNilK] at hq; subst hq; exact ⟨some a, len, cap, rfl, rfl⟩
  | mp o r ho h => cases q <;> simp [isNilK] at hq; subst hq; exact ⟨some r, rfl, rfl⟩
  | fn f first captured fs cs hl hl' h h' => cases q <;> simp [isNilK] at hq; subst hq; exact .inr ⟨rfl, _, _, _, rfl⟩
  | ip v a vs h1' hl h hI hs => cases q <;> simp [isNilK] at hq; subst hq; exact ⟨some a, rfl, rfl⟩
  | ptr o g off a ho h => cases q <;> simp [isNilK] at hq; subst hq; exact ⟨some a, rfl, rfl⟩
  | ifc t v x h => cases q <;> simp [isNilK] at hq; subst hq; exact .inr ⟨rfl, _, _, rfl⟩
  | it o r ho h => cases q <;> simp [isNilK] at hq
  | yld o r ho h => cases q <;> simp [isNilK] at hq
  | agg cs vs hl h1 h => cases q <;> simp [isNilK] at hq
  | tup cs vs hl h => cases q <;> simp [isNilK] at hq

def NilK.under : NilK → TypeDesc → Prop
  | .sl, d => ∃ e, d = .slice e
  | .map, d => ∃ e f, d = .map e f
  | .fn, d => ∃ e f g, d = .func e f g
  | .ptr, d => ∃ e, d = .pointer e
  | .ifc, d => ∃ e, d = .interface e

theorem eqKind_nil {t : TypeId} {q : NilK} (h : eqKind P 10 t = some (.nilable q)) : ∃ d, P.underlying t = some d ∧ q.under d := by
  rw [show 10 = 9 + 1 from rfl] at h
  unfold eqKind at h
  split at h
  all_goals first
    | (cases h; done)
    | (rename_i hd; simp at h; subst h; exact ⟨_, hd, by simp [NilK.under]⟩)
    | (split at h <;> first | (cases h; done) | (split at h <;> cases h))

/-- One of the two is nil: '==' says whether the other is. -/
theorem run_equal_nil {t : TypeId} {q : NilK} {d : TypeDesc} (hd : P.underlying t = some d) (hu : q.under d) {x y : Value} {b c : Bool}
    (hx : q.fits x b) (hy : q.fits y c) (hbc : b = true ∨ c = true) : (Op.equal t x y).run P w = .ok (b && c) w := by
  rw [run_equal]
  unfold Op.equalIn
  cases q with
  | sl =>
    obtain ⟨e, rfl⟩ := hu
    obtain ⟨p, n, k, rfl, rfl⟩ := hx
    obtain ⟨p', n', k', rfl, rfl⟩ := hy
    cases p <;> cases p' <;> simp [run_under hd] at hbc ⊢
  | map =>
    obtain ⟨e, f, rfl⟩ := hu
    obtain ⟨p, rfl, rfl⟩ := hx
    obtain ⟨p', rfl, rfl⟩ := hy
    cases p <;> cases p' <;> simp [run_under hd] at hbc ⊢
  | fn =>
    obtain ⟨e, f, g, rfl⟩ := hu
    rcases hx with ⟨rfl, rfl⟩ | ⟨rfl, _, _, _, rfl⟩ <;> rcases hy with ⟨rfl, rfl⟩ | ⟨rfl, _, _, _, rfl⟩ <;> simp [run_under hd] at hbc ⊢
  | ptr =>
    obtain ⟨e, rfl⟩ := hu
    obtain ⟨p, rfl, rfl⟩ := hx
    obtain ⟨p', rfl, rfl⟩ := hy
    cases p <;> cases p' <;> simp [run_under hd] at hbc ⊢
  | ifc =>
    obtain ⟨e, rfl⟩ := hu
    rcases hx with ⟨rfl, rfl⟩ | ⟨rfl, _, _, rfl⟩ <;> rcases hy with ⟨rfl, rfl⟩ | ⟨rfl, _, _, rfl⟩ <;> simp [run_under hd] at hbc ⊢

theorem nilConst_true {x : Operand} (h : isNilConst x = true) {q : NilK} {b : Bool} (hf : q.fits (a.eval x) b) : b = true := by
  cases x with
  | const c =>
    simp only [Act.eval] at hf
    cases c with
    | pointer p => cases p <;> simp [isNilConst] at h <;> cases q <;> simp [NilK.fits] at hf <;> simp [hf]
    | slice p n c => cases p <;> simp [isNilConst] at h <;> cases q <;> simp [NilK.fits] at hf <;> simp [hf]
    | map p => cases p <;> simp [isNilConst] at h <;> cases q <;> simp [NilK.fits] at hf <;> simp [hf]
    | nilFunc => cases q <;> simp [NilK.fits] at hf <;> simp [hf]
    | nilIface => cases q <;> simp [NilK.fits] at hf <;> simp [hf]
    | _ => simp [isNilConst] at h
  | _ => simp [isNilConst] at h

theorem snd_eqnil {op : BinOp} {t t' : TypeId} {x y : Operand} {x' y' : Opd} {v : AV} {h' : AHeap} {q : NilK} (ho : o.op = .binOp op t x y t') (hop : op = .eql ∨ op = .neq)
    (ht : eqKind P 10 t = some (.nilable q)) (hc : (isNilConst x || isNilConst y) = true) (hx : compOpd x = some x') (hy : compOpd y = some y')
    (hr : Rel G N D S I m env h a w) (he : evalOp G env h (.eqnil q (op matches .neq) x' y') = some (v, h')) : Does P G k o a I m w v h' := by
  obtain ⟨d, hd, hu⟩ := eqKind_nil ht
  simp only [evalOp] at he
  split at he
  · rename_i u u' hu1 hu2
    split at he
    · rename_i p r hp hp'
      simp only [Option.some.injEq, Prod.mk.injEq] at he
      obtain ⟨rfl, rfl⟩ := he
      have f1 := isNilK_fits (opd_sound hx hr hu1) hp
      have f2 := isNilK_fits (opd_sound hy hr hu2) hp'
      have hpr : p = true ∨ r = true := by
        rcases Bool.or_eq_true _ _ ▸ hc with hc | hc
        · exact .inl (nilConst_true hc f1)
        · exact .inr (nilConst_true hc f2)
      have heq := run_equal_nil (w := w) hd hu f1 f2 hpr
      have hguard : (eqGuard op t x y (a.eval x) (a.eval y)).run P w = .ok () w := by
        cases q with
        | sl => obtain ⟨p, n, k, e1, _⟩ := f1; obtain ⟨p', n', k', e2, _⟩ := f2; rw [e1, e2]; simp [eqGuard]
        | map => obtain ⟨p, e1, _⟩ := f1; obtain ⟨p', e2, _⟩ := f2; rw [e1, e2]; simp [eqGuard]
        | ptr => obtain ⟨p, e1, _⟩ := f1; obtain ⟨p', e2, _⟩ := f2; rw [e1, e2]; simp [eqGuard]
        | fn => rcases f1 with ⟨_, e1⟩ | ⟨_, _, _, _, e1⟩ <;> rcases f2 with ⟨_, e2⟩ | ⟨_, _, _, _, e2⟩ <;> rw [e1, e2] <;> simp [eqGuard]
        | ifc =>
          rcases f1 with ⟨_, e1⟩ | ⟨_, _, _, e1⟩ <;> rcases f2 with ⟨_, e2⟩ | ⟨_, _, _, e2⟩ <;> rw [e1, e2]
          · cases x <;> cases y <;> simp [isNilConst] at hc <;> simp [eqGuard]
          all_goals simp [eqGuard]
      have hbin : ∀ (z : Value) (z' : Value) , q.fits z p → q.fits z' r → binOp .eql t z z' = (do pure (.bool (← Op.equal t z z'))) ∧ binOp .neq t z z' = (do pure (.bool (!(← Op.equal t z z')))) := by
        intro z z' g1 g2
        cases q with
        | sl => obtain ⟨p, n, k, rfl, _⟩ := g1; obtain ⟨p', n', k', rfl, _⟩ := g2; exact ⟨rfl, rfl⟩
        | map => obtain ⟨p, rfl, _⟩ := g1; obtain ⟨p', rfl, _⟩ := g2; exact ⟨rfl, rfl⟩
        | ptr => obtain ⟨p, rfl, _⟩ := g1; obtain ⟨p', rfl, _⟩ := g2; exact ⟨rfl, rfl⟩
        | fn => rcases g1 with ⟨_, rfl⟩ | ⟨_, _, _, _, rfl⟩ <;> rcases g2 with ⟨_, rfl⟩ | ⟨_, _, _, _, rfl⟩ <;> exact ⟨rfl, rfl⟩
        | ifc => rcases g1 with ⟨_, rfl⟩ | ⟨_, _, _, rfl⟩ <;> rcases g2 with ⟨_, rfl⟩ | ⟨_, _, _, rfl⟩ <;> exact ⟨rfl, rfl⟩
      refine .same hr.inv (.sc _) (.inl ?_)
      rcases hop with rfl | rfl
      · simp only [execOp, ho, (hbin _ _ f1 f2).1, Sem.run_bind, hguard, Sem.run_pure, heq, Result.andThen_ok]
        simp [heq]
      · simp only [execOp, ho, (hbin _ _ f1 f2).2, Sem.run_bind, hguard, Sem.run_pure, heq, Result.andThen_ok]
        simp [heq]
    · cases he
  · cases he

end
end Go.Apx
