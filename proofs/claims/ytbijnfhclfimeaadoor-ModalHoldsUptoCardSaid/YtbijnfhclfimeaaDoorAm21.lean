/- ABSTRACT MACHINE, part 21: ranges over functions; deferred calls that recover. -/
import Derived.Test.YtbijnfhclfimeaaDoorAm20
import Derived.RangeFuncNested
namespace Go.Apx
set_option linter.unusedVariables false
set_option linter.unusedSimpArgs false

def noPend (env : Env) : Bool := env.all fun p => match p.2 with | .pend _ => false | _ => true

theorem noPend_get {env : Env} (h : noPend env = true) {t : Nat} {v : AV} (hv : env.get t = some v) : ∀ n, v ≠ .pend n := by
  intro n e
  subst e
  unfold noPend at h
  rw [List.all_eq_true] at h
  have := h _ (Env.get_mem hv)
  simp at this

/-- The record of a loop, at its end. -/
def rangeEnd (Q : APost) (env : Env) (ol : Nat) : AEnd → AHeap → Prop
  | .pan v, h => Q (.pan v) env h
  | .ret _, h => match h[ol]? with
    | some (.loop _ _ st pd) => st ≠ .busy ∧ (match pd with
      | none => Q .normal env (h.set ol .dead)
      | some .ret => Q .ret env (h.set ol .dead)
      | some (.exit id) => Q (.exit id) env (h.set ol .dead)
      | _ => False)
    | _ => False

def XOk (C : Cx) (ps : List Nat) (a b : ACode) (X : LoopX) : Prop :=
  X.params.toList = ps ∧ compCode C.P C.ann C.N X.assign = some a ∧ compCode C.P C.ann C.N X.body = some b ∧ X.tmps.size = C.N ∧ ps.all (fun t => decide (t < C.N) && decide (t < dslot)) = true

theorem get_del_dslot {env : Env} {t : Nat} {v : AV} (h : (env.del dslot).get t = some v) : env.get t = some v ∧ t ≠ dslot := by
  rw [Env.get_del] at h
  split at h
  · cases h
  · rename_i e; exact ⟨h, e⟩

theorem loop_env {G : Globs} {N S : Nat} {D : Ro} {I : Imm} {m : Locs} {env : Env} {h : AHeap} {a : Act} {w : World} (hr : Rel G N D S I m env h a w) (hp : noPend env = true) :
    ∀ t v, t ≠ dslot → (env.del dslot).get t = some v → ∃ y, a.tmps[t]? = some y ∧ AVRel I m v y := by
  intro t v ht hv
  obtain ⟨hv, _⟩ := get_del_dslot hv
  obtain ⟨x, hx, hs⟩ := hr.env.get t v ht hv
  refine ⟨x, hx, ?_⟩
  cases v with
  | pend n => exact absurd rfl (noPend_get hp hv n)
  | _ => exact hs

theorem ObjRel.loopNew {I : Imm} {m : Locs} {w : World} {env : Env} {b : Nat} {r : Loop} (hb : w.heap[b]? = some (.loop r)) (henv : ∀ t v, t ≠ dslot → env.get t = some v → ∃ y, r.tmps[t]? = some y ∧ AVRel I m v y) :
    ObjRel I m w (.loop env ⟨r.fn, r.tmps, r.params, r.assign, r.body⟩ r.state r.pending) (.whole b) := ⟨b, r.defers, rfl, hb, henv⟩

/-- Behind the iterator. -/
theorem rangeEnd_sound {C : Cx} {rc : Option Nat} {I0 : Imm} {m0 : Locs} {w0 : World} {Q : APost} {env : Env} {ol l : Nat} {r : AEnd} {h : AHeap} {I : Imm} {m : Locs} {a : Act} {w : World} {e : Ending}
    (hp : rangeEnd Q env ol r h) (hE : EndRel I m r e) (hr : Rel C.G C.N (C.ro, rc) w0.heap.size I m env h a w) (ht : Trans C.k I0 m0 w0 I m w) (hk : C.k ≤ m.length) (hl : ol < m.length ∧ ∀ b, m[ol]? = some (.whole b) → l = b) :
    rangePost (fen rc) 0 C.P l (CPost C rc I0 m0 w0 Q) a e w := by
  cases r with
  | pan v =>
    cases e with
    | panicked ch => exact ⟨.pan v, env, h, I, m, hp, hE, hr, ht, hk⟩
    | returned x => exact hE.elim
    | outgrown => exact hE.elim
  | ret v =>
    cases e with
    | panicked ch => exact hE.elim
    | outgrown => exact hE.elim
    | returned x =>
      simp only [rangeEnd] at hp
      split at hp
      · rename_i en X st pd hob
        obtain ⟨hst, hp⟩ := hp
        obtain ⟨b, d, e1, hb, henv⟩ := hr.inv.obj ol _ m[ol] hob (by simp [hl.1])
        have hml : m[ol]? = some (.whole b) := by rw [← e1]; simp [hl.1]
        have := hl.2 b hml
        subst this
        obtain ⟨hi', ht', hm'⟩ := hr.inv.setWhole (o' := .dead) (l' := .dead) (d := .loop { state := .exhausted, pending := pd, fn := X.fn, tmps := X.tmps, params := X.params, assign := X.assign, body := X.body, defers := d })
          hml hb rfl rfl (.dead _) (fun b' p hp => hp.elim) rfl
        have hr' : Rel C.G C.N (C.ro, rc) w0.heap.size I (m.set ol .dead) env (h.set ol .dead) a (w.putObj l (.loop { state := .exhausted, pending := pd, fn := X.fn, tmps := X.tmps, params := X.params, assign := X.assign, body := X.body, defers := d })) :=
          ⟨hi', hr.env.trans (ht' C.k) hm', hr.size, hr.defers.mono (.refl I) hm', hr.ro.mono hm'⟩
        refine ⟨pd, _, run_endLoop hb hst, ?_⟩
        have hk' : C.k ≤ (m.set ol .dead).length := by simpa using hk
        cases pd with
        | none => exact ⟨.normal, env, _, I, _, hp, trivial, hr', ht.trans (ht' C.k), hk'⟩
        | some c =>
          cases c with
          | ret => exact wpIn_ret ⟨.ret, env, _, I, _, hp, trivial, hr', ht.trans (ht' C.k), hk'⟩
          | exit id => exact wpIn_exit ⟨.exit id, env, _, I, _, hp, rfl, hr', ht.trans (ht' C.k), hk'⟩
          | _ => exact hp.elim
      · exact hp.elim

theorem rangeF_comp {P : Program} {ann : List Nat} {N : Nat} {g : Opd} {ps : List Nat} {a b : ACode} {c : Code} (hc : compCode P ann N c = some (.rangeF g ps a b)) :
    ∃ g0 p0 a0 b0, c = .rangeFunc g0 p0 a0 b0 ∧ compOpd g0 = some g ∧ p0.toList = ps ∧ compCode P ann N a0 = some a ∧ compCode P ann N b0 = some b ∧ ps.all (fun t => decide (t < N) && decide (t < dslot)) = true := by
  cases c with
  | rangeFunc g0 p0 a0 b0 =>
    simp only [compCode] at hc
    split at hc
    · rename_i g1 a1 b1 h1 h2 h3
      split at hc
      · rename_i hall
        simp only [Option.some.injEq, ACode.rangeF.injEq] at hc
        obtain ⟨rfl, rfl, rfl, rfl⟩ := hc
        exact ⟨g0, p0, a0, b0, rfl, h1, rfl, h2, h3, hall⟩
      · cases hc
    · cases hc
  | region id ops draw => exact (not_region hc (by rintro _ e; cases e) (by rintro _ e; cases e)).elim
  | _ => simp only [compCode] at hc <;> first | (simp at hc; done) | ((repeat' split at hc) <;> simp at hc; done)

/-- A RANGE OVER A FUNCTION, in no round. -/
theorem AWp.rangeF {C : Cx} {g : Opd} {ps : List Nat} {x y : ACode} {Q : APost} {env : Env} {h : AHeap} {gf : FuncId} {fa fb dl : List AV} (hro : C.ro = none)
    (hg : evalOpd C.G env g = some (.fn (.func gf) fa fb)) (hp : noPend env = true) (hdl : deferred env = some dl)
    (hw : ∀ X, XOk C ps x y X → ∃ R, ACalls C.P C.G gf (fa ++ [.yld (h.length + 1)] ++ fb) (h ++ [.queue] ++ [.loop (env.del dslot) X .ready none]) R ∧
      ∀ r h', R r h' → rangeEnd Q (env.put dslot (.tup (.it h.length :: dl))) (h.length + 1) r h') : AWp C (.rangeF g ps x y) Q env h := by
  intro c hc rc I0 m0 w0 I m a w ht hk hr
  have hrc : rc = none := by
    have := hr.ro
    rw [hro] at this
    cases rc with
    | none => rfl
    | some l => exact this.elim
  subst hrc
  obtain ⟨g0, p0, a0, b0, rfl, hg0, hps, ha0, hb0, hall⟩ := rangeF_comp hc
  refine wpIn_rangeFunc ?_
  intro fn _
  have hgr := opd_sound hg0 hr hg
  generalize hgv : a.eval g0 = gv at hgr
  cases hgr with
  | fn _ _ _ fs cs hl hl' hfr hcr =>
    obtain ⟨R, ⟨hbody, hcall⟩, hpost⟩ := hw ⟨fn, a.tmps, p0, a0, b0⟩ ⟨hps, ha0, hb0, hr.size, hall⟩
    -- the two blocks
    obtain ⟨i1, t1, l1⟩ := hr.inv.allocNew (.deferred (some [])) [] (.whole w.heap.size) .queue (fun i x hx => by simp at hx) (fun b o hp => ⟨hp, by simp⟩) ⟨w.heap.size, rfl, heap_alloc_new⟩
    have hsz : (w.alloc (.deferred (some []))).heap.size = w.heap.size + 1 := by simp
    have hle1 : ImmLe I (I.row w.heap.size []) := Imm.row_le hr.inv.imm_new
    have hle2 : ImmLe (I.row w.heap.size []) ((I.row w.heap.size []).row (w.alloc (.deferred (some []))).heap.size []) := Imm.row_le i1.imm_new
    obtain ⟨i2, t2, l2⟩ := i1.allocNew (.loop { state := .ready, pending := none, fn, tmps := a.tmps, params := p0, assign := a0, body := b0, defers := w.heap.size }) [] (.whole (w.alloc (.deferred (some []))).heap.size)
      (.loop (env.del dslot) ⟨fn, a.tmps, p0, a0, b0⟩ .ready none) (fun i x hx => by simp at hx) (fun b o hp => ⟨hp, by simp⟩)
      (ObjRel.loopNew heap_alloc_new fun t v ht hv => by
        obtain ⟨y, hy, hyr⟩ := loop_env hr hp t v ht hv
        exact ⟨y, hy, hyr.mono (hle1.trans hle2) (l1.trans (.append _ _))⟩)
    generalize hW2 : ((w.alloc (.deferred (some []))).alloc (.loop { state := .ready, pending := none, fn, tmps := a.tmps, params := p0, assign := a0, body := b0, defers := w.heap.size })) = W2 at i2 t2
    have hml : m.length = h.length := hr.inv.len
    have tall : Trans m.length I m w _ _ _ := t1.trans (t2.mono (by simp))
    have lall := l1.trans l2
    have hrel2 : Rel C.G C.N (C.ro, none) w0.heap.size _ _ env _ a _ := ⟨i2, hr.env.trans tall lall, hr.size, hr.defers.mono tall.imm lall, hr.ro.mono lall⟩
    have hlen2 : (m ++ [Loc.whole w.heap.size] ++ [Loc.whole (w.alloc (.deferred (some []))).heap.size]).length = m.length + 2 := by simp
    have hq : (m ++ [Loc.whole w.heap.size] ++ [Loc.whole (w.alloc (.deferred (some []))).heap.size])[m.length]? = some (.whole w.heap.size) := by
      rw [List.getElem?_append_left (by simp)]; simp
    have hlp : (m ++ [Loc.whole w.heap.size] ++ [Loc.whole (w.alloc (.deferred (some []))).heap.size])[m.length + 1]? = some (.whole (w.heap.size + 1)) := by
      rw [List.getElem?_append_right (by simp)]; simp
    have hargs : AVRels ((I.row w.heap.size []).row (w.alloc (.deferred (some []))).heap.size []) (m ++ [Loc.whole w.heap.size] ++ [Loc.whole (w.alloc (.deferred (some []))).heap.size]) (fa ++ [.yld (h.length + 1)] ++ fb)
        (fs ++ [Value.func (.yield (w.heap.size + 1)) #[] #[]] ++ cs) := by
      refine ((AVRels.mono tall.imm lall ⟨hl, hfr⟩).append (.cons (.yld _ _ (by rw [hlen2]; omega) fun b hb => ?_) .nil)).append (AVRels.mono tall.imm lall ⟨hl', hcr⟩)
      rw [← hml, hlp] at hb
      simpa using hb
    refine ⟨w.heap.size + 1, [{ target := .collected w.heap.size, args := #[] }], W2, { target := .fn (.func gf) cs.toArray, args := fs.toArray ++ #[.func (.yield (w.heap.size + 1)) #[] #[]] }, W2, gf,
      (fs ++ [Value.func (.yield (w.heap.size + 1)) #[] #[]] ++ cs).toArray, W2, by rw [← hW2]; exact run_enterLoop_outer _ _ _ _ _, ?_, fun _ _ => trivial, ?_, fun h => (by cases h), ?_⟩
    · simp only [resolve, hgv]
      simp [go_sem, Deferred.ofValue, Act.eval]
    · clear hW2
      have := enter_run (w := W2) (vs := (fs ++ [Value.func (.yield (w.heap.size + 1)) #[] #[]] ++ cs).toArray) hbody
      simpa [invoke] using this
    · refine callsIn_wide.2 ((hcall _ _ _ _ i2 hargs).mono fun e w3 ⟨r, h3, I3, m3, hR, hE, hi3, ht3⟩ => ?_)
      have hlocs := ht3.locs i2.len
      have ht3' : Trans C.k _ _ _ I3 m3 w3 := ht3.mono (by simp; omega)
      have hk2 : C.k ≤ (m ++ [Loc.whole w.heap.size] ++ [Loc.whole (w.alloc (.deferred (some []))).heap.size]).length := by rw [hlen2]; omega
      refine rangeEnd_sound (ol := h.length + 1) (hpost r h3 hR) hE ?_ ((ht.trans (tall.mono hk)).trans ht3') (ht3'.len hk2) ?_
      · have hr3 := hr.env.trans (tall.trans (ht3.mono (by simp; omega))) (lall.trans hlocs)
        refine ⟨hi3, ⟨fun t v hnd hv => ?_, fun t t' n1 n2 B' g1 g2 g3 g4 => ?_⟩, hr.size, ?_, by rw [hro]; trivial⟩
        · rw [Env.get_put, if_neg hnd] at hv
          exact hr3.get t v hnd hv
        · rw [Env.get_put] at g1 g2
          split at g1
          · simp at g1
          · split at g2
            · simp at g2
            · exact hr3.apart t t' n1 n2 B' g1 g2 g3 g4
        · rw [Env.get_put, if_pos rfl]
          obtain ⟨d1, d2⟩ := deferred_rel hdl (hr.defers.mono (tall.imm.trans ht3.imm) (lall.trans hlocs))
          refine ⟨by simp [d1], fun i e d he hd => ?_⟩
          cases i with
          | zero =>
            have e1 := Option.some.inj he
            have e2 := Option.some.inj hd
            subst e1 e2
            refine ⟨w.heap.size, rfl, ?_, fun b hb => ?_⟩
            · rw [← hml]; exact hlocs.lt (by rw [hlen2]; omega)
            · have := hlocs.whole (o := h.length) (by rw [hlen2]; omega) hb
              rw [← hml, hq] at this
              simpa using this
          | succ i => exact d2 i e d (by simpa using he) (by simpa using hd)
      · refine ⟨hlocs.lt (by rw [hlen2]; omega), fun b hb => ?_⟩
        have := hlocs.whole (o := h.length + 1) (by rw [hlen2]; omega) hb
        rw [← hml, hlp] at this
        simpa using this

/-- A RANGE OVER A FUNCTION within a round. -/
theorem AWp.rangeFIn {C : Cx} {g : Opd} {ps : List Nat} {x y : ACode} {Q : APost} {env : Env} {h : AHeap} {gf : FuncId} {fa fb : List AV} {o0 : Nat} (hro : C.ro = some o0) (hl0 : isLoop h o0 = true)
    (hg : evalOpd C.G env g = some (.fn (.func gf) fa fb)) (hp : noPend env = true)
    (hw : ∀ X, XOk C ps x y X → ∃ R, ACalls C.P C.G gf (fa ++ [.yld h.length] ++ fb) (h ++ [.loop (env.del dslot) X .ready none]) R ∧
      ∀ r h', R r h' → rangeEnd Q env h.length r h') : AWp C (.rangeF g ps x y) Q env h := by
  intro c hc rc I0 m0 w0 I m a w ht hk hr
  obtain ⟨l0, hrc, ho0, hl0'⟩ : ∃ l0, rc = some l0 ∧ o0 < m.length ∧ ∀ b, m[o0]? = some (.whole b) → l0 = b := by
    have := hr.ro
    rw [hro] at this
    cases rc with
    | none => exact this.elim
    | some l => exact ⟨l, rfl, this⟩
  subst hrc
  obtain ⟨r0, hr0⟩ : ∃ r0, w.heap[l0]? = some (.loop r0) := by
    unfold isLoop at hl0
    split at hl0
    · rename_i env1 x1 st1 pd1 hob1
      obtain ⟨b, d, e, hb, _⟩ := hr.inv.obj o0 _ m[o0] hob1 (by simp [ho0])
      have e2 : m[o0]? = some (.whole b) := by rw [← e]; simp [ho0]
      rw [hl0' b e2]
      exact ⟨_, hb⟩
    · cases hl0
  obtain ⟨g0, p0, a0, b0, rfl, hg0, hps, ha0, hb0, hall⟩ := rangeF_comp hc
  refine wpIn_rangeFunc ?_
  intro fn _
  have hgr := opd_sound hg0 hr hg
  generalize hgv : a.eval g0 = gv at hgr
  cases hgr with
  | fn _ _ _ fs cs hl hl' hfr hcr =>
    obtain ⟨R, ⟨hbody, hcall⟩, hpost⟩ := hw ⟨fn, a.tmps, p0, a0, b0⟩ ⟨hps, ha0, hb0, hr.size, hall⟩
    obtain ⟨i2, t2, l2⟩ := hr.inv.allocNew (.loop { state := .ready, pending := none, fn, tmps := a.tmps, params := p0, assign := a0, body := b0, defers := r0.defers }) [] (.whole w.heap.size)
      (.loop (env.del dslot) ⟨fn, a.tmps, p0, a0, b0⟩ .ready none) (fun i x hx => by simp at hx) (fun b o hp => ⟨hp, by simp⟩)
      (ObjRel.loopNew heap_alloc_new fun t v ht hv => by
        obtain ⟨y, hy, hyr⟩ := loop_env hr hp t v ht hv
        exact ⟨y, hy, hyr.mono (Imm.row_le hr.inv.imm_new) (.append _ _)⟩)
    generalize hW2 : (w.alloc (.loop { state := .ready, pending := none, fn, tmps := a.tmps, params := p0, assign := a0, body := b0, defers := r0.defers })) = W2 at i2 t2
    have hml : m.length = h.length := hr.inv.len
    have hlen2 : (m ++ [Loc.whole w.heap.size]).length = m.length + 1 := by simp
    have hlp : (m ++ [Loc.whole w.heap.size])[m.length]? = some (.whole w.heap.size) := by simp
    have hargs : AVRels (I.row w.heap.size []) (m ++ [Loc.whole w.heap.size]) (fa ++ [.yld h.length] ++ fb) (fs ++ [Value.func (.yield w.heap.size) #[] #[]] ++ cs) := by
      refine ((AVRels.mono t2.imm l2 ⟨hl, hfr⟩).append (.cons (.yld _ _ (by rw [hlen2]; omega) fun b hb => ?_) .nil)).append (AVRels.mono t2.imm l2 ⟨hl', hcr⟩)
      rw [← hml, hlp] at hb
      simpa using hb
    refine ⟨w.heap.size, [], W2, { target := .fn (.func gf) cs.toArray, args := fs.toArray ++ #[.func (.yield w.heap.size) #[] #[]] }, W2, gf,
      (fs ++ [Value.func (.yield w.heap.size) #[] #[]] ++ cs).toArray, W2, by rw [← hW2]; exact run_enterLoop_inner hr0 _ _ _ _ _, ?_, fun _ _ => trivial, ?_, fun h => (by cases h), ?_⟩
    · simp only [resolve, hgv]
      simp [go_sem, Deferred.ofValue, Act.eval]
    · clear hW2
      have := enter_run (w := W2) (vs := (fs ++ [Value.func (.yield w.heap.size) #[] #[]] ++ cs).toArray) hbody
      simpa [invoke] using this
    · have hcc : Calls C.P gf (fs ++ [Value.func (.yield w.heap.size) #[] #[]] ++ cs).toArray W2 (rangePost (fen (some l0)) 0 C.P w.heap.size (CPost C (some l0) I0 m0 w0 Q) a) := by
        refine (hcall _ _ _ _ i2 hargs).mono fun e w3 ⟨r, h3, I3, m3, hR, hE, hi3, ht3⟩ => ?_
        have hlocs := ht3.locs i2.len
        have ht3' : Trans C.k _ _ _ I3 m3 w3 := ht3.mono (by simp; omega)
        have hk2 : C.k ≤ (m ++ [Loc.whole w.heap.size]).length := by rw [hlen2]; omega
        have ttot : Trans m.length I m w I3 m3 w3 := t2.trans (ht3.mono (by simp; omega))
        refine rangeEnd_sound (ol := h.length) (hpost r h3 hR) hE ⟨hi3, hr.env.trans ttot (l2.trans hlocs), hr.size, hr.defers.mono ttot.imm (l2.trans hlocs), hr.ro.mono (l2.trans hlocs)⟩
          (ht.trans (ttot.mono hk)) (ht3'.len hk2) ⟨hlocs.lt (by rw [hlen2]; omega), fun b hb => ?_⟩
        have := hlocs.whole (o := h.length) (by rw [hlen2]; omega) hb
        rw [← hml, hlp] at this
        simpa using this
      exact callsIn_of hcc

/-! ## a round -/
def putAll : Env → List Nat → List AV → Env
  | env, t :: ts, v :: vs => putAll (env.put t v) ts vs
  | env, _, _ => env

def foldT (tmps : Array Value) (ps : List Nat) (vs : List Value) : Array Value := (ps.zip vs).foldl (fun t (p : Nat × Value) => t.setIfInBounds p.1 p.2) tmps

theorem putAll_rel {S N : Nat} {I : Imm} {m : Locs} {w : World} : ∀ (ps : List Nat) (args : List AV) (vs : List Value) (env : Env) (tmps : Array Value), EnvRel S I m w env tmps → AVRels I m args vs → tmps.size = N →
    (∀ t ∈ ps, t < N ∧ t ≠ dslot) → env.get dslot = none → EnvRel S I m w (putAll env ps args) (foldT tmps ps vs) ∧ (foldT tmps ps vs).size = N ∧ (putAll env ps args).get dslot = none
  | [], args, vs, env, tmps, h, _, hs, _, hd => by cases args <;> exact ⟨h, hs, hd⟩
  | t :: ps, [], vs, env, tmps, h, ha, hs, _, hd => by obtain rfl := AVRels.nil_iff.1 ha; exact ⟨h, hs, hd⟩
  | t :: ps, v :: args, vs, env, tmps, h, ha, hs, hps, hd => by
    obtain ⟨x, xs, rfl, hx, hxs⟩ := AVRels.cons_iff.1 ha
    obtain ⟨h1, h2⟩ := hps t (by simp)
    exact putAll_rel ps args xs (env.put t v) (tmps.setIfInBounds t x) (h.put hx (by rw [hs]; exact h1)) hxs (by simpa using hs) (fun t ht => hps t (by simp [ht]))
      (by rw [Env.get_put, if_neg (Ne.symm h2)]; exact hd)

/-- What a round's end does. -/
def roundP (o : Nat) (R : AEnd → AHeap → Prop) : APost
  | .normal, _, h => match h[o]? with
    | some (.loop en X _ _) => R (.ret (.sc (.bool true))) (h.set o (.loop en X .ready none))
    | _ => False
  | .ret, _, h => match h[o]? with
    | some (.loop en X _ _) => R (.ret (.sc (.bool false))) (h.set o (.loop en X .done (some .ret)))
    | _ => False
  | .exit id, _, h => match h[o]? with
    | some (.loop en X _ _) => R (.ret (.sc (.bool false))) (h.set o (.loop en X .done (some (.exit id))))
    | _ => False
  | .pan _, _, _ => False

/-- Between the assignment and the body. -/
def beginP (o : Nat) (K : Env → AHeap → Prop) : APost
  | .normal, env, h => match h[o]? with
    | some (.loop en X st pd) => st = .ready ∧ K env (h.set o (.loop en X .busy pd))
    | _ => False
  | _, _, _ => False

theorem ayields_of_code {C : Cx} {o : Nat} {env : Env} {X : LoopX} {st : LoopState} {pd : Option Code} {ps : List Nat} {x y : ACode} {args : List AV} {h : AHeap} {R : AEnd → AHeap → Prop}
    (hob : h[o]? = some (.loop env X st pd)) (hX : XOk C ps x y X) (hlen : args.length = ps.length) (hd : env.get dslot = none) (hro : C.ro = some o) (hk : C.k = h.length)
    (hw : AWp C x (beginP o fun env2 h2 => AWp C y (roundP o R) env2 h2) (putAll env ps args) h) : AYields C.P C.G o args h R := by
  intro I m w vs l hi ha hl
  obtain ⟨hps, hx, hy, hsize, hall⟩ := hX
  obtain ⟨b, d, e1, hb, henv⟩ := hi.obj o _ _ hob hl
  cases e1
  have hvs : vs.toArray.size = X.params.size := by
    have h1 := ha.1
    have h2 : X.params.size = ps.length := by rw [← hps]; simp
    simp; omega
  refine ⟨_, _, _, _, run_yield hb hvs, roundIn_of_wpIn trivial ?_⟩
  have hfold : (X.params.zip vs.toArray).foldl (fun tmps (t, a) => tmps.setIfInBounds t a) X.tmps = foldT X.tmps ps vs := by
    unfold foldT
    rw [← hps, ← Array.foldl_toList, Array.toList_zip]
  have hps' : ∀ t ∈ ps, t < C.N ∧ t ≠ dslot := fun t ht => by
    rw [List.all_eq_true] at hall
    have := hall t ht
    simp only [Bool.and_eq_true, decide_eq_true_eq] at this
    exact ⟨this.1, Nat.ne_of_lt this.2⟩
  have hE : EnvRel w.heap.size I m w env X.tmps := by
    refine ⟨fun t v ht hv => ?_, fun t t' n n' B g1 g2 g3 g4 => ?_⟩
    · obtain ⟨z, hz, hzr⟩ := henv t v ht hv
      exact ⟨z, hz, .of_rel hzr⟩
    · by_cases ht : t = dslot
      · subst ht; rw [hd] at g1; cases g1
      · obtain ⟨z, hz, hzr⟩ := henv t _ ht g1
        exact hzr.not_pend.elim
  obtain ⟨p1, p2, p3⟩ := putAll_rel (N := C.N) ps args vs env X.tmps hE ha hsize hps' hd
  have hr : Rel C.G C.N (C.ro, some l) w.heap.size I m (putAll env ps args) h { tmps := foldT X.tmps ps vs, defers := [] } w :=
    ⟨hi, p1, p2, by rw [p3]; rfl, by rw [hro]; exact ⟨(List.getElem?_eq_some_iff.1 hl).1, fun b hb => by rw [hl] at hb; cases hb; rfl⟩⟩
  have hkm : C.k ≤ m.length := by rw [hk, hi.len]; exact Nat.le_refl _
  simp only
  rw [hfold]
  refine wpIn_mono (hw X.assign hx (some l) I m w I m _ w (.refl C.k I m w) hkm hr) fun e a2 w2 ⟨ex, env2, h2, I2, m2, q1, q2, q3, q4, q5⟩ => ?_
  cases ex with
  | normal =>
    cases e <;> simp only [ExitRel] at q2
    simp only [beginP] at q1
    split at q1
    · rename_i en2 X2 st2 pd2 hob2
      obtain ⟨rfl, q1⟩ := q1
      have ho2 : o < m2.length := by rw [q3.inv.len]; exact (List.getElem?_eq_some_iff.1 hob2).1
      obtain ⟨b2, d2, e2, hb2, henv2⟩ := q3.inv.obj o _ m2[o] hob2 (by simp [ho2])
      have hm2 : m2[o]? = some (.whole b2) := by rw [← e2]; simp [ho2]
      have hro2 := q3.ro
      rw [hro] at hro2
      have := hro2.2 b2 hm2
      subst this
      obtain ⟨i3, t3, l3⟩ := q3.inv.setWhole (o' := .loop en2 X2 .busy pd2) (l' := .whole l) (d := .loop { state := .busy, pending := pd2, fn := X2.fn, tmps := X2.tmps, params := X2.params, assign := X2.assign, body := X2.body, defers := d2 })
        hm2 hb2 rfl rfl (.refl _) (fun b' p hp => hp) ⟨l, d2, rfl, World.putObj_heap_same (q3.inv.lt o _ l 0 hm2 rfl), fun t v ht hv => by
          obtain ⟨z, hz, hzr⟩ := henv2 t v ht hv
          refine ⟨z, hz, hzr.mono (.refl _) ?_⟩
          intro j lj hj
          rw [List.getElem?_set]
          by_cases e : o = j
          · subst e; rw [hm2] at hj; cases hj; exact ⟨_, by simp [ho2], .refl _⟩
          · exact ⟨lj, by rw [if_neg e]; exact hj, .refl _⟩⟩
      refine ⟨_, run_beginRound hb2 rfl, ?_⟩
      refine wpIn_mono (q1 X.body hy (some l) I m w I2 _ a2 _ (q4.trans (t3 C.k)) (by simpa using q5) ⟨i3, q3.env.trans (t3 C.k) l3, q3.size, q3.defers.mono (.refl _) l3, q3.ro.mono l3⟩) fun e4 a4 w4 ⟨ex4, env4, h4, I4, m4, r1, r2, r3, r4, r5⟩ => ?_
      have fin : ∀ (jump : Option Code) (v : AV) (hv : v = .sc (.bool jump.isNone)) (hp : match h4[o]? with | some (.loop en X _ _) => R (.ret v) (h4.set o (.loop en X (if jump.isNone then .ready else .done) jump)) | _ => False),
          ∃ z w', (Instr.endRound l jump).run C.P w4 = .ok z w' ∧ ∃ r h' I' m', R r h' ∧ EndRel I' m' r (.returned z) ∧ Inv C.G I' m' h' w' ∧ Trans h.length I m w I' m' w' := by
        intro jump v hv hp
        subst hv
        split at hp
        · rename_i en4 X4 st4 pd4 hob4
          have ho4 : o < m4.length := by rw [r3.inv.len]; exact (List.getElem?_eq_some_iff.1 hob4).1
          obtain ⟨b4, d4, e4, hb4, henv4⟩ := r3.inv.obj o _ m4[o] hob4 (by simp [ho4])
          have hm4 : m4[o]? = some (.whole b4) := by rw [← e4]; simp [ho4]
          have hro4 := r3.ro
          rw [hro] at hro4
          have := hro4.2 b4 hm4
          subst this
          obtain ⟨i5, t5, l5⟩ := r3.inv.setWhole (o' := .loop en4 X4 (if jump.isNone then .ready else .done) jump) (l' := .whole l)
            (d := .loop { state := if jump.isNone then .ready else .done, pending := jump, fn := X4.fn, tmps := X4.tmps, params := X4.params, assign := X4.assign, body := X4.body, defers := d4 })
            hm4 hb4 rfl rfl (.refl _) (fun b' p hp => hp) ⟨l, d4, rfl, World.putObj_heap_same (r3.inv.lt o _ l 0 hm4 rfl), fun t v ht hv => by
              obtain ⟨z, hz, hzr⟩ := henv4 t v ht hv
              refine ⟨z, hz, hzr.mono (.refl _) ?_⟩
              intro j lj hj
              rw [List.getElem?_set]
              by_cases e : o = j
              · subst e; rw [hm4] at hj; cases hj; exact ⟨_, by simp [ho4], .refl _⟩
              · exact ⟨lj, by rw [if_neg e]; exact hj, .refl _⟩⟩
          refine ⟨_, _, run_endRound jump hb4, _, _, _, _, hp, .sc _, i5, ?_⟩
          rw [← hk]
          exact r4.trans (t5 C.k)
        · exact hp.elim
      cases ex4 with
      | normal => cases e4 <;> simp only [ExitRel] at r2; exact fin none _ rfl r1
      | ret => cases e4 <;> simp only [ExitRel] at r2; exact fin (some .ret) _ rfl r1
      | exit id => cases e4 <;> simp only [ExitRel] at r2; subst r2; exact fin (some (.exit id)) _ rfl r1
      | pan v => exact r1.elim
    · exact q1.elim
  | exit id => exact q1.elim
  | ret => exact q1.elim
  | pan v => exact q1.elim

end Go.Apx
