/- ABSTRACT MACHINE, part 18: soundness of operations in a row; code; entry of a function. -/
import Derived.Test.YtbijnfhclfimeaaDoorAm17
namespace Go.Apx
set_option linter.unusedVariables false
set_option linter.unusedSimpArgs false

section
variable {C : Cx} {I0 : Imm} {m0 : Locs} {w0 : World} {I : Imm} {m : Locs} {a : Act} {w : World} {env : Env} {h : AHeap} {ops : Array Oper} {o : Oper} {it : AItem}
  {K : Env → AHeap → Prop} {Q : APost} {next : Act → World → Prop} {rc : Option Nat}

/-- What the rest of a run may rely on. -/
def Goes (C : Cx) (rc : Option Nat) (I0 : Imm) (m0 : Locs) (w0 : World) (K : Env → AHeap → Prop) (next : Act → World → Prop) : Prop :=
  ∀ (env : Env) (h : AHeap) (I : Imm) (m : Locs) (a : Act) (w : World), K env h → Rel C.G C.N (C.ro, rc) w0.heap.size I m env h a w → Trans C.k I0 m0 w0 I m w → C.k ≤ m.length → next a w

theorem fen_fn (rc : Option Nat) (f : FuncId) : (fen rc).fn f := by cases rc <;> trivial
theorem fen_depth (rc : Option Nat) : (fen rc).depth = none := by cases rc <;> rfl
theorem fen_round (rc : Option Nat) : (fen rc).round = rc := by cases rc <;> rfl

theorem wp_gives {P : Program} {x : Value} {w' : World} {Q' : Exit → Act → World → Prop} (hnd : ∀ c, o.op ≠ .defer c) (hg : Gives P o a w x w') (hn : next (a.put o.dst x) w') : o.wpIn (fen rc) 0 P a w next Q' := by
  refine ⟨fun f _ => fen_fn rc f, ?_⟩
  rw [Oper.semAt_eq _ _ _ hnd]
  rcases hg with hg | ⟨hg, rfl⟩ <;> simp only [hg, Oper.uponIn] <;> exact hn

theorem not_defer {P : Program} {ann : List Nat} {ao : AOp} (hc : compOp P ann o = some ao) (hn : ∀ f args, ao ≠ .defer f args) : ∀ c, o.op ≠ .defer c := by
  intro c ho
  simp only [compOp, ho] at hc
  split at hc
  · split at hc
    · simp at hc; exact hn _ _ hc.symm
    · cases hc
  · cases hc

theorem callsIn_of {P : Program} {f : FuncId} {args : Array Value} {R : Ending → World → Prop} (h : Calls P f args w R) : CallsIn (fen rc) 0 P f args w R := by
  cases rc with
  | none => exact callsIn_wide.2 h
  | some l =>
    have h' : CallsIn Fence.wide 0 P f args w R := callsIn_wide.2 h
    exact h'

/-- A new block that nobody knows of. -/
theorem Inv.allocLoose {G : Globs} {k : Nat} (hv : Inv G I m h w) (cs : Array Value) (e : TypeId) :
    Inv G I m h (w.alloc (.cells cs e)) ∧ Trans k I m w I m (w.alloc (.cells cs e)) := by
  refine ⟨hv.frame (.refl I) (by simp) (fun b p hb => World.cell?_alloc_lt w _ _ hb) (fun a ha => World.frozen?_alloc_old w _ a (Nat.ne_of_lt ha))
    (fun b hb => heap_alloc_lt hb) (fun b o hb hx => hx) (fun b o v hx => ?_), ?_⟩
  · rw [World.cell?_alloc_lt w _ _ (hv.imm_lt hx)]; exact hv.imm b o v hx
  · exact { os := rfl, tape := rfl, output := rfl, size := by simp, cell := fun b o hb _ => World.cell?_alloc_lt w _ _ hb,
            froz := fun a ha => World.frozen?_alloc_old w _ a (Nat.ne_of_lt ha), blk := fun b hb _ => heap_alloc_lt hb, imm := .refl I,
            own := fun i l b o h1 h2 _ => ⟨i, l, h1, h2⟩, immNew := fun b o hb hx => .inl hx,
            loc := fun i l _ hl => ⟨l, hl, .refl l⟩ }

theorem opWp_default {v : AV} {h' : AHeap} (hc : compItem C.P C.ann C.N ops o = some it) (hr : Rel C.G C.N (C.ro, rc) w0.heap.size I m env h a w) (ht : Trans C.k I0 m0 w0 I m w) (hk : C.k ≤ m.length)
    (he : evalOp C.G env h it.op = some (v, h')) (hK : K (putD env it.dst v) h') (hn : Goes C rc I0 m0 w0 K next) : o.wpIn (fen rc) 0 C.P a w next (CPost C rc I0 m0 w0 Q) := by
  obtain ⟨h1, h2, h3, _⟩ := compItem_some hc
  obtain ⟨x, w', I', m', hg, hv, hi, htr, hm⟩ := op_sound (k := C.k) h1 hk hr he
  refine wp_gives (not_defer h1 fun f args e => by rw [e] at he; simp [evalOp] at he) hg (hn _ _ I' m' _ _ hK ?_ (ht.trans htr) (htr.len hk))
  have := put_rel (dst := o.dst) hr hi htr hm hv h3
  rw [h2]
  exact this

theorem roundIn_of {P : Program} {l : Nat} {f : FuncId} {tmps : Array Value} {assign body : Code} {R : Ending → World → Prop} (h : RoundIn Fence.wide 0 P l f tmps assign body w R) : RoundIn (fen rc) 0 P l f tmps assign body w R := by
  cases rc with
  | none => exact h
  | some l => exact h

theorem compOpd_t {x : Operand} {d : Nat} (h : compOpd x = some (.t d)) : x = .tmp d ∧ d ≠ dslot := by
  cases x with
  | tmp n =>
    simp only [compOpd] at h
    split at h
    · rename_i hn
      simp at h; subst h
      exact ⟨rfl, Nat.ne_of_lt hn⟩
    · cases h
  | const v => simp only [compOpd] at h; split at h <;> simp at h
  | global g => simp [compOpd] at h
  | func f => simp [compOpd] at h

theorem defer_sound {f : Opd} {args : List Opd} {fid : FuncId} {fa fb vs l : List AV} (hc : compOp C.P C.ann o = some (.defer f args)) (hr : Rel C.G C.N (C.ro, rc) w0.heap.size I m env h a w) (ht : Trans C.k I0 m0 w0 I m w) (hk : C.k ≤ m.length)
    (hf : evalOpd C.G env f = some (.fn (.func fid) fa fb)) (hvs : mapM' (evalOpd C.G env) args = some vs) (hold : deferred env = some l) (hro : C.ro = none) (hdst : o.dst = none)
    (hK : K (env.put dslot (.tup (.tup (.fn (.func fid) fa fb :: vs) :: l))) h) (hn : Goes C rc I0 m0 w0 K next) : o.wpIn (fen rc) 0 C.P a w next (CPost C rc I0 m0 w0 Q) := by
  have hrc : rc = none := by
    have := hr.ro
    rw [hro] at this
    cases rc with
    | none => rfl
    | some l => exact this.elim
  subst hrc
  cases hop : o.op
  case makeMap t r => cases r <;> simp [compOp, hop] at hc
  all_goals simp only [compOp, hop] at hc
  case defer c =>
    split at hc
    · rename_i fo hcal
      split at hc
      · rename_i f' args' hcf hca
        simp at hc
        obtain ⟨rfl, rfl⟩ := hc
        have h1 := opd_sound hcf hr hf
        have h2 := opds_sound hca hr hvs
        generalize hax : a.eval fo = ax at h1
        cases h1 with
        | fn _ _ _ fs cs hl hl' hrel hrel' =>
          have hargs : c.args.map a.eval = (c.args.toList.map a.eval).toArray := by apply Array.ext'; simp
          have hrun : (execOp a.eval o).run C.P w = .ok (.defer { target := .fn (.func fid) cs.toArray, args := fs.toArray ++ (c.args.toList.map a.eval).toArray }) w := by
            simp only [execOp, hop, resolve, hcal, hax, Deferred.ofValue, Sem.run_bind, Sem.run_pure, Result.andThen_ok, hargs]
          refine ⟨fun f _ => trivial, ?_⟩
          show o.uponIn Fence.wide 0 C.P a next _ ((o.semAt none a.eval).run C.P w)
          rw [Oper.semAt_none, hrun, Oper.uponIn_defer, hdst]
          refine hn _ _ I m _ _ hK ?_ ht hk
          refine ⟨hr.inv, ⟨fun t v hnd hv => ?_, fun t t' n1 n2 B' h1 h2 h3 h4 => ?_⟩, hr.size, ?_, hr.ro⟩
          · rw [Env.get_put, if_neg hnd] at hv
            exact hr.env.get t v hnd hv
          · rw [Env.get_put] at h1 h2
            split at h1
            · simp at h1
            · split at h2
              · simp at h2
              · exact hr.env.apart t t' n1 n2 B' h1 h2 h3 h4
          · rw [Env.get_put, if_pos rfl]
            have hd := hr.defers
            show DefRel I m (some (.tup _)) (_ :: a.defers)
            have hnew : DRel I m (.tup (.fn (.func fid) fa fb :: vs)) { target := .fn (.func fid) cs.toArray, args := fs.toArray ++ (c.args.toList.map a.eval).toArray } :=
              ⟨fs, cs, _, ⟨hl, hrel⟩, ⟨hl', hrel'⟩, h2, rfl⟩
            unfold deferred at hold
            split at hold
            · rename_i hg
              rw [hg] at hd
              have hd : a.defers = [] := hd
              simp at hold; subst hold
              rw [hd]
              refine ⟨rfl, fun i e d he hd' => ?_⟩
              cases i with
              | zero =>
                have e1 := Option.some.inj he
                have e2 := Option.some.inj hd'
                subst e1 e2
                exact hnew
              | succ i => simp at he
            · rename_i l' hg
              rw [hg] at hd
              simp at hold; subst hold
              refine ⟨by simp [hd.1], fun i e d he hd' => ?_⟩
              cases i with
              | zero =>
                have e1 := Option.some.inj he
                have e2 := Option.some.inj hd'
                subst e1 e2
                exact hnew
              | succ i => exact hd.2 i e d (by simpa using he) (by simpa using hd')
            · cases hold
      · cases hc
    · cases hc
  all_goals first
    | (simp at hc; done)
    | ((repeat' split at hc) <;> simp at hc; done)
    | (simp only [compBin] at hc; (repeat' split at hc) <;> simp at hc; done)

theorem opWp_sound (hc : compItem C.P C.ann C.N ops o = some it) (hr : Rel C.G C.N (C.ro, rc) w0.heap.size I m env h a w) (ht : Trans C.k I0 m0 w0 I m w) (hk : C.k ≤ m.length)
    (hw : opWp C it env h K Q) (hn : Goes C rc I0 m0 w0 K next) : o.wpIn (fen rc) 0 C.P a w next (CPost C rc I0 m0 w0 Q) := by
  obtain ⟨hcomp, hdst, hlt, hguard, _⟩ := compItem_some hc
  unfold opWp at hw
  split at hw
  · -- a new block
    rename_i n hop
    rw [hop] at hcomp
    split at hw
    · rename_i d hd
      rw [hdst] at hd
      -- it is an 'alloc'
      have hal : ∃ e z, o.op = .alloc e ∧ compZero C.P e = some z ∧ z.cells.length = n := by
        cases ho : o.op with
        | alloc e =>
          simp only [compOp, ho] at hcomp
          split at hcomp
          · split at hcomp
            · simp at hcomp; exact ⟨e, _, rfl, by assumption, hcomp⟩
            · simp at hcomp
          · cases hcomp
        | makeMap t r => cases r <;> simp [compOp, ho] at hcomp
        | _ => simp only [compOp, ho, compBin] at hcomp <;> first | (simp at hcomp; done) | ((repeat' split at hcomp) <;> simp at hcomp; done)
      obtain ⟨e, z, ho, hz, hzn⟩ := hal
      obtain ⟨inf, zv, hinf, hzv, hok, hzz, hzr⟩ := compZero_some (w := w) hz
      have hzs : zv.cells.size = n := by
        have := (ofValue_cells (I := I) (m := m) hok).1
        rw [← hzz, hzn] at this; simpa using this.symm
      obtain ⟨hi, htr⟩ := hr.inv.allocLoose (k := C.k) zv.cells e
      refine wp_gives (not_defer hcomp fun f args e => by cases e) (x := .pointer (some ⟨w.heap.size, 0, none⟩)) (w' := w.alloc (.cells zv.cells e)) (.inl (by simp [execOp, ho, Instr.alloc, hzr, newVar, newRow])) (hn _ _ I m _ _ hw ?_ (ht.trans htr) hk)
      have hdN := (hlt d hd).1
      have hdd := (hlt d hd).2
      have htmps : ∀ u, (a.put o.dst (.pointer (some ⟨w.heap.size, 0, none⟩))).tmps[u]? = if u = d then some (.pointer (some ⟨w.heap.size, 0, none⟩)) else a.tmps[u]? := by
        intro u
        rw [hd]
        simp only [Act.put, Array.getElem?_setIfInBounds]
        by_cases h' : d = u
        · subst h'; simp [hr.size, hdN]
        · simp [h', Ne.symm h']
      have hold := hr.env.trans htr (.refl m)
      refine ⟨hi, ⟨fun t v hnd hv => ?_, fun t t' n1 n2 B h1 h2 h3 h4 => ?_⟩, by rw [hd]; simp [Act.put, hr.size], by rw [hd, Env.get_put, if_neg (Ne.symm hdd)]; exact hr.defers, hr.ro⟩
      · rw [Env.get_put] at hv
        rw [htmps]
        split at hv
        · rename_i e'; subst e'
          simp at hv; subst hv
          rw [if_pos rfl]
          refine ⟨_, rfl, w.heap.size, rfl, ⟨ht.size, by simp⟩, fun i hi => ?_, hr.inv.imm_new, fun i l o hl ho => ?_⟩
          · simp [hzs, hi]
          · exact absurd (hr.inv.lt i l _ o hl ho) (Nat.lt_irrefl _)
        · rename_i e'; rw [if_neg e']; exact hold.get t v hnd hv
      · rw [Env.get_put] at h1 h2
        rw [htmps] at h3 h4
        have hfar : ∀ (u n' B' : Nat), env.get u = some (.pend n') → a.tmps[u]? = some (.pointer (some ⟨B', 0, none⟩)) → B' < w.heap.size := by
          intro u n' B' hu hu'
          have hud : u ≠ dslot := fun e => by subst e; have := hr.defers; rw [hu] at this; exact this.elim
          obtain ⟨x, hx, B2, hB2, hp⟩ := hr.env.get u _ hud hu
          rw [hu'] at hx
          simp at hx; subst hx
          simp at hB2; subst hB2
          exact hp.1.2
        split at h1 <;> split at h2
        · rename_i e1 e2; rw [e1, e2]
        · rename_i e1 e2
          rw [if_pos e1] at h3; rw [if_neg e2] at h4
          simp at h3
          have := hfar t' n2 B h2 h4
          omega
        · rename_i e1 e2
          rw [if_neg e1] at h3; rw [if_pos e2] at h4
          simp at h4
          have := hfar t n1 B h1 h3
          omega
        · rename_i e1 e2
          rw [if_neg e1] at h3; rw [if_neg e2] at h4
          exact hr.env.apart t t' n1 n2 B h1 h2 h3 h4
    · exact hw.elim
  · -- its first and only store
    rename_i n d x hop
    rw [hop] at hcomp
    split at hw
    · rename_i n' v hd hv
      obtain ⟨rfl, hvn, hdn, hK⟩ := hw
      obtain ⟨hv1, hv2⟩ := oneOpd_some hv
      have hst : ∃ t ty x0, o.op = .store t (.tmp d) x0 ∧ compTy C.P t = some ty ∧ ty.size = n' ∧ compOpd x0 = some x ∧ d ≠ dslot := by
        cases ho : o.op with
        | store t ad x0 =>
          simp only [compOp, ho] at hcomp
          split at hcomp
          · split at hcomp
            · split at hcomp
              · rename_i had _
                simp at hcomp; obtain ⟨h1, rfl, rfl⟩ := hcomp
                obtain ⟨rfl, hnd⟩ := compOpd_t had
                exact ⟨t, _, x0, rfl, by assumption, h1, by assumption, hnd⟩
              · simp at hcomp
            · cases hcomp
          · cases hcomp
        | makeMap t r => cases r <;> simp [compOp, ho] at hcomp
        | _ => simp only [compOp, ho, compBin] at hcomp <;> first | (simp at hcomp; done) | ((repeat' split at hcomp) <;> simp at hcomp; done)
      obtain ⟨t, ty, x0, ho, hty, hsz, hx, hdd⟩ := hst
      obtain ⟨y, hy, B, rfl, hp⟩ := hr.env.get d _ hdd hd
      obtain ⟨⟨hS, hB⟩, hcells, hInone, hown⟩ := hp
      have hax : a.eval (.tmp d) = .pointer (some ⟨B, 0, none⟩) := by simp [Act.eval, Array.getD_eq_getD_getElem?, hy]
      have hrel := rel_cells (opd_sound hx hr hv1) hv2
      have hdN : d ≠ dslot := hdd
      have hlen : (a.eval x0).cells.toList.length = ty.size := by rw [← hrel.1.1, hsz]; exact hvn
      have hstv := run_storeVar (P := C.P) (w := w) hty (b := B) (o := 0) (v := a.eval x0) (by simpa using hlen)
        (fun j hj => by simpa using (hcells j (by simp at hlen; omega)).1) (fun j hj => by simpa using (hcells j (by simp at hlen; omega)).2) hrel.2
      have hle : ImmLe I (I.row B (a.eval x0).cells.toList) := Imm.row_le hInone
      have hin : ∀ q, q < (a.eval x0).cells.toList.length → (w.setCells B 0 (a.eval x0).cells.toList).cell? ⟨B, q, none⟩ = (a.eval x0).cells.toList[q]? := by
        intro q hq
        have := World.cell?_setCells_in B (a.eval x0).cells.toList 0 w (fun q hq => by simpa using (hcells q (by omega)).1) q hq
        rw [Nat.zero_add] at this
        rw [this, List.getElem?_eq_getElem hq]
      have hother : ∀ b p, b ≠ B → (w.setCells B 0 (a.eval x0).cells.toList).cell? ⟨b, p, none⟩ = w.cell? ⟨b, p, none⟩ := fun b p hb => cell?_setCells (fun h => hb h.1)
      have hnew : ∀ b p, b ≠ B → I.row B (a.eval x0).cells.toList b p = I b p := fun b p hb => by unfold Imm.row; rw [if_neg hb]
      have hownB : ∀ (i : Nat) (l : Loc) (b p : Nat), m[i]? = some l → l.owns b p → b ≠ B := fun i l b p hl hp e => hown i l p hl (e ▸ hp)
      obtain ⟨s1, s2, s3⟩ := misc_setCells (b := B) (o := 0) (vs := (a.eval x0).cells.toList) (w := w)
      have hi : Inv C.G (I.row B (a.eval x0).cells.toList) m h (w.setCells B 0 (a.eval x0).cells.toList) :=
        { len := hr.inv.len
          obj := fun i ob l h1 h2 => (hr.inv.obj i ob l h1 h2).mono hle (.refl m) (fun b p hp => ⟨hother b p (hownB i l b p h2 hp), World.frozen?_setCells _ _ _ _ _⟩)
            (fun b e => heap_setCells (hownB i l b 0 h2 (by subst e; exact rfl)))
          imm := fun b p y hy => by
            by_cases hb : b = B
            · subst hb
              simp only [Imm.row, if_pos] at hy
              rw [hin p (List.getElem?_eq_some_iff.1 hy).1]; exact hy
            · rw [hnew b p hb] at hy
              rw [hother b p hb]; exact hr.inv.imm b p y hy
          disj := hr.inv.disj
          immd := fun i l b p h1 h2 => by rw [hnew b p (hownB i l b p h1 h2)]; exact hr.inv.immd i l b p h1 h2
          lt := fun i l b p h1 h2 => by rw [size_setCells]; exact hr.inv.lt i l b p h1 h2
          glob := fun g v hg m' => (hr.inv.glob g v hg m').mono hle (.refl m') }
      have htr : Trans C.k I0 m0 w0 (I.row B (a.eval x0).cells.toList) m (w.setCells B 0 (a.eval x0).cells.toList) :=
        { os := s1.trans ht.os, tape := s2.trans ht.tape, output := s3.trans ht.output, size := by rw [size_setCells]; exact ht.size
          cell := fun b p hb hn => by rw [hother b p (by omega)]; exact ht.cell b p hb hn
          froz := fun ad ha => by rw [World.frozen?_setCells]; exact ht.froz ad ha
          blk := fun b hb hn => by rw [heap_setCells (by omega)]; exact ht.blk b hb hn
          imm := ht.imm.trans hle
          own := ht.own
          immNew := fun b p hb hx => ht.immNew b p hb (by rw [hnew b p (by omega)] at hx; exact hx)
          loc := ht.loc }
      refine wp_gives (not_defer hcomp fun f args e => by cases e) (x := undef) (w' := w.setCells B 0 (a.eval x0).cells.toList) (.inr ⟨by simp [execOp, ho, hax, Instr.storeAt, Instr.sureAddr, hstv], rfl⟩) (hn _ _ _ m _ _ hK ?_ htr hk)
      have hod : o.dst = none := by rw [← hdst]; exact hdn
      rw [hod]
      refine ⟨hi, ⟨fun t v' hnd hv' => ?_, fun t t' n1 n2 B' h1 h2 h3 h4 => ?_⟩, hr.size, by rw [Env.get_put, if_neg (Ne.symm hdN)]; exact hr.defers.mono hle (.refl m), hr.ro⟩
      · rw [Env.get_put] at hv'
        split at hv'
        · rename_i e'; subst e'
          simp at hv'; subst hv'
          refine ⟨_, hy, .of_rel (.ip v _ (a.eval x0).cells.toList hv2 hrel.1.1 (fun i c y hc hy => (hrel.1.2 i c y hc hy).mono hle (.refl m)) ?_ rfl)⟩
          exact Lies.row
        · rename_i e'
          obtain ⟨x', hx', hs⟩ := hr.env.get t v' hnd hv'
          refine ⟨x', hx', ?_⟩
          cases v' with
          | pend n2 =>
            obtain ⟨B2, rfl, ⟨p0, p1⟩, p2, p3, p4⟩ := hs
            have hne : B2 ≠ B := by
              rintro rfl
              exact e' (hr.env.apart t d n2 n' B2 hv' hd hx' hy)
            exact ⟨B2, rfl, ⟨p0, by rw [size_setCells]; exact p1⟩, fun i hi => by rw [hother B2 i hne, World.frozen?_setCells]; exact p2 i hi, fun p => by rw [hnew B2 p hne]; exact p3 p, p4⟩
          | _ => exact AVRel.mono hle (.refl m) hs
      · rw [Env.get_put] at h1 h2
        split at h1
        · simp at h1
        · split at h2
          · simp at h2
          · exact hr.env.apart t t' n1 n2 B' h1 h2 h3 h4
    · exact hw.elim
  · -- a call
    rename_i f args hop
    rw [hop] at hcomp
    split at hw
    · rename_i fid fa fb vs hf hvs
      obtain ⟨R, ⟨hb, hcall⟩, hpost⟩ := hw
      have hbody : ∃ fn, C.P.funcs[fid]? = some fn ∧ fn.body.isNone = false ∧ (fn.name == "runtime.NumGoroutine") = false := by
        unfold hasBody at hb
        split at hb
        · rename_i fn hfn
          simp at hb
          refine ⟨fn, hfn, ?_, by simpa using hb.2⟩
          cases hbd : fn.body <;> simp_all
        · cases hb
      obtain ⟨us, hus, hrun⟩ := pcalls hcomp hr hf hvs hbody
      refine ⟨fun f _ => fen_fn rc f, ?_⟩
      rw [Oper.semAt_eq _ _ _ (not_defer hcomp fun f args e => by cases e)]
      simp only [hrun, Oper.uponIn]
      refine ⟨fun hdep => (by rw [fen_depth] at hdep; cases hdep), callsIn_of ((hcall I m w us hr.inv hus).mono fun e w' ⟨r, h', I', m', hR, hE, hi, htr⟩ => ?_)⟩
      have hlocs := htr.locs hr.inv.len
      have htr' : Trans C.k I m w I' m' w' := htr.mono (by rw [← hr.inv.len]; exact hk)
      have hp := hpost r h' hR
      cases e with
      | returned x =>
        cases r with
        | ret v =>
          have hv : AVRel I' m' v x := hE
          refine hn _ _ I' m' _ _ hp ?_ (ht.trans htr') (htr'.len hk)
          have := put_rel (dst := o.dst) hr hi htr' hlocs hv hlt
          rw [hdst]; exact this
        | pan v => exact hE.elim
      | panicked ch =>
        cases r with
        | ret v => exact hE.elim
        | pan v =>
          obtain ⟨x, rfl, hv⟩ := hE
          exact ⟨.pan v, env, h', I', m', hp, ⟨x, rfl, hv⟩, ⟨hi, hr.env.trans htr' hlocs, hr.size, hr.defers.mono htr'.imm hlocs, hr.ro.mono hlocs⟩, ht.trans htr', htr'.len hk⟩
      | outgrown => cases r <;> exact hE.elim
    · rename_i ob vs hf hvs
      obtain ⟨hloop, R, hy, hpost⟩ := hw
      obtain ⟨us, l, hus, hob, hl, hrun⟩ := pyields hcomp hr hf hvs
      have hmo : m[ob]? = some (.whole l) := by
        unfold isLoop at hloop
        split at hloop
        · rename_i env1 x1 st1 pd1 hob1
          obtain ⟨b, d, e, _⟩ := hr.inv.obj ob _ m[ob] hob1 (by simp [hob])
          have e2 : m[ob]? = some (.whole b) := by rw [← e]; simp [hob]
          rw [hl b e2]; exact e2
        · cases hloop
      obtain ⟨fn, tmps, assign, body, hrun', hround⟩ := hy I m w us l hr.inv hus hmo
      refine ⟨fun f _ => fen_fn rc f, ?_⟩
      rw [Oper.semAt_eq _ _ _ (not_defer hcomp fun f args e => by cases e)]
      rw [hrun, hrun']
      simp only [Oper.uponIn]
      refine ⟨fun hdep => (by rw [fen_depth] at hdep; cases hdep), roundIn_of (hround.mono fun e w' ⟨r, h', I', m', hR, hE, hi, htr⟩ => ?_)⟩
      have hlocs := htr.locs hr.inv.len
      have htr' : Trans C.k I m w I' m' w' := htr.mono (by rw [← hr.inv.len]; exact hk)
      have hp := hpost r h' hR
      cases e with
      | returned x =>
        cases r with
        | ret v =>
          have hv : AVRel I' m' v x := hE
          refine hn _ _ I' m' _ _ hp ?_ (ht.trans htr') (htr'.len hk)
          have := put_rel (dst := o.dst) hr hi htr' hlocs hv hlt
          rw [hdst]; exact this
        | pan v => exact hE.elim
      | panicked ch =>
        cases r with
        | ret v => exact hE.elim
        | pan v =>
          obtain ⟨x, rfl, hv⟩ := hE
          exact ⟨.pan v, env, h', I', m', hp, ⟨x, rfl, hv⟩, ⟨hi, hr.env.trans htr' hlocs, hr.size, hr.defers.mono htr'.imm hlocs, hr.ro.mono hlocs⟩, ht.trans htr', htr'.len hk⟩
      | outgrown => cases r <;> exact hE.elim
    · exact hw.elim
  · -- a deferred call
    rename_i f args hop
    rw [hop] at hcomp
    split at hw
    · rename_i fid fa fb vs l hf hvs hold
      obtain ⟨hro, hnd, hK⟩ := hw
      exact defer_sound hcomp hr ht hk hf hvs hold hro (hdst.symm.trans hnd) hK hn
    · exact hw.elim
  · -- a panic
    rename_i x hop
    rw [hop] at hcomp
    split at hw
    · rename_i t v hx
      have hpn : ∃ x0, o.op = .panic x0 ∧ compOpd x0 = some x := by
        cases ho : o.op with
        | panic x0 => simp only [compOp, ho, Option.map_eq_some_iff] at hcomp; obtain ⟨y, hy, e⟩ := hcomp; cases e; exact ⟨x0, rfl, hy⟩
        | makeMap t r => cases r <;> simp [compOp, ho] at hcomp
        | _ => simp only [compOp, ho, compBin] at hcomp <;> first | (simp at hcomp; done) | ((repeat' split at hcomp) <;> simp at hcomp; done)
      obtain ⟨x0, ho, hx0⟩ := hpn
      have hrel := opd_sound hx0 hr hx
      generalize hax : a.eval x0 = ax at hrel
      cases hrel with
      | ifc _ _ y hy =>
        have hrun : (execOp a.eval o).run C.P w = .halt (.panic (.iface t y)) w := by simp [execOp, ho, hax, Instr.panic]
        refine ⟨fun f _ => fen_fn rc f, ?_⟩
        rw [Oper.semAt_eq _ _ _ (fun c e => by rw [ho] at e; cases e)]
        simp only [hrun, Oper.uponIn]
        exact ⟨.pan (.ifc t v), env, h, I, m, hw, ⟨_, rfl, .ifc t v y hy⟩, hr, ht, hk⟩
    · exact hw.elim
  · -- all else
    split at hw
    · rename_i v h' he
      exact opWp_default hc hr ht hk he hw hn
    · exact hw.elim

theorem yielded_guard {d : Nat} {b : Bool} {j : Nat} (hnd : d ≠ dslot) (hr : Rel C.G C.N (C.ro, rc) w0.heap.size I m env h a w) (hd : env.get d = some (.sc (.bool b))) (hj : (ops[j]?).bind (·.dst) = some d) : yielded ops a.tmps j = some b := by
  obtain ⟨x, hx, hs⟩ := hr.env.get d _ hnd hd
  have : x = .bool b := rel_sc hs
  subst this
  simp [yielded, hj, hx]

theorem itemWp_sound {i : Nat} (ho : ops[i]? = some o) (hc : compItem C.P C.ann C.N ops o = some it) (hr : Rel C.G C.N (C.ro, rc) w0.heap.size I m env h a w) (ht : Trans C.k I0 m0 w0 I m w) (hk : C.k ≤ m.length)
    (hw : itemWp C it env h K Q) (hn : Goes C rc I0 m0 w0 K next) : wpOpIn (fen rc) 0 C.P ops (CPost C rc I0 m0 w0 Q) i next a w := by
  obtain ⟨hcomp, hdst, hlt, hguard, _⟩ := compItem_some hc
  simp only [wpOpIn, ho]
  unfold itemWp guardOf at hw
  rcases hguard with ⟨hg1, hg2⟩ | ⟨j, want, d, hg1, hj, hg2, hnd⟩
  · rw [hg2] at hw
    simp only at hw
    have : Region.wanted o (yielded ops a.tmps) = true := by simp [Region.wanted, hg1]
    rw [if_pos this]
    exact opWp_sound hc hr ht hk hw hn
  · rw [hg2] at hw
    simp only at hw
    cases hd : env.get d with
    | none => rw [hd] at hw; simp at hw
    | some v =>
      rw [hd] at hw
      cases v with
      | sc x =>
        cases x with
        | bool b =>
          simp only at hw
          have hy := yielded_guard hnd hr hd hj
          cases hbw : (b == want) with
          | true =>
            rw [hbw] at hw
            have : Region.wanted o (yielded ops a.tmps) = true := by simp [Region.wanted, hg1, hy]; simpa using hbw
            rw [if_pos this]
            exact opWp_sound hc hr ht hk hw hn
          | false =>
            rw [hbw] at hw
            have : ¬ Region.wanted o (yielded ops a.tmps) = true := by simp [Region.wanted, hg1, hy]; simpa using hbw
            rw [if_neg this]
            refine ⟨fun f _ => fen_fn rc f, ?_⟩
            refine hn _ _ I m _ _ hw ?_ ht hk
            have := put_rel (k := C.k) (dst := o.dst) hr hr.inv (.refl C.k I m w) (.refl m) (undef_rel) hlt
            rw [hdst]; exact this
        | _ => simp at hw
      | tup l =>
        cases l with
        | cons a l => simp at hw
        | nil =>
          simp only at hw
          have hy : yielded ops a.tmps j = none := by
            obtain ⟨x, hx, hs⟩ := hr.env.get d _ hnd hd
            have : x = .tuple #[] := by
              have hs' : AVRel I m (.tup []) x := hs
              cases hs' with
              | tup _ vs hl _ =>
                have : vs = [] := List.eq_nil_of_length_eq_zero (by simpa using hl.symm)
                subst this; rfl
            subst this
            simp [yielded, hj, hx]
          have : ¬ Region.wanted o (yielded ops a.tmps) = true := by simp [Region.wanted, hg1, hy]
          rw [if_neg this]
          refine ⟨fun f _ => fen_fn rc f, ?_⟩
          refine hn _ _ I m _ _ hw ?_ ht hk
          have := put_rel (k := C.k) (dst := o.dst) hr hr.inv (.refl C.k I m w) (.refl m) (undef_rel) hlt
          rw [hdst]; exact this
      | _ => simp at hw

theorem opsWp_sound : ∀ (items : List AItem) (i : Nat) (env : Env) (h : AHeap) (I : Imm) (m : Locs) (a : Act) (w : World), (∀ (j : Nat) (it : AItem), items[j]? = some it → ∃ o, ops[i + j]? = some o ∧ compItem C.P C.ann C.N ops o = some it) →
    opsWp C items Q env h → Rel C.G C.N (C.ro, rc) w0.heap.size I m env h a w → Trans C.k I0 m0 w0 I m w → C.k ≤ m.length → wpOpsIn (fen rc) 0 C.P ops (CPost C rc I0 m0 w0 Q) (List.range' i items.length) a w
  | [], i, env, h, I, m, a, w, _, hw, hr, ht, hk => ⟨.normal, env, h, I, m, hw, trivial, hr, ht, hk⟩
  | it :: items, i, env, h, I, m, a, w, hc, hw, hr, ht, hk => by
    obtain ⟨o, ho, hco⟩ := hc 0 it rfl
    rw [List.length_cons, List.range'_succ, wpOpsIn_cons]
    refine itemWp_sound ho hco hr ht hk hw fun env' h' I' m' a' w' hw' hr' ht' hk' => ?_
    exact opsWp_sound items (i + 1) env' h' I' m' a' w' (fun j it' hj => by
      obtain ⟨o', h1, h2⟩ := hc (j + 1) it' (by simpa using hj)
      exact ⟨o', by rw [show i + 1 + j = i + (j + 1) by omega]; exact h1, h2⟩) hw' hr' ht' hk'

end

/-! ## code -/
theorem stepR_scope {P : Program} {b : Frame} {a : Act} {k : List Item} {cs : List Frame} {w : World} {c : Code} : step P (lone (b.atR a (.code (.scope c) :: k)) cs w) = .next (lone (b.atR a (.code c :: .inScope c :: k)) cs w) :=
  step_lone_go (by simp [stepG, stepG.exec, Frame.atR])
theorem stepR_inScope {P : Program} {b : Frame} {a : Act} {k : List Item} {cs : List Frame} {w : World} {c : Code} : step P (lone (b.atR a (.inScope c :: k)) cs w) = .next (lone (b.atR a k) cs w) :=
  step_lone_go (by simp [stepG, stepG.exec, Frame.atR])

theorem wpIn_scope_straight {F : Fence} {n : Nat} {P : Program} {a : Act} {w : World} {Q : Exit → Act → World → Prop} {c : Code} (h : c.wpIn F n P (Exit.noGoto Q) a w) : (Code.scope c).wpIn F n P Q a w := by
  intro b k cs hro hb hr
  have h0 : (lone (b.atR a (.code (.scope c) :: k)) cs w).fenced P F := fenced_calm hb hr rfl
  obtain ⟨e, a₁, w₁, hq, harr⟩ := h b (.inScope c :: k) cs hro hb hr
  cases e with
  | normal => exact ⟨.normal, a₁, w₁, hq, .head h0 stepR_scope (StepsIn.trans harr (.one (fenced_calm hb hr rfl) stepR_inScope))⟩
  | exit id =>
    have hx : exitTo id (.inScope c :: k) = exitTo id k := by simp [exitTo]
    exact ⟨.exit id, a₁, w₁, hq, fun k' hk => .head h0 stepR_scope (harr.1 k' (by rw [hx]; exact hk)),
      fun hr' hk => let ⟨k₁, h1, h2⟩ := harr.2 hr' (by rw [hx]; exact hk); ⟨k₁, h1, .head h0 stepR_scope h2⟩⟩
  | goto l => exact hq.elim
  | ret => exact ⟨_, a₁, w₁, hq, .of_steps (.one h0 stepR_scope) harr⟩
  | panic ch => exact ⟨_, a₁, w₁, hq, .of_steps (.one h0 stepR_scope) harr⟩
  | outgrown => exact ⟨_, a₁, w₁, hq, .of_steps (.one h0 stepR_scope) harr⟩

theorem region_comp {P : Program} {ann : List Nat} {N id : Nat} {ops : Array Oper} {draw : Bool} {ac : ACode} (hc : compCode P ann N (.region id ops draw) = some ac) :
    ∃ l, mapM' (compItem P ann N ops) ops.toList = some l ∧ (match draw with | true => ∃ pl, planOf l = some pl ∧ ac = .dreg pl | false => ac = .reg l) := by
  simp only [compCode] at hc
  split at hc
  · rename_i l hl
    refine ⟨l, hl, ?_⟩
    cases draw with
    | true => simp only [if_true, Option.map_eq_some_iff] at hc; obtain ⟨pl, h1, rfl⟩ := hc; exact ⟨pl, h1, rfl⟩
    | false => simp at hc; exact hc.symm
  · cases hc

theorem not_region {P : Program} {ann : List Nat} {N id : Nat} {ops : Array Oper} {draw : Bool} {ac : ACode} (hc : compCode P ann N (.region id ops draw) = some ac)
    (h1 : ∀ l, ac ≠ .reg l) (h2 : ∀ l, ac ≠ .dreg l) : False := by
  obtain ⟨l, _, he⟩ := region_comp hc
  cases draw with
  | true => obtain ⟨pl, _, e⟩ := he; exact h2 _ e
  | false => exact h1 _ he

theorem AWp.reg {C : Cx} {l : List AItem} {Q : APost} {env : Env} {h : AHeap} (hw : opsWp C l Q env h) : AWp C (.reg l) Q env h := by
  intro c hc rc I0 m0 w0 I m a w ht hk hr
  cases c with
  | region id ops draw =>
    obtain ⟨l', hl', he⟩ := region_comp hc
    cases draw with
    | true => obtain ⟨pl, _, e⟩ := he; cases e
    | false =>
      simp only [ACode.reg.injEq] at he
      subst he
      obtain ⟨h1, h2⟩ := mapM'_some hl'
      have := opsWp_sound (ops := ops) (I0 := I0) (m0 := m0) (w0 := w0) l 0 env h I m a w (fun j it hj => by
        obtain ⟨o, ho⟩ := get_of_lt h1 hj
        exact ⟨o, by rw [Nat.zero_add, ← Array.getElem?_toList]; exact ho, h2 j o it ho hj⟩) hw hr ht hk
      refine wpIn_region ?_
      rw [List.range_eq_range', show ops.size = l.length by simpa using h1]
      exact this
  | _ => simp only [compCode] at hc <;> first | (simp at hc; done) | ((repeat' split at hc) <;> simp at hc; done)

theorem AWp.skip {C : Cx} {Q : APost} {env : Env} {h : AHeap} (hw : Q .normal env h) : AWp C .skip Q env h := by
  intro c hc rc I0 m0 w0 I m a w ht hk hr
  have hpost : CPost C rc I0 m0 w0 Q .normal a w := ⟨.normal, env, h, I, m, hw, trivial, hr, ht, hk⟩
  cases c with
  | skip => exact wpIn_skip hpost
  | label l => exact wpIn_label hpost
  | region id ops draw => exact (not_region hc (by rintro _ e; cases e) (by rintro _ e; cases e)).elim
  | _ => simp only [compCode] at hc <;> first | (simp at hc; done) | ((repeat' split at hc) <;> simp at hc; done)

theorem AWp.exit {C : Cx} {id : Nat} {Q : APost} {env : Env} {h : AHeap} (hw : Q (.exit id) env h) : AWp C (.exit id) Q env h := by
  intro c hc rc I0 m0 w0 I m a w ht hk hr
  cases c with
  | exit id' =>
    simp [compCode] at hc; subst hc
    exact wpIn_exit ⟨.exit id', env, h, I, m, hw, rfl, hr, ht, hk⟩
  | region id ops draw => exact (not_region hc (by rintro _ e; cases e) (by rintro _ e; cases e)).elim
  | _ => simp only [compCode] at hc <;> first | (simp at hc; done) | ((repeat' split at hc) <;> simp at hc; done)

theorem AWp.ret {C : Cx} {Q : APost} {env : Env} {h : AHeap} (hw : Q .ret env h) : AWp C .ret Q env h := by
  intro c hc rc I0 m0 w0 I m a w ht hk hr
  cases c with
  | ret => exact wpIn_ret ⟨.ret, env, h, I, m, hw, trivial, hr, ht, hk⟩
  | region id ops draw => exact (not_region hc (by rintro _ e; cases e) (by rintro _ e; cases e)).elim
  | _ => simp only [compCode] at hc <;> first | (simp at hc; done) | ((repeat' split at hc) <;> simp at hc; done)

/-- The post of the first of two pieces. -/
def thenP (K : Env → AHeap → Prop) (Q : APost) : APost
  | .normal, env, h => K env h
  | e, env, h => Q e env h

theorem AWp.seq {C : Cx} {x y : ACode} {Q : APost} {env : Env} {h : AHeap} (hw : AWp C x (thenP (fun env h => AWp C y Q env h) Q) env h) : AWp C (.seq x y) Q env h := by
  intro c hc rc I0 m0 w0 I m a w ht hk hr
  cases c with
  | seq c1 c2 =>
    simp only [compCode] at hc
    split at hc
    · rename_i x' y' hx hy
      simp at hc; obtain ⟨rfl, rfl⟩ := hc
      refine wpIn_seq (wpIn_mono (hw c1 hx rc I0 m0 w0 I m a w ht hk hr) fun e a' w' ⟨x, env', h', I', m', h1, h2, h3, h4, h5⟩ => ?_)
      cases e with
      | normal =>
        cases x <;> simp only [ExitRel] at h2
        exact h1 c2 hy rc I0 m0 w0 I' m' a' w' h4 h5 h3
      | exit id => cases x <;> simp only [ExitRel] at h2; subst h2; exact ⟨.exit _, env', h', I', m', h1, rfl, h3, h4, h5⟩
      | ret => cases x <;> simp only [ExitRel] at h2; exact ⟨.ret, env', h', I', m', h1, trivial, h3, h4, h5⟩
      | panic ch => cases x <;> simp only [ExitRel] at h2; exact ⟨.pan _, env', h', I', m', h1, h2, h3, h4, h5⟩
      | goto l => cases x <;> exact h2.elim
      | outgrown => cases x <;> exact h2.elim
    · cases hc
  | region id ops draw => exact (not_region hc (by rintro _ e; cases e) (by rintro _ e; cases e)).elim
  | _ => simp only [compCode] at hc <;> first | (simp at hc; done) | ((repeat' split at hc) <;> simp at hc; done)

theorem AWp.cond {C : Cx} {c : Opd} {x y : ACode} {Q : APost} {env : Env} {h : AHeap} {b : Bool} (hb : evalOpd C.G env c = some (.sc (.bool b))) (ht : b = true → AWp C x Q env h) (hf : b = false → AWp C y Q env h) :
    AWp C (.cond c x y) Q env h := by
  intro cc hc rc I0 m0 w0 I m a w htr hk hr
  cases cc with
  | cond c0 c1 c2 =>
    simp only [compCode] at hc
    split at hc
    · rename_i c' x' y' hc0 hx hy
      simp at hc; obtain ⟨rfl, rfl, rfl⟩ := hc
      have := rel_sc (opd_sound hc0 hr hb)
      cases b with
      | true => exact wpIn_cond_true this (ht rfl c1 hx rc I0 m0 w0 I m a w htr hk hr)
      | false => exact wpIn_cond_false this (hf rfl c2 hy rc I0 m0 w0 I m a w htr hk hr)
    · cases hc
  | region id ops draw => exact (not_region hc (by rintro _ e; cases e) (by rintro _ e; cases e)).elim
  | _ => simp only [compCode] at hc <;> first | (simp at hc; done) | ((repeat' split at hc) <;> simp at hc; done)

def blockP (id : Nat) (Q : APost) : APost
  | .exit i, env, h => if i = id then Q .normal env h else Q (.exit i) env h
  | e, env, h => Q e env h

theorem AWp.block {C : Cx} {id : Nat} {x : ACode} {Q : APost} {env : Env} {h : AHeap} (hw : AWp C x (blockP id Q) env h) : AWp C (.block id x) Q env h := by
  intro c hc rc I0 m0 w0 I m a w ht hk hr
  cases c with
  | block id' c1 =>
    simp only [compCode, Option.map_eq_some_iff] at hc
    obtain ⟨x', hx, he⟩ := hc
    simp at he; obtain ⟨rfl, rfl⟩ := he
    refine wpIn_block (wpIn_mono (hw c1 hx rc I0 m0 w0 I m a w ht hk hr) fun e a' w' ⟨x, env', h', I', m', h1, h2, h3, h4, h5⟩ => ?_)
    cases e with
    | normal => cases x <;> simp only [ExitRel] at h2; exact ⟨.normal, env', h', I', m', h1, trivial, h3, h4, h5⟩
    | exit i =>
      cases x <;> simp only [ExitRel] at h2
      subst h2
      simp only [blockP] at h1
      simp only [Exit.inBlock]
      split
      · rename_i e; rw [if_pos e] at h1; exact ⟨.normal, env', h', I', m', h1, trivial, h3, h4, h5⟩
      · rename_i e; rw [if_neg e] at h1; exact ⟨.exit _, env', h', I', m', h1, rfl, h3, h4, h5⟩
    | ret => cases x <;> simp only [ExitRel] at h2; exact ⟨.ret, env', h', I', m', h1, trivial, h3, h4, h5⟩
    | panic ch => cases x <;> simp only [ExitRel] at h2; exact ⟨.pan _, env', h', I', m', h1, h2, h3, h4, h5⟩
    | goto l => cases x <;> exact h2.elim
    | outgrown => cases x <;> exact h2.elim
  | region id ops draw => exact (not_region hc (by rintro _ e; cases e) (by rintro _ e; cases e)).elim
  | _ => simp only [compCode] at hc <;> first | (simp at hc; done) | ((repeat' split at hc) <;> simp at hc; done)

theorem AWp.scope {C : Cx} {x : ACode} {Q : APost} {env : Env} {h : AHeap} (hw : AWp C x Q env h) : AWp C (.scope x) Q env h := by
  intro c hc rc I0 m0 w0 I m a w ht hk hr
  cases c with
  | scope c1 =>
    simp only [compCode, Option.map_eq_some_iff] at hc
    obtain ⟨x', hx, he⟩ := hc
    simp at he; subst he
    refine wpIn_scope_straight (wpIn_mono (hw c1 hx rc I0 m0 w0 I m a w ht hk hr) fun e a' w' hp => ?_)
    cases e with
    | goto l => obtain ⟨x, env', h', I', m', h1, h2, _⟩ := hp; cases x <;> exact h2.elim
    | _ => exact hp
  | region id ops draw => exact (not_region hc (by rintro _ e; cases e) (by rintro _ e; cases e)).elim
  | _ => simp only [compCode] at hc <;> first | (simp at hc; done) | ((repeat' split at hc) <;> simp at hc; done)

/-- A loop: 'S n': what holds with n rounds or so to go. -/
theorem AWp.loop {C : Cx} {x : ACode} {Q : APost} {env : Env} {h : AHeap} (S : Nat → Env → AHeap → Prop) {n0 : Nat} (h0 : S n0 env h)
    (round : ∀ n env h, S n env h → AWp C x (thenP (fun env' h' => ∃ n', n' < n ∧ S n' env' h') Q) env h) : AWp C (.loop x) Q env h := by
  intro c hc rc I0 m0 w0 I m a w ht hk hr
  cases c with
  | loop c1 =>
    simp only [compCode, Option.map_eq_some_iff] at hc
    obtain ⟨x', hx, he⟩ := hc
    simp at he; subst he
    let J : Nat → Act → World → Prop := fun n a w => ∃ env h I m, S n env h ∧ Rel C.G C.N (C.ro, rc) w0.heap.size I m env h a w ∧ Trans C.k I0 m0 w0 I m w ∧ C.k ≤ m.length
    have hex : ∀ a w, (∃ n, J n a w) → ∃ n, J n a w ∧ ∀ n', n' < n → ¬ J n' a w := by
      intro a w ⟨n, hn⟩
      induction n using Nat.strongRecOn with
      | _ n ih =>
        by_cases hlt : ∃ n', n' < n ∧ J n' a w
        · obtain ⟨n', h1, h2⟩ := hlt; exact ih n' h1 h2
        · exact ⟨n, hn, fun n' h1 h2 => hlt ⟨n', h1, h2⟩⟩
    classical
    let μ : Act → World → Nat := fun a w => if hj : ∃ n, J n a w then Classical.choose (hex a w hj) else 0
    have hμ : ∀ a w, (∃ n, J n a w) → J (μ a w) a w ∧ ∀ n', n' < μ a w → ¬ J n' a w := by
      intro a w hj
      simp only [μ, dif_pos hj]
      exact Classical.choose_spec (hex a w hj)
    refine wpIn_loop (fun a w => ∃ n, J n a w) μ ⟨n0, env, h, I, m, h0, hr, ht, hk⟩ fun a w hj => ?_
    obtain ⟨⟨env, h, I, m, hS, hr, ht, hk⟩, _⟩ := hμ a w hj
    refine wpIn_mono (round (μ a w) env h hS c1 hx rc I0 m0 w0 I m a w ht hk hr) fun e a' w' ⟨x, env', h', I', m', h1, h2, h3, h4, h5⟩ => ?_
    cases e with
    | normal =>
      cases x <;> simp only [ExitRel] at h2
      obtain ⟨n', hlt, hS'⟩ := h1
      have hj' : ∃ n, J n a' w' := ⟨n', env', h', I', m', hS', h3, h4, h5⟩
      refine ⟨hj', ?_⟩
      rcases Nat.lt_or_ge (μ a' w') (μ a w) with hl | hg
      · exact hl
      · exact absurd ⟨env', h', I', m', hS', h3, h4, h5⟩ ((hμ a' w' hj').2 n' (by omega))
    | exit id => cases x <;> simp only [ExitRel] at h2; subst h2; exact ⟨.exit _, env', h', I', m', h1, rfl, h3, h4, h5⟩
    | ret => cases x <;> simp only [ExitRel] at h2; exact ⟨.ret, env', h', I', m', h1, trivial, h3, h4, h5⟩
    | panic ch => cases x <;> simp only [ExitRel] at h2; exact ⟨.pan _, env', h', I', m', h1, h2, h3, h4, h5⟩
    | goto l => cases x <;> exact h2.elim
    | outgrown => cases x <;> exact h2.elim
  | region id ops draw => exact (not_region hc (by rintro _ e; cases e) (by rintro _ e; cases e)).elim
  | _ => simp only [compCode] at hc <;> first | (simp at hc; done) | ((repeat' split at hc) <;> simp at hc; done)

end Go.Apx
