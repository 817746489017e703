/- ABSTRACT MACHINE, part 10: each operation does what the abstract one says (V): slices, stores, maps. -/
import Derived.Test.YtbijnfhclfimeaaDoorAm9
namespace Go.Apx
set_option linter.unusedVariables false
set_option linter.unusedSimpArgs false

section
variable {P : Program} {G : Globs} {N S k : Nat} {D : Ro} {o : Oper} {a : Act} {I : Imm} {m : Locs} {w : World} {env : Env} {h : AHeap} {ann : List Nat}

theorem replicate_rel {z : AV} {zl : List Value} (hz : AVRels I m z.cells zl) : ∀ n, AVRels I m ((List.replicate n z).flatMap AV.cells) (List.replicate n zl).flatten
  | 0 => by simpa using AVRels.nil
  | n + 1 => by
    rw [List.replicate_succ, List.replicate_succ, List.flatMap_cons, List.flatten_cons]
    exact hz.append (replicate_rel hz n)

theorem snd_bslice {t e : TypeId} {len : Nat} {parts : Array (Nat × Operand)} {z : AV} {ty : Ty} {ps : List (Nat × Opd)} {v : AV} {h' : AHeap} (ho : o.op = .buildSlice t len parts)
    (ht : P.underlying t = some (.slice e)) (hty : compTy P e = some ty) (hz : compZero P e = some z) (hlen : ¬ (len * ty.size > 2 ^ 24 ∨ z.cells.length ≠ ty.size ∨ ty.size = 0))
    (hps : mapM' (fun (p : Nat × Operand) => match compOpd p.2 with | some x => some (p.1, x) | _ => none) parts.toList = some ps)
    (hr : Rel G N D S I m env h a w) (he : evalOp G env h (.bslice ty.size len z ps) = some (v, h')) : Does P G k o a I m w v h' := by
  obtain ⟨inf, zv, hinf, hzv, hok, hzz, hzr⟩ := compZero_some (w := w) hz
  obtain ⟨hpl, hpg⟩ := mapM'_some hps
  obtain ⟨inf', hinf', hs', _⟩ := compTy_some (w := w) hty
  have hl1 : ¬ len * ty.size > 2 ^ 24 := fun h => hlen (.inl h)
  have hl2 : z.cells.length = ty.size := Classical.byContradiction fun h => hlen (.inr (.inl h))
  have hl3 : ty.size ≠ 0 := fun h => hlen (.inr (.inr h))
  have hzrel : AVRels I m z.cells zv.cells.toList := by rw [hzz]; exact ofValue_cells hok
  have hzone : ∀ c ∈ z.cells, c.one = true := by rw [hzz]; exact ofValue_one hok
  have hzsize : zv.cells.size = ty.size := by have := hzrel.1; simp at this; omega
  simp only [evalOp] at he
  split at he
  · rename_i qs hqs
    obtain ⟨hql, hqg⟩ := mapM'_some hqs
    simp only [Option.map_eq_some_iff, Prod.mk.injEq] at he
    obtain ⟨es, hes, rfl, rfl⟩ := he
    have hpart : ∀ (i : Nat) (p : Nat × AV), qs[i]? = some p → ∃ p0 u, ps[i]? = some p0 ∧ evalOpd G env p0.2 = some u ∧ (∀ c ∈ u.cells, c.one = true) ∧ p = (p0.1, u) := by
      intro i p hpi
      obtain ⟨p0, hp0⟩ := get_of_lt hql hpi
      have h1 := hqg i p0 p hp0 hpi
      simp only [Option.map_eq_some_iff] at h1
      obtain ⟨u, hu, rfl⟩ := h1
      obtain ⟨hu1, hu2⟩ := oneOpd_some hu
      exact ⟨p0, u, hp0, hu1, hu2, rfl⟩
    have hw0 : ∀ e ∈ List.replicate len z, e.cells.length = ty.size := by intro e he; rw [(List.mem_replicate.1 he).2]; exact hl2
    obtain ⟨hfa, hwe, hle⟩ := fillE_fillA qs _ es hes hw0
    simp at hle
    have hones : ∀ c ∈ es.flatMap AV.cells, c.one = true := fillA_one _ _ _ hfa
      (by intro c hc; obtain ⟨e, he, hce⟩ := List.mem_flatMap.1 hc; rw [(List.mem_replicate.1 he).2] at hce; exact hzone c hce)
      (by
        intro p hp
        obtain ⟨q, hq, rfl⟩ := List.mem_map.1 hp
        obtain ⟨i, hi⟩ := List.getElem?_of_mem hq
        obtain ⟨p0, u, _, _, hu, rfl⟩ := hpart i q hi
        exact hu)
    have hzeros : ((Array.range (len * ty.size)).map fun i => zv.cells[i % zv.cells.size]!).toList = (List.replicate len zv.cells.toList).flatten := by
      rw [← hzsize]; exact zeros_eq zv.cells len (by omega)
    obtain ⟨us, hus, hur⟩ := fill_rel (place := fun i => some (i * ty.size, ty.size)) (I := I) (m := m) _ _ _ ((Array.range (len * ty.size)).map fun i => zv.cells[i % zv.cells.size]!)
      (parts.map fun (i, x) => (i, a.eval x)).toList hfa (by rw [hzeros]; exact replicate_rel hzrel len) (by simp at hpl ⊢; omega) (by
      intro i p q hpi hqi
      simp only [Array.toList_map, List.getElem?_map, Option.map_eq_some_iff] at hqi hpi
      obtain ⟨q0, hq0, rfl⟩ := hqi
      obtain ⟨p1, hp1, rfl⟩ := hpi
      obtain ⟨p0, u, hp0, hu, hu1, rfl⟩ := hpart i p1 hp1
      have := hpg i q0 p0 hq0 hp0
      split at this
      · rename_i x hx
        simp at this; subst this
        exact ⟨rfl, (rel_cells (opd_sound hx hr hu) hu1).1⟩
      · cases this)
    obtain ⟨h2, h3⟩ := hr.inv.allocImm us e k
    have hrun : Gives P o a w (.slice (some ⟨w.heap.size, 0, none⟩) len len) (w.alloc (.cells us e)) := by
      left
      by_cases h0 : len * ty.size = 0
      · have hlen0 : len = 0 := by rcases Nat.mul_eq_zero.1 h0 with h | h <;> omega
        subst hlen0
        have hr0 : Array.range 0 = #[] := rfl
        have hus' := hus
        simp only [Nat.zero_mul, hr0] at hus'
        simp only [execOp, ho, Instr.buildSlice, Sem.run_bind, run_under ht, Result.andThen_ok, run_size hinf', hs']
        simp [hr0] at hus' ⊢
        simp [hus', newRow]
      · simp only [execOp, ho, Instr.buildSlice, Sem.run_bind, run_under ht, Result.andThen_ok, run_size hinf', hs']
        simp only [hl1, if_false, h0, Sem.run_bind, hzr, Result.andThen_ok, Sem.run_pure]
        rw [hus]
        simp [newRow]
    have hle' : ImmLe I (I.row w.heap.size us.toList) := Imm.row_le hr.inv.imm_new
    refine ⟨_, _, _, _, hrun, ?_, h2, h3, .refl m⟩
    rw [← hle]
    refine .sl ty.size es .full _ _ us.toList (by simp) (Nat.le_refl _) (by omega) hwe hones hur.1 (fun i c y hc hy => (hur.2 i c y hc hy).mono hle' (.refl m)) Lies.row (fun _ => rfl) rfl
  · cases he

theorem snd_store {t : TypeId} {ty : Ty} {ad : Operand} {ad' : Opd} {x : Operand} {x' : Opd} {v : AV} {h' : AHeap} (ho : o.op = .store t ad x) (hty : compTy P t = some ty) (had : compOpd ad = some ad') (hx : compOpd x = some x')
    (hr : Rel G N D S I m env h a w) (he : evalOp G env h (.store ty.size ad' x') = some (v, h')) : Does P G k o a I m w v h' := by
  simp only [evalOp] at he
  split at he
  · rename_i ob g off u hu hu'
    split at he
    · rename_i g' cs hob
      split at he
      · rename_i hc
        obtain ⟨rfl, hsz, hle, hone⟩ := hc
        simp only [Option.some.injEq, Prod.mk.injEq] at he
        obtain ⟨rfl, rfl⟩ := he
        have hp := opd_sound had hr hu
        generalize hax : a.eval ad = ax at hp
        have hlt : ob < m.length := by rw [hr.inv.len]; exact (List.getElem?_eq_some_iff.1 hob).1
        obtain ⟨b, lo, n, vs, hl, hle', hrels, hone', hcell, hall⟩ := hr.inv.obj ob _ m[ob] hob (by simp [hlt])
        have hm : m[ob]? = some (.cells g' b lo n) := by rw [← hl]; simp [hlt]
        cases hp with
        | ptr _ _ _ ad _ hpr =>
          obtain ⟨_, hpr⟩ := hpr _ b lo n hm
          have := hpr rfl
          subst this
          have hv := rel_cells (opd_sound hx hr hu') (allOne_iff.1 hone)
          have hlen : (a.eval x).cells.toList.length = ty.size := by rw [← hv.1.1]; exact hsz
          obtain ⟨h1, h2⟩ := hr.inv.store hob hm (us' := u.cells) (us := (a.eval x).cells.toList) (off := off) (by omega) hv.1 (allOne_iff.1 hone)
          rw [hlen] at h1
          refine ⟨undef, _, I, m, .inr ⟨?_, rfl⟩, .tup [] [] rfl (fun i a x ha => by simp at ha), h1, h2 k, .refl m⟩
          have hst := run_storeVar (P := P) (w := w) hty (b := b) (o := lo + off) (v := a.eval x) (by simpa using hlen)
            (fun j hj => by have := (hall (off + j) (by simp at hlen; omega)).1; rwa [← Nat.add_assoc] at this)
            (fun j hj => by have := (hall (off + j) (by simp at hlen; omega)).2; rwa [← Nat.add_assoc] at this) hv.2
          simp [execOp, ho, hax, Instr.storeAt, Instr.sureAddr, hst]
      · cases he
    · cases he
  · cases he

/-! ### maps -/
theorem run_checkKey {b ks : Bool} {t : TypeId} (ht : keyKind P t = some ks) {v : AV} {x : Value} (hv : AVRel I m v x) (hk : isKey ks v = true) : (Instr.checkKey b 10000 t x).run P w = .ok () w := by
  rw [show 10000 = 9999 + 1 from rfl]
  unfold Instr.checkKey
  unfold keyKind at ht
  cases hu : P.underlying t with
  | none => simp [hu] at ht
  | some d => cases d <;> simp [hu] at ht <;> simp [run_under hu]

theorem sameNow_of {ks : Bool} {t : TypeId} {d : TypeDesc} (ht : keyKind P t = some ks) (hd : P.underlying t = some d) {v v' : AV} {x x' : Value} {b : Bool} (hv : AVRel I m v x) (hv' : AVRel I m v' x')
    (hk : isKey ks v = true) (he : keyEq v v' = some b) : Instr.sameNow d x x' = some b := by
  unfold keyKind at ht
  rw [hd] at ht
  unfold keyEq at he
  split at he
  · obtain rfl := rel_sc hv
    obtain rfl := rel_sc hv'
    simp [isKey] at hk
    subst hk
    cases d <;> simp at ht
    simpa [Instr.sameNow] using he
  · obtain rfl := rel_sc hv
    obtain rfl := rel_sc hv'
    simp [isKey] at hk
    subst hk
    cases d <;> simp at ht
    simpa [Instr.sameNow] using he
  · cases he

def EntRel (I : Imm) (m : Locs) (es : List (AV × AV)) (ents : List MapEntry) : Prop :=
  es.length = ents.length ∧ ∀ (i : Nat) (p : AV × AV) (e : MapEntry), es[i]? = some p → ents[i]? = some e → AVRel I m p.1 e.key ∧ AVRel I m p.2 e.val

theorem EntRel.tail {p : AV × AV} {e : MapEntry} {es : List (AV × AV)} {ents : List MapEntry} (h : EntRel I m (p :: es) (e :: ents)) : (AVRel I m p.1 e.key ∧ AVRel I m p.2 e.val) ∧ EntRel I m es ents :=
  ⟨h.2 0 p e rfl rfl, by simpa using h.1, fun i q f hq hf => h.2 (i + 1) q f (by simpa using hq) (by simpa using hf)⟩

theorem findNow_rel {ks : Bool} {t : TypeId} {d : TypeDesc} (ht : keyKind P t = some ks) (hd : P.underlying t = some d) {kv : AV} {x : Value} (hv : AVRel I m kv x) (hk : isKey ks kv = true) :
    ∀ (es : List (AV × AV)) (ents : List MapEntry) (n : Nat) (r : Option AV), EntRel I m es ents → amapFind kv es = some r →
    ∃ q, Instr.findNow d x ents n = some q ∧ (match r with | none => q = none | some v => ∃ i y, q = some (i, y) ∧ AVRel I m v y)
  | [], [], n, r, _, h => by simp [amapFind] at h; subst h; exact ⟨none, rfl, rfl⟩
  | (k', v') :: es, e :: ents, n, r, hr, h => by
    obtain ⟨⟨h1, h2⟩, h3⟩ := hr.tail
    simp only [amapFind] at h
    split at h
    · rename_i he
      simp at h; subst h
      exact ⟨_, by simp [Instr.findNow, sameNow_of ht hd hv h1 hk he], n, e.val, rfl, h2⟩
    · rename_i he
      obtain ⟨q, hq, hm⟩ := findNow_rel ht hd hv hk es ents (n + 1) r h3 h
      exact ⟨q, by simp [Instr.findNow, sameNow_of ht hd hv h1 hk he, hq], hm⟩
    · cases h
  | [], _ :: _, n, r, hr, _ => by have := hr.1; simp at this
  | _ :: _, [], n, r, hr, _ => by have := hr.1; simp at this

theorem run_findKey {t : TypeId} {d : TypeDesc} (hd : P.underlying t = some d) {x : Value} {ents : List MapEntry} {q : Option (Nat × Value)} (h : Instr.findNow d x ents 0 = some q) :
    (Instr.findKey t x ents).run P w = .ok q w := by
  simp [Instr.findKey, run_under hd, h]

theorem keyKind_under {t : TypeId} {ks : Bool} (h : keyKind P t = some ks) : ∃ d, P.underlying t = some d := by
  unfold keyKind at h
  cases hu : P.underlying t with
  | none => simp [hu] at h
  | some d => exact ⟨d, rfl⟩

def lookEntries (x : Value) : Sem (Array MapEntry) :=
  match x with
  | .map none => pure #[]
  | .map (some r) => do
    let .map es _ ← getObj r | stuck "Lookup: map expected"
    pure es
  | _ => stuck "Lookup: map expected"
def lookIn (key elem : TypeId) (index : Value) (ok : Bool) (es : Array MapEntry) : Sem Value := do
  Instr.checkKey es.isEmpty 10000 key index
  let (v, b) ← match ← Instr.findKey key index es.toList with
    | some (_, v) => pure (v, true)
    | none => pure (← zeroValue elem, false)
  pure (if ok then .tuple #[v, .bool b] else v)
theorem run_lookup {t kt e : TypeId} {x i : Value} {ok : Bool} (ht : P.underlying t = some (.map kt e)) :
    (Instr.lookup t x i ok).run P w = ((lookEntries x).run P w).andThen fun es w' => (lookIn kt e i ok es).run P w' := by
  cases x with
  | map r =>
    cases r with
    | none => simp [Instr.lookup, lookEntries, lookIn, run_under ht]; rfl
    | some r =>
      cases hg : (getObj r).run P w with
      | ok ob w' => cases ob <;> simp [Instr.lookup, lookEntries, lookIn, run_under ht, hg] <;> rfl
      | halt hh w' => simp [Instr.lookup, lookEntries, lookIn, run_under ht, hg]
  | _ => simp [Instr.lookup, lookEntries, lookIn, run_under ht]

theorem snd_lookup {t kt e : TypeId} {ks ok : Bool} {z : AV} {x y : Operand} {x' y' : Opd} {v : AV} {h' : AHeap} (ho : o.op = .lookup t x y ok) (ht : P.underlying t = some (.map kt e)) (hkt : keyKind P kt = some ks)
    (hz : compZero P e = some z) (hx : compOpd x = some x') (hy : compOpd y = some y')
    (hr : Rel G N D S I m env h a w) (he : evalOp G env h (.lookup ks z ok x' y') = some (v, h')) : Does P G k o a I m w v h' := by
  obtain ⟨inf, zv, hinf, hzv, hok, hzz, hzr⟩ := compZero_some (w := w) hz
  obtain ⟨d, hd⟩ := keyKind_under hkt
  have hzrel : AVRel I m z zv := by rw [hzz]; exact ofValue_rel hok
  simp only [evalOp] at he
  split at he
  · rename_i mv kv hu hu'
    split at he
    · rename_i hkey
      have hkrel := opd_sound hy hr hu'
      have hp := opd_sound hx hr hu
      generalize hax : a.eval x = ax at hp
      -- the entries
      have key : ∀ (es : List (AV × AV)) (ents : Array MapEntry) (r : Option AV), EntRel I m es ents.toList → amapFind kv es = some r →
          (lookEntries ax).run P w = .ok ents w →
          Does P G k o a I m w (if ok then .tup [r.getD z, .sc (.bool r.isSome)] else r.getD z) h := by
        intro es ents r hent hf hg
        obtain ⟨q, hq, hqr⟩ := findNow_rel hkt hd hkrel hkey es ents.toList 0 r hent hf
        have hval : ∃ yv, AVRel I m (r.getD z) yv ∧ (lookIn kt e (a.eval y) ok ents).run P w = .ok (if ok then .tuple #[yv, .bool r.isSome] else yv) w := by
          cases r with
          | none =>
            simp only at hqr; subst hqr
            exact ⟨zv, hzrel, by simp [lookIn, run_checkKey hkt hkrel hkey, run_findKey hd hq, hzr]⟩
          | some v =>
            obtain ⟨i, yv, rfl, hy⟩ := hqr
            exact ⟨yv, hy, by simp [lookIn, run_checkKey hkt hkrel hkey, run_findKey hd hq]⟩
        obtain ⟨yv, hyv, hyr⟩ := hval
        have hrun : (execOp a.eval o).run P w = .ok (.value (if ok then .tuple #[yv, .bool r.isSome] else yv)) w := by
          simp only [execOp, ho, hax, Sem.run_bind, run_lookup ht, hg, Result.andThen_ok, hyr, Sem.run_pure]
        cases ok with
        | true => exact .same hr.inv (AVRel.tup [_, .sc (.bool r.isSome)] [yv, .bool r.isSome] rfl (AVRels.cons hyv (.cons (.sc _) .nil)).2) (.inl hrun)
        | false => exact .same hr.inv hyv (.inl hrun)
      split at he
      · rename_i es hes
        split at he
        · rename_i r hf
          simp only [Option.some.injEq, Prod.mk.injEq] at he
          obtain ⟨rfl, rfl⟩ := he
          split at hes
          · simp at hes; subst hes
            obtain rfl := rel_sc hp
            exact key [] #[] r ⟨rfl, fun i p e hp => by simp at hp⟩ hf rfl
          · rename_i ob
            split at hes
            · rename_i es' hob
              simp at hes; subst hes
              have hlt : ob < m.length := by rw [hr.inv.len]; exact (List.getElem?_eq_some_iff.1 hob).1
              obtain ⟨b, ents, clock, hl, hb, hrel⟩ := hr.inv.obj ob _ m[ob] hob (by simp [hlt])
              cases hp with
              | mp _ rr _ hrr =>
                have := hrr b (by rw [← hl]; simp [hlt])
                subst this
                refine key es' ents r ⟨hrel.1, hrel.2.1⟩ hf ?_
                simp [lookEntries, getObj, Sem.run, hb]
            · cases hes
          · cases hes
        · cases he
      · cases he
    · cases he
  · cases he

theorem bytesEq_iff (a b : ByteArray) : (a == b) = true ↔ a = b := by
  cases a with | mk a => cases b with | mk b =>
  show (a == b) = true ↔ _
  simp

theorem amapSet_rel {ks : Bool} {t : TypeId} {d : TypeDesc} (ht : keyKind P t = some ks) (hd : P.underlying t = some d) {kv vv : AV} {x : Value} (hv : AVRel I m kv x) (hk : isKey ks kv = true) :
    ∀ (es es' : List (AV × AV)) (ents : List MapEntry) (n : Nat), EntRel I m es ents → amapSet kv vv es = some es' →
    (Instr.findNow d x ents n = some none ∧ es' = es ++ [(kv, vv)]) ∨
    (∃ i e, Instr.findNow d x ents n = some (some (n + i, e.val)) ∧ ents[i]? = some e ∧ Instr.sameBits 10000 e.key x = true ∧ es' = es.set i (kv, vv))
  | [], es', [], n, _, h => by simp [amapSet] at h; subst h; exact .inl ⟨rfl, rfl⟩
  | (k', v') :: es, es', e :: ents, n, hr, h => by
    obtain ⟨⟨h1, h2⟩, h3⟩ := hr.tail
    simp only [amapSet] at h
    split at h
    · rename_i he
      simp at h; subst h
      have hs := sameNow_of ht hd hv h1 hk he
      refine .inr ⟨0, e, by simp [Instr.findNow, hs], rfl, ?_, rfl⟩
      unfold keyEq at he
      split at he
      · obtain rfl := rel_sc hv
        have h1' := rel_sc h1
        rw [h1']
        simp only [Instr.sameBits]
        split at he
        · rename_i hk'; subst hk'; simp at he; simp [he]
        · cases he
      · obtain rfl := rel_sc hv
        have h1' := rel_sc h1
        rw [h1']
        simp only [Instr.sameBits]
        have hkey := Option.some.inj he
        rw [bytesEq_iff] at hkey ⊢
        exact hkey.symm
      · cases he
    · rename_i he
      simp only [Option.map_eq_some_iff] at h
      obtain ⟨es2, hes2, rfl⟩ := h
      have hs := sameNow_of ht hd hv h1 hk he
      rcases amapSet_rel ht hd hv hk es es2 ents (n + 1) h3 hes2 with ⟨g1, g2⟩ | ⟨i, e', g1, g2, g3, g4⟩
      · exact .inl ⟨by simp [Instr.findNow, hs, g1], by rw [g2]; rfl⟩
      · refine .inr ⟨i + 1, e', ?_, by simpa using g2, g3, by rw [g4]; rfl⟩
        simp only [Instr.findNow, hs, g1]
        rw [show n + 1 + i = n + (i + 1) by omega]
    · cases h
  | [], _, _ :: _, n, hr, _ => by have := hr.1; simp at this
  | _ :: _, _, [], n, hr, _ => by have := hr.1; simp at this

theorem snd_mapUpd {t kt e : TypeId} {ks : Bool} {x y z : Operand} {x' y' z' : Opd} {v : AV} {h' : AHeap} (ho : o.op = .mapUpdate t x y z) (ht : P.underlying t = some (.map kt e)) (hkt : keyKind P kt = some ks)
    (hx : compOpd x = some x') (hy : compOpd y = some y') (hz : compOpd z = some z')
    (hr : Rel G N D S I m env h a w) (he : evalOp G env h (.mapUpd ks x' y' z') = some (v, h')) : Does P G k o a I m w v h' := by
  obtain ⟨d, hd⟩ := keyKind_under hkt
  simp only [evalOp] at he
  split at he
  · rename_i ob kv vv hu hu' hu2
    split at he
    · rename_i hkey
      split at he
      · rename_i es hob
        simp only [Option.map_eq_some_iff, Prod.mk.injEq] at he
        obtain ⟨es', hes', rfl, rfl⟩ := he
        have hkrel := opd_sound hy hr hu'
        have hvrel := opd_sound hz hr hu2
        have hp := opd_sound hx hr hu
        generalize hax : a.eval x = ax at hp
        have hlt : ob < m.length := by rw [hr.inv.len]; exact (List.getElem?_eq_some_iff.1 hob).1
        obtain ⟨b, ents, clock, hl, hb, hrel⟩ := hr.inv.obj ob _ m[ob] hob (by simp [hlt])
        have hm : m[ob]? = some (.whole b) := by rw [← hl]; simp [hlt]
        obtain ⟨hlen, hent, hborn, hpw⟩ := hrel
        cases hp with
        | mp _ rr _ hrr =>
          have := hrr b hm
          subst this
          rcases amapSet_rel hkt hd hkrel hkey es es' ents.toList 0 ⟨hlen, hent⟩ hes' with ⟨g1, g2⟩ | ⟨i, en, g1, g2, g3, g4⟩
          · obtain ⟨h1, h2⟩ := hr.inv.setMap hob hm (es' := es') (ents' := ents.push { key := a.eval y, val := a.eval z, born := clock }) (clock' := clock + 1) (by
              refine ⟨by rw [g2]; simp [hlen], fun i p en hp hen => ?_, fun en hen => ?_, ?_⟩
              · rw [g2] at hp
                rw [Array.toList_push] at hen
                rcases getElem?_append_one hp with hp1 | ⟨hi, rfl⟩
                · rcases getElem?_append_one hen with hen1 | ⟨hi', _⟩
                  · exact hent i p en hp1 hen1
                  · have := (List.getElem?_eq_some_iff.1 hp1).1; omega
                · rcases getElem?_append_one hen with hen1 | ⟨hi', rfl⟩
                  · have := (List.getElem?_eq_some_iff.1 hen1).1; omega
                  · exact ⟨hkrel, hvrel⟩
              · rw [Array.toList_push] at hen
                rcases List.mem_append.1 hen with hen | hen
                · have := hborn en hen; omega
                · simp at hen; subst hen; simp
              · rw [Array.toList_push, List.pairwise_append]
                refine ⟨hpw, by simp, fun a' ha' b' hb' => ?_⟩
                simp at hb'; subst hb'
                have := hborn a' ha'
                simp only
                omega)
            refine ⟨undef, _, I, m, .inr ⟨?_, rfl⟩, .tup [] [] rfl (fun i a x ha => by simp at ha), h1, h2 k, .refl m⟩
            simp only [execOp, ho, hax, Instr.mapUpdate, Sem.run_bind, run_under ht, Result.andThen_ok, getObj, Sem.run, hb, run_checkKey hkt hkrel hkey, run_findKey hd g1]
            simp [setObj, Sem.run, hb]
          · have hi : i < ents.size := by have := (List.getElem?_eq_some_iff.1 g2).1; simpa using this
            have hgi : ents[i]? = some en := by rw [← Array.getElem?_toList]; exact g2
            obtain ⟨h1, h2⟩ := hr.inv.setMap hob hm (es' := es') (ents' := ents.modify i fun e => { e with key := a.eval y, val := a.eval z }) (clock' := clock) (by
              refine ⟨by rw [g4]; simp [hlen], fun j p en' hp hen => ?_, fun en' hen => ?_, ?_⟩
              · rw [g4] at hp
                rw [Array.toList_modify, List.getElem?_modify] at hen
                rw [List.getElem?_set] at hp
                by_cases hij : i = j
                · subst hij
                  simp only [if_true] at hp hen
                  rw [if_pos (by rw [hlen]; simpa using hi)] at hp
                  simp at hp; subst hp
                  rw [g2] at hen
                  simp at hen; subst hen
                  exact ⟨hkrel, hvrel⟩
                · simp only [hij, if_false] at hp hen
                  have hen' : ents.toList[j]? = some en' := by
                    cases hq : ents.toList[j]? with
                    | none => rw [hq] at hen; simp at hen
                    | some q => rw [hq] at hen; simpa using hen
                  exact hent j p en' hp hen'
              · obtain ⟨j, hj⟩ := List.getElem?_of_mem hen
                rw [Array.toList_modify, List.getElem?_modify] at hj
                cases hq : ents.toList[j]? with
                | none => rw [hq] at hj; simp at hj
                | some q =>
                  rw [hq] at hj
                  have hqm := hborn q (List.mem_of_getElem? hq)
                  simp only [Option.map_eq_map, Option.map_some, Option.some.injEq] at hj
                  split at hj <;> subst hj <;> exact hqm
              · rw [Array.toList_modify]
                have hmap : ∀ (l : List MapEntry) (j : Nat) (f : MapEntry → MapEntry), (∀ e, (f e).born = e.born) → (l.modify j f).map (·.born) = l.map (·.born) := by
                  intro l
                  induction l with
                  | nil => intro j f hf; simp
                  | cons e l ih =>
                    intro j f hf
                    cases j with
                    | zero => simp [hf]
                    | succ j => simp [ih j f hf]
                have h3 : (ents.toList.map (·.born)).Pairwise (· ≠ ·) := List.pairwise_map.2 hpw
                rw [← hmap ents.toList i (fun e => { e with key := a.eval y, val := a.eval z }) (fun e => rfl)] at h3
                exact List.pairwise_map.1 h3)
            refine ⟨undef, _, I, m, .inr ⟨?_, rfl⟩, .tup [] [] rfl (fun i a x ha => by simp at ha), h1, h2 k, .refl m⟩
            simp only [Nat.zero_add] at g1
            have hkeep : (Instr.keyThatStays (((ents[i]?).map (·.key)).getD (a.eval y)) (a.eval y)).run P w = .ok (a.eval y) w := by
              simp [hgi, Instr.keyThatStays, g3]
            simp only [execOp, ho, hax, Instr.mapUpdate, Sem.run_bind, run_under ht, Result.andThen_ok, getObj, Sem.run, hb, run_checkKey hkt hkrel hkey, run_findKey hd g1, hkeep]
            simp [setObj, Sem.run, hb]
      · cases he
    · cases he
  · cases he

end
end Go.Apx
