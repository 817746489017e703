/- ABSTRACT MACHINE, part 7: each operation does what the abstract one says (III): conversions, parts, addresses, lengths, cuts. -/
import Derived.Test.YtbijnfhclfimeaaDoorAm6
import Derived.Laws.StructEq
namespace Go.Apx
set_option linter.unusedVariables false
set_option linter.unusedSimpArgs false

section
variable {P : Program} {G : Globs} {N S k : Nat} {D : Ro} {o : Oper} {a : Act} {I : Imm} {m : Locs} {w : World} {env : Env} {h : AHeap} {ann : List Nat}

theorem snd_pick {c x y : Operand} {c' x' y' : Opd} {v : AV} {h' : AHeap} (ho : o.op = .pick c x y) (hc : compOpd c = some c') (hx : compOpd x = some x') (hy : compOpd y = some y')
    (hr : Rel G N D S I m env h a w) (he : evalOp G env h (.pick c' x' y') = some (v, h')) : Does P G k o a I m w v h' := by
  simp only [evalOp] at he
  split at he
  · rename_i t ht
    simp only [Option.map_eq_some_iff, Prod.mk.injEq] at he
    obtain ⟨r, hb, rfl, rfl⟩ := he
    have h1 := rel_sc (opd_sound hc hr ht)
    cases t with
    | true => exact .same hr.inv (opd_sound hx hr hb) (.inl (by simp [execOp, ho, h1, asBool]))
    | false => exact .same hr.inv (opd_sound hy hr hb) (.inl (by simp [execOp, ho, h1, asBool]))
  · cases he

theorem snd_un {op : UnOp} {t : TypeId} {x : Operand} {x' : Opd} {v : AV} {h' : AHeap} (ho : o.op = .unOp op t x) (hx : compOpd x = some x')
    (hr : Rel G N D S I m env h a w) (he : evalOp G env h (.un op x') = some (v, h')) : Does P G k o a I m w v h' := by
  simp only [evalOp] at he
  split at he
  · rename_i u hu
    simp only [Option.map_eq_some_iff, Prod.mk.injEq] at he
    obtain ⟨r, hb, rfl, rfl⟩ := he
    have h1 := rel_sc (opd_sound hx hr hu)
    refine .same hr.inv (.sc r) (.inl ?_)
    unfold unV at hb
    split at hb <;> simp at hb <;> subst hb <;> simp [execOp, ho, h1, Op.unary, Op.intArith, Op.intBits]
  · cases he

theorem snd_conv {s d : TypeId} {q q' : IntKind} {x : Operand} {x' : Opd} {v : AV} {h' : AHeap} (ho : o.op = .convert s d x) (hs : P.underlying s = some (.int q')) (hd : P.underlying d = some (.int q))
    (hx : compOpd x = some x') (hr : Rel G N D S I m env h a w) (he : evalOp G env h (.conv q x') = some (v, h')) : Does P G k o a I m w v h' := by
  simp only [evalOp] at he
  split at he
  · rename_i q2 n hu
    simp only [Option.some.injEq, Prod.mk.injEq] at he
    obtain ⟨rfl, rfl⟩ := he
    have h1 := rel_sc (opd_sound hx hr hu)
    exact .same hr.inv (.sc _) (.inl (by simp [execOp, ho, h1, convert, run_under hs, run_under hd, Conv.intToInt]))
  · cases he

theorem snd_same {s d : TypeId} {x : Operand} {x' : Opd} {v : AV} {h' : AHeap} (ho : o.op = .convert s d x) (hs : P.underlying s = some .string) (hd : P.underlying d = some .string)
    (hx : compOpd x = some x') (hr : Rel G N D S I m env h a w) (he : evalOp G env h (.same x') = some (v, h')) : Does P G k o a I m w v h' := by
  simp only [evalOp] at he
  split at he
  · rename_i n hu
    simp only [Option.some.injEq, Prod.mk.injEq] at he
    obtain ⟨rfl, rfl⟩ := he
    have h1 := rel_sc (opd_sound hx hr hu)
    exact .same hr.inv (.sc _) (.inl (by simp [execOp, ho, h1, convert, run_under hs, run_under hd]))
  · cases he

theorem snd_mkIface {t : TypeId} {d : TypeDesc} {x : Operand} {x' : Opd} {v : AV} {h' : AHeap} (ho : o.op = .makeInterface t x) (hd : P.underlying t = some d) (hni : ∀ e, d ≠ .interface e)
    (hx : compOpd x = some x') (hr : Rel G N D S I m env h a w) (he : evalOp G env h (.mkIface t x') = some (v, h')) : Does P G k o a I m w v h' := by
  simp only [evalOp, Option.map_eq_some_iff, Prod.mk.injEq] at he
  obtain ⟨u, hu, rfl, rfl⟩ := he
  refine .same hr.inv (.ifc t u _ (opd_sound hx hr hu)) (.inl ?_)
  cases d <;> simp [execOp, ho, Instr.makeInterface, run_under hd] <;> exact absurd rfl (hni _)

theorem snd_mkFunc {f : Fn} {xs ys : Array Operand} {xs' ys' : List Opd} {v : AV} {h' : AHeap} (ho : o.op = .makeFunc f xs ys)
    (hx : mapM' compOpd xs.toList = some xs') (hy : mapM' compOpd ys.toList = some ys')
    (hr : Rel G N D S I m env h a w) (he : evalOp G env h (.mkFunc f xs' ys') = some (v, h')) : Does P G k o a I m w v h' := by
  simp only [evalOp] at he
  split at he
  · rename_i us ws hu hw
    simp only [Option.some.injEq, Prod.mk.injEq] at he
    obtain ⟨rfl, rfl⟩ := he
    have h1 := opds_sound hx hr hu
    have h2 := opds_sound hy hr hw
    refine .same hr.inv (.fn f us ws _ _ h1.1 h2.1 h1.2 h2.2) (.inl ?_)
    have e1 : (xs.toList.map a.eval).toArray = xs.map a.eval := by apply Array.ext'; simp
    have e2 : (ys.toList.map a.eval).toArray = ys.map a.eval := by apply Array.ext'; simp
    rw [e1, e2]
    simp [execOp, ho, Instr.makeFunc]
  · cases he

theorem snd_extract {x : Operand} {x' : Opd} {i : Nat} {v : AV} {h' : AHeap} (ho : o.op = .extract x i) (hx : compOpd x = some x')
    (hr : Rel G N D S I m env h a w) (he : evalOp G env h (.extract x' i) = some (v, h')) : Does P G k o a I m w v h' := by
  simp only [evalOp] at he
  split at he
  · rename_i vs hu
    simp only [Option.map_eq_some_iff, Prod.mk.injEq] at he
    obtain ⟨r, hb, rfl, rfl⟩ := he
    have hp := opd_sound hx hr hu
    generalize hax : a.eval x = ax at hp
    cases hp with
    | tup cs us hl hrel =>
      obtain ⟨y, hy, hv⟩ := AVRels.get ⟨hl, hrel⟩ hb
      exact .same hr.inv hv (.inl (by simp [execOp, ho, hax, Instr.extract, hy]))
  · cases he

theorem snd_mx {isMax : Bool} {c : Call} {x y : Operand} {x' y' : Opd} {v : AV} {h' : AHeap} (ho : o.op = .call c) (hc : c.callee = .builtin (if isMax then .max else .min))
    (ha : c.args.toList = [x, y]) (hx : compOpd x = some x') (hy : compOpd y = some y')
    (hr : Rel G N D S I m env h a w) (he : evalOp G env h (.mx isMax x' y') = some (v, h')) : Does P G k o a I m w v h' := by
  simp only [evalOp] at he
  split at he
  · rename_i q u q' u' hu hu'
    split at he
    · rename_i hq; subst hq
      simp only [Option.some.injEq, Prod.mk.injEq] at he
      obtain ⟨rfl, rfl⟩ := he
      have h1 := rel_sc (opd_sound hx hr hu)
      have h2 := rel_sc (opd_sound hy hr hu')
      have hargs : c.args.map a.eval = #[a.eval x, a.eval y] := by
        apply Array.ext'
        simp [ha]
      refine .same hr.inv (.sc _) (.inl ?_)
      cases isMax <;> simp [execOp, ho, resolve, hc, hargs, h1, h2, invoke, builtin, Builtin.max_, Builtin.min_, Builtin.max2, Builtin.min2]
    · cases he
  · cases he

theorem run_part {t : TypeId} {ty : Ty} (hty : compTy P t = some ty) {vs : List Value} {off : Nat} (hl : ((vs.drop off).take ty.size).length = ty.size) :
    (part t vs.toArray off).run P w = .ok (ty.read ((vs.drop off).take ty.size)) w := by
  obtain ⟨i, hi, hs, ha⟩ := compTy_some (w := w) hty
  cases ty with
  | one =>
    simp only [Ty.size] at hl
    have hlt : off < vs.length := by simp at hl; omega
    have hd : (vs.drop off).take 1 = [vs[off]] := by rw [List.drop_eq_getElem_cons hlt]; rfl
    simp [part, ha, Ty.isAgg, Ty.read, Ty.size, hlt, hd]
  | agg n =>
    simp only [Ty.size] at hs hl
    have he : vs.toArray.extract off (off + n) = ((vs.drop off).take n).toArray := by
      apply Array.ext'
      simp [List.extract_eq_take_drop]
    simp [part, ha, Ty.isAgg, Ty.read, Ty.size, run_size hi, hs, he]

theorem fieldOf_some {t : TypeId} {f off : Nat} {ty : Ty} (h : fieldOf P t f = some (off, ty)) :
    ∃ fields fd, P.underlying t = some (.struct fields) ∧ fields[f]? = some fd ∧ fd.offset = off ∧ compTy P fd.type = some ty ∧ 0 < ty.size := by
  unfold fieldOf at h
  split at h
  · rename_i fields hu
    split at h
    · rename_i fd hf
      split at h
      · rename_i ty' hty
        split at h
        · rename_i hpos
          simp at h
          obtain ⟨rfl, rfl⟩ := h
          exact ⟨fields, fd, hu, hf, rfl, hty, hpos⟩
        · cases h
      · cases h
    · cases h
  · cases h

theorem compTyP_some {t : TypeId} {ty : Ty} (h : compTyP P t = some ty) : compTy P t = some ty ∧ 0 < ty.size := by
  unfold compTyP at h
  split at h
  · rename_i ty' hty
    split at h
    · simp at h; subst h; exact ⟨hty, by assumption⟩
    · cases h
  · cases h

theorem snd_field {t : TypeId} {f : Nat} {x : Operand} {x' : Opd} {off : Nat} {ty : Ty} {v : AV} {h' : AHeap} (ho : o.op = .field t x f) (hf : fieldOf P t f = some (off, ty)) (hx : compOpd x = some x')
    (hr : Rel G N D S I m env h a w) (he : evalOp G env h (.field off ty x') = some (v, h')) : Does P G k o a I m w v h' := by
  obtain ⟨fields, fd, hu, hfd, rfl, hty, hpos⟩ := fieldOf_some hf
  simp only [evalOp] at he
  split at he
  · rename_i cs hu'
    simp only [Option.map_eq_some_iff, Prod.mk.injEq] at he
    obtain ⟨r, hb, rfl, rfl⟩ := he
    have hp := opd_sound hx hr hu'
    generalize hax : a.eval x = ax at hp
    cases hp with
    | agg _ vs hl h1 hrel =>
      obtain ⟨us, hus, hul, hur, hu1, hrd⟩ := part_rel ⟨hl, hrel⟩ h1 hb
      refine .same hr.inv hrd (.inl ?_)
      subst hus
      have := run_part (P := P) (w := w) hty (vs := vs) (off := fd.offset) hul
      simp [execOp, ho, hax, Instr.field, run_under hu, hfd, asAgg, this]
  · cases he

theorem lies_part {ty : Ty} {cs : List AV} {off : Nat} {v : AV} {ad : Addr} {vs : List Value} (hl : cs.length = vs.length) (hrel : ∀ (i : Nat) (a : AV) (x : Value), cs[i]? = some a → vs[i]? = some x → AVRel I m a x)
    (h1 : ∀ c ∈ cs, c.one = true) (hI : Lies I ad.block ad.off vs) (hp : partOf ty cs off = some v) :
    AVRel I m (.ip v) (.pointer (some ⟨ad.block, ad.off + off, none⟩)) := by
  obtain ⟨us, hus, hul, hur, hu1, hrd⟩ := part_rel ⟨hl, hrel⟩ h1 hp
  exact .ip v _ us hu1 hur.1 hur.2 (by rw [hus]; exact hI.sub off ty.size) rfl

theorem addr_add {ad : Addr} (hs : ad.spot = none) (n : Nat) : ad.add n = ⟨ad.block, ad.off + n, none⟩ := by
  obtain ⟨b, o, s⟩ := ad
  simp at hs; subst hs
  exact Addr.add_mk b o n

theorem snd_faddr {t : TypeId} {f : Nat} {x : Operand} {x' : Opd} {off : Nat} {ty : Ty} {v : AV} {h' : AHeap} (ho : o.op = .fieldAddr t x f) (hf : fieldOf P t f = some (off, ty)) (hx : compOpd x = some x')
    (hr : Rel G N D S I m env h a w) (he : evalOp G env h (.faddr off ty x') = some (v, h')) : Does P G k o a I m w v h' := by
  obtain ⟨fields, fd, hu, hfd, rfl, hty, hpos⟩ := fieldOf_some hf
  obtain ⟨i, hi, hsz, _⟩ := compTy_some (w := w) hty
  have hplace : ∀ ad : Addr, (fieldPlace ad fd).run P w = .ok (ad.add fd.offset) w := fun ad => by
    have : ¬ i.size = 0 := by omega
    simp [fieldPlace, run_size hi, this]
  have hrun : ∀ ad : Addr, a.eval x = .pointer (some ad) → Gives P o a w (.pointer (some (ad.add fd.offset))) w := fun ad hax => .inl (by
    simp [execOp, ho, hax, Instr.fieldAt, run_under hu, hfd, Instr.sureAddr, hplace])
  simp only [evalOp] at he
  split at he
  · rename_i cs hu'
    simp only [Option.map_eq_some_iff, Prod.mk.injEq] at he
    obtain ⟨r, hb, rfl, rfl⟩ := he
    have hp := opd_sound hx hr hu'
    generalize hax : a.eval x = ax at hp
    cases hp with
    | ip _ ad vs h1 hl hrel hI hs =>
      refine .same hr.inv ?_ (hrun ad hax)
      rw [addr_add hs]
      exact lies_part hl hrel h1 hI hb
  · rename_i ob g off' hu'
    simp only [Option.some.injEq, Prod.mk.injEq] at he
    obtain ⟨rfl, rfl⟩ := he
    have hp := opd_sound hx hr hu'
    generalize hax : a.eval x = ax at hp
    cases hp with
    | ptr _ _ _ ad hob hpr =>
      refine .same hr.inv (.ptr ob g _ _ hob ?_) (hrun ad hax)
      intro g' b lo n hm
      refine ⟨(hpr g' b lo n hm).1, fun hg => ?_⟩
      rw [(hpr g' b lo n hm).2 hg, Addr.add_mk, Nat.add_assoc]
  · cases he

/-- The elements of a row, one by one. -/
theorem flat_get {q : Nat} : ∀ (es : List AV) (i : Nat) (e : AV), (∀ e ∈ es, e.cells.length = q) → es[i]? = some e →
    (((es.flatMap AV.cells).drop (i * q)).take q) = e.cells
  | [], i, e, hw, he => by simp at he
  | x :: es, 0, e, hw, he => by
    simp at he; subst he
    have := hw x (by simp)
    simp [← this]
  | x :: es, i + 1, e, hw, he => by
    have hx := hw x (by simp)
    have := flat_get es i e (fun e he => hw e (by simp [he])) (by simpa using he)
    rw [List.flatMap_cons, List.drop_append]
    have : (i + 1) * q - x.cells.length = i * q := by rw [hx, Nat.succ_mul]; omega
    have h2 : x.cells.drop ((i + 1) * q) = [] := by apply List.drop_eq_nil_of_le; rw [hx, Nat.succ_mul]; omega
    rw [this, h2, List.nil_append]
    assumption

theorem lies_elem {q : Nat} {es : List AV} {i : Nat} {e : AV} {ad : Addr} {vs : List Value} (hw : ∀ e ∈ es, e.cells.length = q) (h1 : ∀ c ∈ es.flatMap AV.cells, c.one = true)
    (hrels : AVRels I m (es.flatMap AV.cells) vs) (hI : Lies I ad.block ad.off vs) (he : es[i]? = some e) :
    AVRel I m (.ip e) (.pointer (some ⟨ad.block, ad.off + i * q, none⟩)) := by
  have hf := flat_get es i e hw he
  have hr := (hrels.drop (i * q)).take q
  rw [hf] at hr
  have hmem : e ∈ es := List.mem_of_getElem? he
  exact .ip e _ _ (fun c hc => h1 c (List.mem_flatMap.2 ⟨e, hmem, hc⟩)) hr.1 hr.2 (hI.sub _ _) rfl

theorem asNat_int {v : AV} {n : Nat} (h : asNat v = some n) : ∃ q z, v = .sc (.int q z) ∧ 0 ≤ z ∧ z.toNat = n := by
  unfold asNat at h
  split at h
  · rename_i q z
    split at h
    · simp at h; exact ⟨q, z, rfl, by assumption, h⟩
    · cases h
  · cases h

theorem opd_nat {x : Operand} {x' : Opd} {n : Nat} (hx : compOpd x = some x') (hr : Rel G N D S I m env h a w) (he : (evalOpd G env x').bind asNat = some n) :
    ∃ q z, a.eval x = .int q z ∧ 0 ≤ z ∧ z.toNat = n := by
  simp only [Option.bind_eq_some_iff] at he
  obtain ⟨v, hv, hn⟩ := he
  obtain ⟨q, z, rfl, hz, hzn⟩ := asNat_int hn
  exact ⟨q, z, rel_sc (opd_sound hx hr hv), hz, hzn⟩

theorem snd_iaddr {t e : TypeId} {ty : Ty} {x i : Operand} {x' i' : Opd} {v : AV} {h' : AHeap} (ho : o.op = .indexAddr t x i) (ht : P.underlying t = some (.slice e)) (hty : compTyP P e = some ty)
    (hx : compOpd x = some x') (hi : compOpd i = some i') (hr : Rel G N D S I m env h a w) (he : evalOp G env h (.iaddr ty.size x' i') = some (v, h')) : Does P G k o a I m w v h' := by
  obtain ⟨hty, hpos⟩ := compTyP_some hty
  obtain ⟨inf, hinf, hsz, _⟩ := compTy_some (w := w) hty
  simp only [evalOp] at he
  split at he
  · rename_i k' es c n hu hn
    obtain ⟨q, z, hai, hz, hzn⟩ := opd_nat hi hr hn
    split at he
    · rename_i hk; subst hk
      simp only [Option.map_eq_some_iff, Prod.mk.injEq] at he
      obtain ⟨el, hel, rfl, rfl⟩ := he
      have hp := opd_sound hx hr hu
      generalize hax : a.eval x = ax at hp
      have hlt : n < es.length := (List.getElem?_eq_some_iff.1 hel).1
      cases hp with
      | slnil => simp at hlt
      | sl _ _ _ ad cap vs hc hle hk hw h1 hl hrel hI hs hcap =>
        have hne : es ≠ [] := by intro e; subst e; simp at hlt
        refine .same hr.inv (lies_elem hw h1 ⟨hl, hrel⟩ hI hel) (.inl ?_)
        have hin : 0 ≤ z ∧ z < (es.length : Int) := ⟨hz, by omega⟩
        simp [execOp, ho, hax, hai, Instr.indexAt, asIntOf, run_under ht, hin, run_size hinf, hsz, addr_add (hs hne), hzn]
    · cases he
  · rename_i ob g off len full n hu hn
    obtain ⟨q, z, hai, hz, hzn⟩ := opd_nat hi hr hn
    split at he
    · rename_i hlt
      simp only [Option.some.injEq, Prod.mk.injEq] at he
      obtain ⟨rfl, rfl⟩ := he
      have hp := opd_sound hx hr hu
      generalize hax : a.eval x = ax at hp
      cases hp with
      | rf _ _ _ _ _ ad cap hob hle hf hpr =>
        refine .same hr.inv (.ptr ob g _ (ad.add (n * ty.size)) hob ?_) (.inl ?_)
        · intro g' b lo n' hm
          have hpr := hpr (by omega)
          refine ⟨(hpr g' b lo n' hm).1, fun hg => ?_⟩
          rw [(hpr g' b lo n' hm).2 hg, Addr.add_mk, Nat.add_assoc]
        · have hin : 0 ≤ z ∧ z < (len : Int) := ⟨hz, by omega⟩
          simp [execOp, ho, hax, hai, Instr.indexAt, asIntOf, run_under ht, hin, run_size hinf, hsz, hzn]
    · cases he
  · cases he

theorem snd_iaddrA {t e : TypeId} {n : Nat} {ty : Ty} {x i : Operand} {x' i' : Opd} {v : AV} {h' : AHeap} (ho : o.op = .indexAddr t x i) (ht : P.underlying t = some (.array n e)) (hty : compTyP P e = some ty)
    (hx : compOpd x = some x') (hi : compOpd i = some i') (hr : Rel G N D S I m env h a w) (he : evalOp G env h (.iaddrA n ty x' i') = some (v, h')) : Does P G k o a I m w v h' := by
  obtain ⟨hty, hpos⟩ := compTyP_some hty
  obtain ⟨inf, hinf, hsz, _⟩ := compTy_some (w := w) hty
  simp only [evalOp] at he
  split at he
  · rename_i cs j hu hn
    obtain ⟨q, z, hai, hz, hzn⟩ := opd_nat hi hr hn
    split at he
    · rename_i hlt
      simp only [Option.map_eq_some_iff, Prod.mk.injEq] at he
      obtain ⟨el, hel, rfl, rfl⟩ := he
      have hp := opd_sound hx hr hu
      generalize hax : a.eval x = ax at hp
      cases hp with
      | ip _ ad vs h1 hl hrel hI hs =>
        refine .same hr.inv (lies_part hl hrel h1 hI hel) (.inl ?_)
        have hin : 0 ≤ z ∧ z < (n : Int) := ⟨hz, by omega⟩
        simp [execOp, ho, hax, hai, Instr.indexAt, Instr.sureAddr, asIntOf, run_under ht, hin, run_size hinf, hsz, addr_add hs, hzn]
    · cases he
  · rename_i ob g off j hu hn
    obtain ⟨q, z, hai, hz, hzn⟩ := opd_nat hi hr hn
    split at he
    · rename_i hlt
      simp only [Option.some.injEq, Prod.mk.injEq] at he
      obtain ⟨rfl, rfl⟩ := he
      have hp := opd_sound hx hr hu
      generalize hax : a.eval x = ax at hp
      cases hp with
      | ptr _ _ _ ad hob hpr =>
        refine .same hr.inv (.ptr ob g _ (ad.add (j * ty.size)) hob ?_) (.inl ?_)
        · intro g' b lo n' hm
          refine ⟨(hpr g' b lo n' hm).1, fun hg => ?_⟩
          rw [(hpr g' b lo n' hm).2 hg, Addr.add_mk, Nat.add_assoc]
        · have hin : 0 ≤ z ∧ z < (n : Int) := ⟨hz, by omega⟩
          simp [execOp, ho, hax, hai, Instr.indexAt, Instr.sureAddr, asIntOf, run_under ht, hin, run_size hinf, hsz, hzn]
    · cases he
  · cases he

theorem snd_index {t e : TypeId} {n : Nat} {ty : Ty} {x i : Operand} {x' i' : Opd} {v : AV} {h' : AHeap} (ho : o.op = .index t x i) (ht : P.underlying t = some (.array n e)) (hty : compTyP P e = some ty)
    (hx : compOpd x = some x') (hi : compOpd i = some i') (hr : Rel G N D S I m env h a w) (he : evalOp G env h (.index n ty x' i') = some (v, h')) : Does P G k o a I m w v h' := by
  obtain ⟨hty, hpos⟩ := compTyP_some hty
  obtain ⟨inf, hinf, hsz, _⟩ := compTy_some (w := w) hty
  simp only [evalOp] at he
  split at he
  · rename_i cs j hu hn
    obtain ⟨q, z, hai, hz, hzn⟩ := opd_nat hi hr hn
    split at he
    · rename_i hlt
      simp only [Option.map_eq_some_iff, Prod.mk.injEq] at he
      obtain ⟨el, hel, rfl, rfl⟩ := he
      have hp := opd_sound hx hr hu
      generalize hax : a.eval x = ax at hp
      cases hp with
      | agg _ vs hl h1 hrel =>
        obtain ⟨us, hus, hul, hur, hu1, hrd⟩ := part_rel ⟨hl, hrel⟩ h1 hel
        refine .same hr.inv hrd (.inl ?_)
        subst hus
        have hin : 0 ≤ z ∧ z < (n : Int) := ⟨hz, by omega⟩
        have hp := run_part (P := P) (w := w) hty (vs := vs) (off := j * ty.size) hul
        simp [execOp, ho, hax, hai, Instr.index, asIntOf, run_under ht, hin, run_size hinf, hsz, hzn, hp]
    · cases he
  · cases he

theorem snd_indexS {t : TypeId} {x i : Operand} {x' i' : Opd} {v : AV} {h' : AHeap} (ho : o.op = .index t x i) (ht : P.underlying t = some .string)
    (hx : compOpd x = some x') (hi : compOpd i = some i') (hr : Rel G N D S I m env h a w) (he : evalOp G env h (.indexS x' i') = some (v, h')) : Does P G k o a I m w v h' := by
  simp only [evalOp] at he
  split at he
  · rename_i s j hu hn
    obtain ⟨q, z, hai, hz, hzn⟩ := opd_nat hi hr hn
    simp only [Option.map_eq_some_iff, Prod.mk.injEq] at he
    obtain ⟨b, hb, rfl, rfl⟩ := he
    have h1 := rel_sc (opd_sound hx hr hu)
    refine .same hr.inv (.sc _) (.inl ?_)
    subst hzn
    simp [execOp, ho, h1, hai, Instr.index, asIntOf, run_under ht, hz, hb]
  · cases he

theorem snd_tassert {xt t : TypeId} {d : TypeDesc} {z : AV} {ok : Bool} {x : Operand} {x' : Opd} {v : AV} {h' : AHeap} (ho : o.op = .typeAssert x xt t ok) (hd : P.underlying t = some d) (hni : ∀ e, d ≠ .interface e)
    (hz : compZero P t = some z) (hx : compOpd x = some x') (hr : Rel G N D S I m env h a w) (he : evalOp G env h (.tassert t z ok x') = some (v, h')) : Does P G k o a I m w v h' := by
  have hzero : ∃ zv, (zeroValue t).run P w = .ok zv w ∧ AVRel I m z zv := by
    unfold compZero at hz
    split at hz
    · rename_i inf hinf
      split at hz
      · rename_i zv hzv
        split at hz
        · rename_i hok
          simp at hz; subst hz
          exact ⟨zv, by simp [zeroValue, run_typeInfo hinf, hzv], ofValue_rel hok⟩
        · cases hz
      · cases hz
    · cases hz
  obtain ⟨zv, hzr, hzrel⟩ := hzero
  simp only [evalOp] at he
  split at he
  · rename_i t' u hu
    have hp := opd_sound hx hr hu
    generalize hax : a.eval x = ax at hp
    cases hp with
    | ifc _ _ y hy =>
      split at he
      · rename_i htt; subst htt
        simp only [Option.some.injEq, Prod.mk.injEq] at he
        obtain ⟨rfl, rfl⟩ := he
        cases ok with
        | true =>
          refine .same (x := .tuple #[y, .bool true]) hr.inv (AVRel.tup [u, .sc (.bool true)] [y, .bool true] rfl (AVRels.cons hy (.cons (.sc _) .nil)).2) (.inl ?_)
          cases d <;> simp [execOp, ho, hax, Instr.typeAssert, run_under hd] <;> exact absurd rfl (hni _)
        | false =>
          refine .same hr.inv hy (.inl ?_)
          cases d <;> simp [execOp, ho, hax, Instr.typeAssert, run_under hd] <;> exact absurd rfl (hni _)
      · rename_i htt
        cases ok with
        | false => simp at he
        | true =>
          simp at he
          obtain ⟨rfl, rfl⟩ := he
          refine .same (x := .tuple #[zv, .bool false]) hr.inv (AVRel.tup [z, .sc (.bool false)] [zv, .bool false] rfl (AVRels.cons hzrel (.cons (.sc _) .nil)).2) (.inl ?_)
          cases d <;> simp [execOp, ho, hax, Instr.typeAssert, run_under hd, htt, hzr] <;> exact absurd rfl (hni _)
  · rename_i hu
    have h1 := rel_sc (opd_sound hx hr hu)
    cases ok with
    | false => simp at he
    | true =>
      simp at he
      obtain ⟨rfl, rfl⟩ := he
      refine .same (x := .tuple #[zv, .bool false]) hr.inv (AVRel.tup [z, .sc (.bool false)] [zv, .bool false] rfl (AVRels.cons hzrel (.cons (.sc _) .nil)).2) (.inl ?_)
      cases d <;> simp [execOp, ho, h1, Instr.typeAssert, run_under hd, hzr] <;> exact absurd rfl (hni _)
  · cases he

/-! ### structures against one another -/
theorem run_eqFields {d : Nat} {X Y : List Value} : ∀ (fs : List Field) (i : Nat) (ks : List Nat) (cs ds : List AV) (b : Bool), flatFs P fs i = some ks → AVRels I m cs (X.drop i) → AVRels I m ds (Y.drop i) → cellsEq ks cs ds = some b →
    (Op.eqFields (d + 1) X.toArray Y.toArray fs).run P w = .ok b w
  | [], i, ks, cs, ds, b, hf, _, _, he => by
    simp [flatFs] at hf; subst hf
    cases cs <;> cases ds <;> simp [cellsEq] at he
    subst he; rfl
  | f :: fs, i, ks, cs, ds, b, hf, hx, hy, he => by
    simp only [flatFs] at hf
    split at hf
    case isFalse => cases hf
    rename_i hcond
    obtain ⟨hoff, hname, hty⟩ := hcond
    have main : ∀ (k : Nat) (l : List Nat), ks = k :: l → flatFs P fs (i + 1) = some l → (∀ c d' x y p, cellEq k c d' = some p → AVRel I m c x → AVRel I m d' y → (Op.equalIn (d + 1) f.type x y).run P w = .ok p w) →
        (Op.eqFields (d + 1) X.toArray Y.toArray (f :: fs)).run P w = .ok b w := by
      intro k l hks hl hstep
      subst hks
      cases cs with
      | nil => cases ds <;> simp [cellsEq] at he
      | cons c cs =>
        cases ds with
        | nil => simp [cellsEq] at he
        | cons d' ds =>
          obtain ⟨x, xs, ex, hcx, hxs⟩ := AVRels.cons_iff.1 hx
          obtain ⟨y, ys, ey, hdy, hys⟩ := AVRels.cons_iff.1 hy
          have hX : X.drop (i + 1) = xs := by rw [← List.drop_drop, ex]; rfl
          have hY : Y.drop (i + 1) = ys := by rw [← List.drop_drop, ey]; rfl
          simp only [cellsEq] at he
          split at he
          case h_2 => cases he
          rename_i p q hp hq
          simp at he; subst he
          have ih := run_eqFields (d := d) fs (i + 1) l cs ds q hl (by rw [hX]; exact hxs) (by rw [hY]; exact hys) hq
          have px := run_part (P := P) (w := w) hty (vs := X) (off := i) (by rw [ex]; simp [Ty.size])
          have py := run_part (P := P) (w := w) hty (vs := Y) (off := i) (by rw [ey]; simp [Ty.size])
          rw [ex] at px
          rw [ey] at py
          simp only [Ty.read, Ty.size, List.take_succ_cons, List.take_zero] at px py
          have hq' := hstep c d' x y p hp hcx hdy
          rw [← hoff] at px py
          simp only [List.headD_cons] at px py
          simp only [Op.eqFields, if_pos hname, Sem.run_bind, px, py, Result.andThen_ok, hq']
          cases p with
          | true => simpa using ih
          | false => simp
    split at hf
    · rename_i kk l hu hl
      simp at hf
      refine main 0 l hf.symm hl fun c d' x y p hp hc hd => ?_
      unfold cellEq at hp
      split at hp
      · have e1 := rel_sc hc; have e2 := rel_sc hd; subst e1 e2
        split at hp
        · rename_i hk; subst hk
          simp at hp; subst hp
          exact run_equalIn_int w d f.type _ _ _ _ hu
        · cases hp
      · rename_i e; cases e
      · rename_i e; cases e
      · cases hp
    · rename_i l hu hl
      simp at hf
      refine main 1 l hf.symm hl fun c d' x y p hp hc hd => ?_
      unfold cellEq at hp
      split at hp
      · rename_i e; cases e
      · have e1 := rel_sc hc; have e2 := rel_sc hd; subst e1 e2
        simp only [Option.some.injEq] at hp; subst hp
        exact run_equalIn_string w d f.type _ _ hu
      · rename_i e; cases e
      · cases hp
    · rename_i l hu hl
      simp at hf
      refine main 2 l hf.symm hl fun c d' x y p hp hc hd => ?_
      unfold cellEq at hp
      split at hp
      · rename_i e; cases e
      · rename_i e; cases e
      · have e1 := rel_sc hc; have e2 := rel_sc hd; subst e1 e2
        simp only [Option.some.injEq] at hp; subst hp
        exact run_equalIn_bool' w d f.type _ _ hu
      · cases hp
    · cases hf

theorem snd_eqagg {op : BinOp} {t t' : TypeId} {x y : Operand} {x' y' : Opd} {ks : List Nat} {v : AV} {h' : AHeap} (ho : o.op = .binOp op t x y t') (hop : op = .eql ∨ op = .neq)
    (hfl : flatOf P t = some ks) (hx : compOpd x = some x') (hy : compOpd y = some y')
    (hr : Rel G N D S I m env h a w) (he : evalOp G env h (.eqagg ks (op matches .neq) x' y') = some (v, h')) : Does P G k o a I m w v h' := by
  unfold flatOf at hfl
  split at hfl
  case h_2 => cases hfl
  rename_i fs ht
  split at hfl
  case isFalse => cases hfl
  rename_i hg
  simp only [evalOp] at he
  split at he
  case h_2 => cases he
  rename_i cs ds hu hu'
  simp only [Option.map_eq_some_iff, Prod.mk.injEq] at he
  obtain ⟨b, hb, rfl, rfl⟩ := he
  have h1 := opd_sound hx hr hu
  have h2 := opd_sound hy hr hu'
  generalize hax : a.eval x = ax at h1
  generalize hay : a.eval y = ay at h2
  cases h1 with
  | agg _ X hl1 _ hX =>
    cases h2 with
    | agg _ Y hl2 _ hY =>
      have hfo : P.fieldsOf t = fs := by simp [Program.fieldsOf, ht]
      have heq : (Op.equalIn 10000 t (.agg X.toArray) (.agg Y.toArray)).run P w = .ok b w := by
        rw [show 10000 = 9998 + 1 + 1 from rfl, run_equalIn_struct w _ t _ _ (by rw [hfo]; exact ht) hg.1, hfo]
        exact run_eqFields fs.toList 0 ks cs ds b hfl ⟨hl1, hX⟩ ⟨hl2, hY⟩ hb
      refine .same hr.inv (.sc _) (.inl ?_)
      have hguard := run_eqGuard_agg (P := P) w op t x y X.toArray Y.toArray hg.2
      rcases hop with rfl | rfl
      · simp only [execOp, ho, hax, hay, Sem.run_bind, hguard, Result.andThen_ok, run_eql_struct, heq, Sem.run_pure]
        simp
      · simp only [execOp, ho, hax, hay, Sem.run_bind, hguard, Result.andThen_ok, run_neq_struct, heq, Sem.run_pure]
        simp

end
end Go.Apx
