/- ABSTRACT MACHINE, part 9: each operation does what the abstract one says (IV): what makes memory, what writes it. -/
import Derived.Test.YtbijnfhclfimeaaDoorAm8
namespace Go.Apx
set_option linter.unusedVariables false
set_option linter.unusedSimpArgs false

/-! ## rows of zeros, places filled -/
theorem range_mod {α : Type} [Inhabited α] (z : Array α) : ∀ (n : Nat), 0 < z.size → ((List.range (n * z.size)).map fun i => z[i % z.size]!) = (List.replicate n z.toList).flatten
  | 0, _ => by simp
  | n + 1, h => by
    have ih := range_mod z n h
    rw [Nat.succ_mul, List.range_add, List.map_append, ih, List.replicate_succ', List.flatten_append]
    congr 1
    simp only [List.map_map, List.flatten_cons, List.flatten_nil, List.append_nil]
    apply List.ext_getElem
    · simp
    · intro i h1 h2
      simp at h1
      simp [Nat.mod_eq_of_lt h1, h1, Nat.mul_comm n z.size, Nat.mul_add_mod]

theorem zeros_eq (z : Array Value) (n : Nat) (h : 0 < z.size) : ((Array.range (n * z.size)).map fun i => z[i % z.size]!).toList = (List.replicate n z.toList).flatten := by
  rw [← range_mod z n h]
  simp

theorem fold_get (off : Nat) : ∀ (vs : List Value) (s : Nat) (cs : Array Value), off + s + vs.length ≤ cs.size →
    ((vs.zipIdx s).foldl (fun cs (x : Value × Nat) => cs.setIfInBounds (off + x.2) x.1) cs).toList = cs.toList.take (off + s) ++ vs ++ cs.toList.drop (off + s + vs.length)
  | [], s, cs, h => by simp
  | v :: vs, s, cs, h => by
    simp only [List.length_cons] at h
    have hlt : off + s < cs.toList.length := by simp; omega
    rw [List.zipIdx_cons, List.foldl_cons, fold_get off vs (s + 1) _ (by simp; omega)]
    simp only [Array.toList_setIfInBounds]
    have e1 : (cs.toList.set (off + s) v).take (off + (s + 1)) = cs.toList.take (off + s) ++ [v] := by
      rw [← Nat.add_assoc, List.take_succ_eq_append_getElem (by simpa using hlt), List.take_set_of_le (Nat.le_refl _)]
      simp
    have e2 : (cs.toList.set (off + s) v).drop (off + (s + 1) + vs.length) = cs.toList.drop (off + s + (v :: vs).length) := by
      rw [List.drop_set_of_lt (by omega)]
      congr 1
      simp; omega
    rw [e1, e2]
    simp

theorem fill_rel {I : Imm} {m : Locs} {place : Nat → Option (Nat × Nat)} : ∀ (ps : List (Nat × Nat × AV)) (cs cs' : List AV) (vs : Array Value) (vps : List (Nat × Value)),
    fillA cs ps = some cs' → AVRels I m cs vs.toList → ps.length = vps.length →
    (∀ (i : Nat) (p : Nat × Nat × AV) (q : Nat × Value), ps[i]? = some p → vps[i]? = some q → place q.1 = some (p.1, p.2.1) ∧ AVRels I m p.2.2.cells q.2.cells.toList) →
    ∃ us, Instr.fill place vs vps = some us ∧ AVRels I m cs' us.toList
  | [], cs, cs', vs, [], h, hr, _, _ => by simp [fillA] at h; subst h; exact ⟨vs, rfl, hr⟩
  | (off, n, v) :: ps, cs, cs', vs, (i, x) :: vps, h, hr, hl, hp => by
    obtain ⟨hpl, hvx⟩ := hp 0 _ _ rfl rfl
    simp only at hpl hvx
    simp only [fillA] at h
    split at h
    · rename_i hc
      obtain ⟨h1, h2⟩ := hc
      have hx : x.cells.size = n := by have := hvx.1; simp at this; omega
      have hcs := hr.1
      simp at hcs
      have hnew : AVRels I m (cs.take off ++ v.cells ++ cs.drop (off + n)) ((x.cells.toList.zipIdx 0).foldl (fun cs (y : Value × Nat) => cs.setIfInBounds (off + y.2) y.1) vs).toList := by
        rw [fold_get off x.cells.toList 0 vs (by simp; omega)]
        simp only [Nat.add_zero]
        have : off + x.cells.toList.length = off + n := by simp [hx]
        rw [this]
        exact ((hr.take off).append hvx).append (hr.drop _)
      obtain ⟨us, hu, hur⟩ := fill_rel ps _ cs' _ vps h hnew (by simpa using hl) (fun j p q hj hq => hp (j + 1) p q (by simpa using hj) (by simpa using hq))
      refine ⟨us, ?_, hur⟩
      simp only [Instr.fill, hpl]
      rw [if_neg (by simp [hx]; omega)]
      rw [← Array.foldl_toList, Array.toList_zipIdx]
      exact hu
    · cases h
  | [], cs, cs', vs, _ :: _, h, hr, hl, _ => by simp at hl
  | _ :: _, cs, cs', vs, [], h, hr, hl, _ => by simp at hl

theorem flat_length {q : Nat} : ∀ (es : List AV), (∀ e ∈ es, e.cells.length = q) → (es.flatMap AV.cells).length = es.length * q
  | [], _ => by simp
  | e :: es, h => by
    rw [List.flatMap_cons, List.length_append, h e (by simp), flat_length es (fun e he => h e (by simp [he])), List.length_cons, Nat.succ_mul]; omega
theorem flat_take {q : Nat} : ∀ (es : List AV) (n : Nat), (∀ e ∈ es, e.cells.length = q) → (es.take n).flatMap AV.cells = (es.flatMap AV.cells).take (n * q)
  | [], n, _ => by simp
  | e :: es, 0, _ => by simp
  | e :: es, n + 1, h => by
    have he := h e (by simp)
    rw [List.take_succ_cons, List.flatMap_cons, List.flatMap_cons, flat_take es n (fun e he => h e (by simp [he])), List.take_append]
    rw [List.take_of_length_le (l := e.cells) (by rw [he, Nat.succ_mul]; omega)]
    congr 2
    rw [he, Nat.succ_mul]; omega
theorem flat_drop {q : Nat} : ∀ (es : List AV) (n : Nat), (∀ e ∈ es, e.cells.length = q) → (es.drop n).flatMap AV.cells = (es.flatMap AV.cells).drop (n * q)
  | [], n, _ => by simp
  | e :: es, 0, _ => by simp
  | e :: es, n + 1, h => by
    have he := h e (by simp)
    rw [List.drop_succ_cons, List.flatMap_cons, flat_drop es n (fun e he => h e (by simp [he])), List.drop_append]
    have h2 : e.cells.drop ((n + 1) * q) = [] := by apply List.drop_eq_nil_of_le; rw [he, Nat.succ_mul]; omega
    rw [h2, List.nil_append]
    congr 1
    rw [he, Nat.succ_mul]; omega
theorem flat_set {q : Nat} (es : List AV) (i : Nat) (v : AV) (h : ∀ e ∈ es, e.cells.length = q) (hi : i < es.length) :
    (es.set i v).flatMap AV.cells = (es.flatMap AV.cells).take (i * q) ++ v.cells ++ (es.flatMap AV.cells).drop (i * q + q) := by
  rw [List.set_eq_take_append_cons_drop, if_pos hi, List.flatMap_append, List.flatMap_cons, flat_take es i h, flat_drop es (i + 1) h, Nat.succ_mul]
  simp

theorem fillA_one : ∀ (ps : List (Nat × Nat × AV)) (cs cs' : List AV), fillA cs ps = some cs' → (∀ c ∈ cs, c.one = true) → (∀ p ∈ ps, ∀ c ∈ p.2.2.cells, c.one = true) → ∀ c ∈ cs', c.one = true
  | [], cs, cs', h, h1, _ => by simp [fillA] at h; subst h; exact h1
  | (off, n, v) :: ps, cs, cs', h, h1, h2 => by
    simp only [fillA] at h
    split at h
    · refine fillA_one ps _ cs' h (fun c hc => ?_) (fun p hp => h2 p (by simp [hp]))
      simp only [List.mem_append] at hc
      rcases hc with (hc | hc) | hc
      · exact h1 c (List.mem_of_mem_take hc)
      · exact h2 (off, n, v) (by simp) c hc
      · exact h1 c (List.mem_of_mem_drop hc)
    · cases h

theorem fillE_fillA {q : Nat} : ∀ (ps : List (Nat × AV)) (es es' : List AV), fillE q es ps = some es' → (∀ e ∈ es, e.cells.length = q) →
    fillA (es.flatMap AV.cells) (ps.map fun p => (p.1 * q, q, p.2)) = some (es'.flatMap AV.cells) ∧ (∀ e ∈ es', e.cells.length = q) ∧ es'.length = es.length
  | [], es, es', h, hw => by simp [fillE] at h; subst h; exact ⟨rfl, hw, rfl⟩
  | (i, v) :: ps, es, es', h, hw => by
    simp only [fillE] at h
    split at h
    · rename_i hc
      obtain ⟨h1, h2⟩ := hc
      have hw' : ∀ e ∈ es.set i v, e.cells.length = q := by
        intro e he
        rcases List.mem_or_eq_of_mem_set he with h3 | h3
        · exact hw e h3
        · rw [h3]; exact h1
      obtain ⟨g1, g2, g3⟩ := fillE_fillA ps _ es' h hw'
      refine ⟨?_, g2, by rw [g3]; simp⟩
      simp only [List.map_cons, fillA]
      have hb : i * q + q ≤ (es.flatMap AV.cells).length := by
        rw [flat_length es hw]
        have : (i + 1) * q ≤ es.length * q := Nat.mul_le_mul_right q h2
        rw [Nat.succ_mul] at this
        exact this
      rw [if_pos ⟨h1, hb⟩, ← flat_set es i v hw h2]
      exact g1
    · cases h

section
variable {P : Program} {G : Globs} {N S k : Nat} {D : Ro} {o : Oper} {a : Act} {I : Imm} {m : Locs} {w : World} {env : Env} {h : AHeap} {ann : List Nat}

theorem oneOpd_some {x : Opd} {v : AV} (h : oneOpd G env x = some v) : evalOpd G env x = some v ∧ ∀ c ∈ v.cells, c.one = true := by
  unfold oneOpd at h
  split at h
  · rename_i u hu
    split at h
    · simp at h; subst h; exact ⟨hu, allOne_iff.1 (by assumption)⟩
    · cases h
  · cases h

theorem compZero_some {t : TypeId} {z : AV} (hz : compZero P t = some z) :
    ∃ i zv, P.info? t = some i ∧ i.zero = some zv ∧ okConst zv = true ∧ z = ofValue zv ∧ (zeroValue t).run P w = .ok zv w := by
  unfold compZero at hz
  split at hz
  · rename_i inf hinf
    split at hz
    · rename_i zv hzv
      split at hz
      · rename_i hok
        simp at hz; subst hz
        exact ⟨inf, zv, hinf, hzv, hok, rfl, by simp [zeroValue, run_typeInfo hinf, hzv]⟩
      · cases hz
    · cases hz
  · cases hz

theorem Does.cells {x : Value} {cs : Array Value} {e : TypeId} {z : List AV} (hv : Inv G I m h w) (hz : AVRels I m z cs.toList) (h1 : ∀ c ∈ z, c.one = true) (hk : k ≤ m.length)
    (hg : Gives P o a w (.pointer (some ⟨w.heap.size, 0, none⟩)) (w.alloc (.cells cs e))) : Does P G k o a I m w (.ptr h.length 0 0) (h ++ [.cells 0 z]) := by
  obtain ⟨h2, h3, h4⟩ := hv.allocCells cs e z hz h1
  refine ⟨_, _, _, _, hg, ?_, h2, h3.mono hk, h4⟩
  rw [← hv.len]
  refine .ptr m.length 0 0 _ (by simp) ?_
  intro g' b lo n hm
  simp at hm
  obtain ⟨rfl, rfl, rfl, rfl⟩ := hm
  exact ⟨Nat.le_refl _, fun _ => rfl⟩

theorem snd_new {e : TypeId} {z : AV} {v : AV} {h' : AHeap} (ho : o.op = .alloc e) (hz : compZero P e = some z) (hk : k ≤ m.length)
    (hr : Rel G N D S I m env h a w) (he : evalOp G env h (.new z.cells) = some (v, h')) : Does P G k o a I m w v h' := by
  obtain ⟨inf, zv, hinf, hzv, hok, rfl, hrun⟩ := compZero_some (w := w) hz
  simp only [evalOp, Option.some.injEq, Prod.mk.injEq] at he
  obtain ⟨rfl, rfl⟩ := he
  refine .cells (x := undef) (cs := zv.cells) (e := e) hr.inv (ofValue_cells hok) (ofValue_one hok) hk (.inl ?_)
  simp [execOp, ho, Instr.alloc, hrun, newVar, newRow]

theorem snd_boxm {e : TypeId} {x : Operand} {x' : Opd} {v : AV} {h' : AHeap} (ho : o.op = .box e x) (hx : compOpd x = some x') (hk : k ≤ m.length)
    (hr : Rel G N D S I m env h a w) (he : evalOp G env h (.boxm x') = some (v, h')) : Does P G k o a I m w v h' := by
  simp only [evalOp] at he
  split at he
  · rename_i u hu
    split at he
    · rename_i hone
      simp only [Option.some.injEq, Prod.mk.injEq] at he
      obtain ⟨rfl, rfl⟩ := he
      have hrel := rel_cells (opd_sound hx hr hu) (allOne_iff.1 hone)
      refine .cells (x := undef) (cs := (a.eval x).cells) (e := e) hr.inv hrel.1 (allOne_iff.1 hone) hk (.inl ?_)
      simp [execOp, ho, Instr.box, newVar, newRow]
    · cases he
  · cases he

theorem snd_box {e : TypeId} {x : Operand} {x' : Opd} {v : AV} {h' : AHeap} (ho : o.op = .box e x) (hx : compOpd x = some x')
    (hr : Rel G N D S I m env h a w) (he : evalOp G env h (.box x') = some (v, h')) : Does P G k o a I m w v h' := by
  simp only [evalOp] at he
  split at he
  · rename_i u hu
    split at he
    · rename_i hone
      simp only [Option.some.injEq, Prod.mk.injEq] at he
      obtain ⟨rfl, rfl⟩ := he
      have hrel := rel_cells (opd_sound hx hr hu) (allOne_iff.1 hone)
      obtain ⟨h2, h3⟩ := hr.inv.allocImm (a.eval x).cells e k
      refine ⟨_, _, _, _, .inl (by simp [execOp, ho, Instr.box, newVar, newRow]; rfl), ?_, h2, h3, .refl m⟩
      have hle : ImmLe I (I.row w.heap.size (a.eval x).cells.toList) := Imm.row_le hr.inv.imm_new
      refine .ip u _ (a.eval x).cells.toList (allOne_iff.1 hone) hrel.1.1 (fun i c y hc hy => (hrel.1.2 i c y hc hy).mono hle (.refl m)) Lies.row rfl
    · cases he
  · cases he

theorem snd_mkMap {t : TypeId} {v : AV} {h' : AHeap} (ho : o.op = .makeMap t none) (hk : k ≤ m.length)
    (hr : Rel G N D S I m env h a w) (he : evalOp G env h .mkMap = some (v, h')) : Does P G k o a I m w v h' := by
  simp only [evalOp, Option.some.injEq, Prod.mk.injEq] at he
  obtain ⟨rfl, rfl⟩ := he
  obtain ⟨h2, h3, h4⟩ := hr.inv.allocNew (.map #[] 0) [] (.whole w.heap.size) (.amap []) (fun i x hx => by simp at hx) (fun b o hp => ⟨hp, by simp⟩)
    ⟨w.heap.size, #[], 0, rfl, heap_alloc_new, rfl, fun i p e hp => by simp at hp, fun e he => by simp at he, by simp⟩
  refine ⟨.map (some w.heap.size), _, _, _, .inl ?_, ?_, h2, h3.mono hk, h4⟩
  · simp [execOp, ho, Instr.makeMap]
  · rw [← hr.inv.len]
    exact .mp m.length _ (by simp) fun b hb => by simp at hb; exact hb

theorem mapM'_some {α β : Type} {f : α → Option β} {l : List α} {r : List β} (h : mapM' f l = some r) : l.length = r.length ∧ ∀ (i : Nat) (a : α) (b : β), l[i]? = some a → r[i]? = some b → f a = some b :=
  ⟨mapM'_length h, mapM'_get h⟩

theorem get_of_lt {α β : Type} {l : List α} {r : List β} (h : l.length = r.length) {i : Nat} {b : β} (hb : r[i]? = some b) : ∃ a, l[i]? = some a := by
  have hi : i < r.length := (List.getElem?_eq_some_iff.1 hb).1
  exact ⟨l[i], by simp [h, hi]⟩

theorem agg_does {cs : List AV} {us : Array Value} (hv : Inv G I m h w) (hr : AVRels I m cs us.toList) (h1 : ∀ c ∈ cs, c.one = true) (hg : Gives P o a w (.agg us) w) : Does P G k o a I m w (.agg cs) h := by
  refine .same hv ?_ hg
  have := AVRel.agg cs us.toList hr.1 h1 hr.2
  simpa using this

theorem run_mapM {α β : Type} {f : α → Sem β} {g : α → β} : ∀ (l : List α), (∀ x ∈ l, (f x).run P w = .ok (g x) w) → (l.mapM f).run P w = .ok (l.map g) w
  | [], _ => by simp
  | x :: l, hl => by
    rw [List.mapM_cons]
    simp [hl x (by simp), run_mapM l fun y hy => hl y (by simp [hy])]

theorem fill_does {parts : Array (Nat × Operand)} {z : AV} {zv : Value} {ps : List (Nat × Nat × Opd)} {place : Nat → Option (Nat × Nat)} {v : AV} {h' : AHeap}
    (hok : okConst zv = true) (hz : z = ofValue zv)
    (hrun : ∀ us, Instr.fill place zv.cells (parts.map fun (i, x) => (i, a.eval x)).toList = some us → Gives P o a w (.agg us) w)
    (hps : parts.toList.length = ps.length) (hp : ∀ (i : Nat) (q : Nat × Operand) (p : Nat × Nat × Opd), parts.toList[i]? = some q → ps[i]? = some p → place q.1 = some (p.1, p.2.1) ∧ compOpd q.2 = some p.2.2)
    (hr : Rel G N D S I m env h a w) (he : evalOp G env h (.build z.cells ps) = some (v, h')) : Does P G k o a I m w v h' := by
  subst hz
  simp only [evalOp] at he
  split at he
  · rename_i qs hqs
    obtain ⟨hql, hqg⟩ := mapM'_some hqs
    simp only [Option.map_eq_some_iff, Prod.mk.injEq] at he
    obtain ⟨cs, hcs, rfl, rfl⟩ := he
    have hpart : ∀ (i : Nat) (p : Nat × Nat × AV), qs[i]? = some p → ∃ p0 u, ps[i]? = some p0 ∧ evalOpd G env p0.2.2 = some u ∧ (∀ c ∈ u.cells, c.one = true) ∧ p = (p0.1, p0.2.1, u) := by
      intro i p hpi
      obtain ⟨p0, hp0⟩ := get_of_lt hql hpi
      have h1 := hqg i p0 p hp0 hpi
      simp only [Option.map_eq_some_iff] at h1
      obtain ⟨u, hu, rfl⟩ := h1
      obtain ⟨hu1, hu2⟩ := oneOpd_some hu
      exact ⟨p0, u, hp0, hu1, hu2, rfl⟩
    have hones : ∀ c ∈ cs, c.one = true := fillA_one qs _ _ hcs (ofValue_one hok) fun p hp => by
      obtain ⟨i, hi⟩ := List.getElem?_of_mem hp
      obtain ⟨p0, u, _, _, hu, rfl⟩ := hpart i p hi
      exact hu
    obtain ⟨us, hus, hur⟩ := fill_rel (place := place) (I := I) (m := m) qs _ cs zv.cells (parts.map fun (i, x) => (i, a.eval x)).toList hcs (ofValue_cells hok) (by simp at hps ⊢; omega) (by
      intro i p q hpi hqi
      simp only [Array.toList_map, List.getElem?_map, Option.map_eq_some_iff] at hqi
      obtain ⟨q0, hq0, rfl⟩ := hqi
      obtain ⟨p0, u, hp0, hu, hu1, rfl⟩ := hpart i p hpi
      obtain ⟨h2, h3⟩ := hp i q0 p0 hq0 hp0
      exact ⟨h2, (rel_cells (opd_sound h3 hr hu) hu1).1⟩)
    exact agg_does hr.inv hur hones (hrun us hus)
  · cases he

theorem snd_build_struct {t : TypeId} {parts : Array (Nat × Operand)} {fields : Array Field} {z : AV} {ps : List (Nat × Nat × Opd)} {v : AV} {h' : AHeap} (ho : o.op = .build t parts)
    (ht : P.underlying t = some (.struct fields)) (hall : (fields.toList.all fun f => (P.info? f.type).isSome) = true) (hz : compZero P t = some z)
    (hps : mapM' (fun (p : Nat × Operand) => match fieldOf P t p.1, compOpd p.2 with | some (off, ty), some x => some (off, ty.size, x) | _, _ => none) parts.toList = some ps)
    (hr : Rel G N D S I m env h a w) (he : evalOp G env h (.build z.cells ps) = some (v, h')) : Does P G k o a I m w v h' := by
  obtain ⟨inf, zv, hinf, hzv, hok, hzz, hzr⟩ := compZero_some (w := w) hz
  obtain ⟨hpl, hpg⟩ := mapM'_some hps
  let pl : Nat → Option (Nat × Nat) := fun i => (fields[i]?).map fun f => (f.offset, P.cellsOf f.type)
  have hsize : ∀ f ∈ fields.toList, (do pure (f.offset, ← sizeOf f.type) : Sem (Nat × Nat)).run P w = .ok (f.offset, P.cellsOf f.type) w := by
    intro f hf
    rw [List.all_eq_true] at hall
    obtain ⟨i, hi⟩ := Option.isSome_iff_exists.1 (hall f hf)
    simp [run_size hi, Program.cellsOf, hi]
  refine fill_does (P := P) (k := k) (place := pl) hok hzz (fun us hus => .inl ?_) hpl (fun i q p hq hp => ?_) hr he
  · have hmap : (fields.mapM fun f => (do pure (f.offset, ← sizeOf f.type) : Sem (Nat × Nat))).run P w = .ok (fields.map fun f => (f.offset, P.cellsOf f.type)) w := by
      rw [Array.mapM_eq_mapM_toList]
      simp only [Sem.run_map, run_mapM fields.toList hsize, Result.andThen_ok]
      congr 1
      apply Array.ext'
      simp
    have hfun : (fun i : Nat => (fields.map fun f => (f.offset, P.cellsOf f.type))[i]?) = pl := by funext i; simp [pl]
    simp only [execOp, ho, Instr.build, Sem.run_bind, hzr, Result.andThen_ok, run_under ht, hmap]
    rw [hfun, hus]
    rfl
  · have := hpg i q p hq hp
    split at this
    · rename_i off ty x hf hx
      simp at this; subst this
      obtain ⟨fields', fd, hu, hfd, rfl, hty, hpos⟩ := fieldOf_some hf
      rw [ht] at hu; simp at hu; subst hu
      obtain ⟨inf', hinf', hs', _⟩ := compTy_some (w := w) hty
      exact ⟨by simp [pl, hfd, Program.cellsOf, hinf', hs'], hx⟩
    · cases this

theorem snd_build_array {t e : TypeId} {n : Nat} {parts : Array (Nat × Operand)} {z : AV} {ty : Ty} {ps : List (Nat × Nat × Opd)} {v : AV} {h' : AHeap} (ho : o.op = .build t parts)
    (ht : P.underlying t = some (.array n e)) (hty : compTy P e = some ty) (hz : compZero P t = some z)
    (hps : mapM' (fun (p : Nat × Operand) => match compOpd p.2 with | some x => some (p.1 * ty.size, ty.size, x) | _ => none) parts.toList = some ps)
    (hr : Rel G N D S I m env h a w) (he : evalOp G env h (.build z.cells ps) = some (v, h')) : Does P G k o a I m w v h' := by
  obtain ⟨inf, zv, hinf, hzv, hok, hzz, hzr⟩ := compZero_some (w := w) hz
  obtain ⟨hpl, hpg⟩ := mapM'_some hps
  obtain ⟨inf', hinf', hs', _⟩ := compTy_some (w := w) hty
  refine fill_does (P := P) (k := k) (place := fun i => some (i * ty.size, ty.size)) hok hzz (fun us hus => .inl ?_) hpl (fun i q p hq hp => ?_) hr he
  · simp only [execOp, ho, Instr.build, Sem.run_bind, hzr, Result.andThen_ok, run_under ht, run_size hinf', hs']
    rw [hus]
    rfl
  · have := hpg i q p hq hp
    split at this
    · rename_i x hx
      simp at this; subst this
      exact ⟨rfl, hx⟩
    · cases this

end
end Go.Apx
