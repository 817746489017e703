/- ABSTRACT MACHINE, part 5: each operation does what the abstract one says (I). -/
import Derived.Test.YtbijnfhclfimeaaDoorAm4
namespace Go.Apx
set_option linter.unusedVariables false
set_option linter.unusedSimpArgs false

def Gives (P : Program) (o : Oper) (a : Act) (w : World) (x : Value) (w' : World) : Prop :=
  (execOp a.eval o).run P w = .ok (.value x) w' ∨ ((execOp a.eval o).run P w = .ok .skip w' ∧ x = undef)

/-- What is to be shown of an operation. -/
def Does (P : Program) (G : Globs) (k : Nat) (o : Oper) (a : Act) (I : Imm) (m : Locs) (w : World) (v : AV) (h' : AHeap) : Prop :=
  ∃ x w' I' m', Gives P o a w x w' ∧ AVRel I' m' v x ∧ Inv G I' m' h' w' ∧ Trans k I m w I' m' w' ∧ LocsLe m m'

section
variable {P : Program} {G : Globs} {N S k : Nat} {D : Ro} {o : Oper} {a : Act} {I : Imm} {m : Locs} {w : World} {env : Env} {h : AHeap} {ann : List Nat}

theorem Does.same {v : AV} {x : Value} (hr : Inv G I m h w) (hv : AVRel I m v x) (hg : Gives P o a w x w) : Does P G k o a I m w v h :=
  ⟨x, w, I, m, hg, hv, hr, .refl k I m w, .refl m⟩

theorem ofCell_rel (v : Value) : AVRel I m (ofCell v) v := by
  unfold ofCell
  split
  · exact .slnil 0
  · exact .sc v
theorem ofCell_one {v : Value} (h : v.oneCell' = true) : (ofCell v).one = true := by
  unfold ofCell
  split
  · rfl
  · exact h
theorem ofCells_rel (cs : List Value) : AVRels I m (cs.map ofCell) cs := by
  refine ⟨by simp, fun i a x ha hx => ?_⟩
  simp [hx] at ha
  subst ha
  exact ofCell_rel x
theorem ofValue_rel {v : Value} (h : okConst v = true) : AVRel I m (ofValue v) v := by
  unfold ofValue
  split
  · rename_i cs
    have := ofCells_rel (I := I) (m := m) cs.toList
    refine .agg _ cs.toList this.1 (fun c hc => ?_) this.2
    obtain ⟨x, hx, rfl⟩ := List.mem_map.1 hc
    simp only [okConst, List.all_eq_true] at h
    exact ofCell_one (h x hx)
  · exact ofCell_rel v
theorem ofValue_cells {v : Value} (h : okConst v = true) : AVRels I m (ofValue v).cells v.cells.toList := by
  unfold ofValue
  split
  · exact ofCells_rel _
  · rename_i hv
    have hc : v.cells = #[v] := by cases v <;> simp_all [Value.cells]
    have hc' : (ofCell v).cells = [ofCell v] := by
      unfold ofCell
      split <;> rfl
    rw [hc, hc']
    exact .cons (ofCell_rel v) .nil
theorem okConst_one {v : Value} (h : okConst v = true) : ∀ x ∈ v.cells.toList, x.oneCell' = true := by
  cases v with
  | agg cs =>
    intro x hx
    simp only [okConst, List.all_eq_true] at h
    exact h x hx
  | _ => intro x hx; simp [Value.cells] at hx; subst hx; exact h
theorem ofValue_one {v : Value} (h : okConst v = true) : ∀ c ∈ (ofValue v).cells, c.one = true := by
  have h' := okConst_one h
  unfold ofValue
  split
  · intro c hc
    obtain ⟨x, hx, rfl⟩ := List.mem_map.1 hc
    exact ofCell_one (h' x hx)
  · rename_i hv
    have hc : v.cells = #[v] := by cases v <;> simp_all [Value.cells]
    have hc' : (ofCell v).cells = [ofCell v] := by
      unfold ofCell
      split <;> rfl
    rw [hc']
    intro c hc2
    simp at hc2; subst hc2
    exact ofCell_one (h' v (by simp [hc]))

theorem opd_sound {x : Operand} {x' : Opd} {v : AV} (hx : compOpd x = some x') (hr : Rel G N D S I m env h a w) (he : evalOpd G env x' = some v) :
    AVRel I m v (a.eval x) := by
  cases x with
  | tmp n =>
    simp only [compOpd] at hx
    split at hx
    · rename_i hnd
      simp at hx; subst hx
      simp only [evalOpd] at he
      have hg : env.get n = some v := by
        split at he
        · rename_i v' hv'
          split at he
          · cases he
          · simp at he; subst he; exact hv'
        · cases he
      obtain ⟨y, hy, hs⟩ := hr.env.get n v (Nat.ne_of_lt hnd) hg
      have hav : AVRel I m v y := by
        cases v <;> first | exact hs | skip
        rw [hg] at he; simp [AV.isPend] at he
      have : a.eval (.tmp n) = y := by simp [Act.eval, Array.getD_eq_getD_getElem?, hy]
      rw [this]; exact hav
    · cases hx
  | const c =>
    simp only [compOpd] at hx
    split at hx
    · rename_i hc
      simp at hx; subst hx
      simp [evalOpd] at he; subst he
      exact ofValue_rel hc
    · cases hx
  | global g =>
    simp [compOpd] at hx; subst hx
    exact hr.inv.glob g v he m
  | func f =>
    simp [compOpd] at hx; subst hx
    simp [evalOpd] at he; subst he
    exact .fn _ [] [] [] [] rfl rfl (fun i a x ha => by simp at ha) (fun i a x ha => by simp at ha)

theorem opds_sound {xs : List Operand} {xs' : List Opd} {vs : List AV} (hx : mapM' compOpd xs = some xs') (hr : Rel G N D S I m env h a w)
    (he : mapM' (evalOpd G env) xs' = some vs) : AVRels I m vs (xs.map a.eval) := by
  have h1 := mapM'_length hx
  have h2 := mapM'_length he
  refine ⟨by simp; omega, fun i v y hv hy => ?_⟩
  simp only [List.getElem?_map, Option.map_eq_some_iff] at hy
  obtain ⟨x, hx', rfl⟩ := hy
  have hi : i < xs.length := (List.getElem?_eq_some_iff.1 hx').1
  have hi' : i < xs'.length := by omega
  exact opd_sound (mapM'_get hx i x xs'[i] hx' (by simp [hi'])) hr (mapM'_get he i xs'[i] v (by simp [hi']) hv)

/-! ### reading values -/
theorem rel_sc {x : Value} {y : Value} (h : AVRel I m (.sc x) y) : y = x := by cases h; rfl
theorem rel_cells {v : AV} {x : Value} (h : AVRel I m v x) (h1 : ∀ c ∈ v.cells, c.one = true) : AVRels I m v.cells x.cells.toList ∧ ∀ y ∈ x.cells.toList, y.oneCell' = true := by
  have key : ∀ (cs : List AV) (vs : List Value), AVRels I m cs vs → (∀ c ∈ cs, c.one = true) → ∀ y ∈ vs, y.oneCell' = true := by
    intro cs vs hr hc y hy
    obtain ⟨i, hi, rfl⟩ := List.getElem_of_mem hy
    have hi' : i < cs.length := by rw [hr.1]; exact hi
    exact (hr.2 i cs[i] vs[i] (by simp [hi']) (by simp [hi])).oneCell (hc _ (List.getElem_mem hi'))
  cases h with
  | agg cs vs hl h2 h =>
    have hr : AVRels I m cs vs := ⟨hl, h⟩
    exact ⟨by simpa [AV.cells, Value.cells] using hr, by simpa [Value.cells] using key cs vs hr h1⟩
  | tup cs vs hl h => exact absurd (h1 (.tup cs) (by simp [AV.cells])) (by simp [AV.one])
  | sc x =>
    have hx := h1 (.sc x) (by simp [AV.cells])
    have hc : x.cells = #[x] := by cases x <;> first | rfl | (simp [AV.one, Value.oneCell'] at hx)
    have hr : AVRels I m [.sc x] [x] := .cons (.sc x) .nil
    rw [hc]
    exact ⟨by simpa [AV.cells] using hr, key _ _ hr h1⟩
  | slnil k => exact ⟨.cons (.slnil k) .nil, by simp [Value.cells, Value.oneCell']⟩
  | sl k es c a cap vs hc hle hk hw h1' hl h hI hs hcap =>
    exact ⟨.cons (.sl k es c a cap vs hc hle hk hw h1' hl h hI hs hcap) .nil, by simp [Value.cells, Value.oneCell']⟩
  | ip v a vs h1' hl h hI hs => exact ⟨.cons (.ip v a vs h1' hl h hI hs) .nil, by simp [Value.cells, Value.oneCell']⟩
  | yld o l ho h => exact ⟨.cons (.yld o l ho h) .nil, by simp [Value.cells, Value.oneCell']⟩
  | ptr o g off a ho h => exact ⟨.cons (.ptr o g off a ho h) .nil, by simp [Value.cells, Value.oneCell']⟩
  | rf o g off len full a cap ho hle hf h => exact ⟨.cons (.rf o g off len full a cap ho hle hf h) .nil, by simp [Value.cells, Value.oneCell']⟩
  | mp o r ho h => exact ⟨.cons (.mp o r ho h) .nil, by simp [Value.cells, Value.oneCell']⟩
  | it o r ho h => exact ⟨.cons (.it o r ho h) .nil, by simp [Value.cells, Value.oneCell']⟩
  | fn f first captured fs cs hl hl' h h' => exact ⟨.cons (.fn f first captured fs cs hl hl' h h') .nil, by simp [Value.cells, Value.oneCell']⟩
  | ifc t v x h => exact ⟨.cons (.ifc t v x h) .nil, by simp [Value.cells, Value.oneCell']⟩

/-- A part of an aggregate. -/
theorem part_rel {ty : Ty} {cs : List AV} {vs : List Value} {off : Nat} {v : AV} (hr : AVRels I m cs vs) (h1 : ∀ c ∈ cs, c.one = true) (hp : partOf ty cs off = some v) :
    ∃ us, us = (vs.drop off).take ty.size ∧ us.length = ty.size ∧ AVRels I m v.cells us ∧ (∀ c ∈ v.cells, c.one = true) ∧ AVRel I m v (ty.read us) := by
  cases ty with
  | one =>
    simp only [partOf] at hp
    obtain ⟨x, hx, hv⟩ := hr.get hp
    have hone := h1 v (List.mem_of_getElem? hp)
    have hcs : v.cells = [v] := by cases v <;> first | rfl | simp [AV.one] at hone
    have hu : (vs.drop off).take 1 = [x] := by
      have hi := (List.getElem?_eq_some_iff.1 hx)
      obtain ⟨hlt, rfl⟩ := hi
      rw [List.drop_eq_getElem_cons hlt]; rfl
    refine ⟨[x], by simp [Ty.size, hu], rfl, ?_, ?_, ?_⟩
    · rw [hcs]; exact .cons hv .nil
    · rw [hcs]; simpa using hone
    · simpa [Ty.read] using hv
  | agg n =>
    simp only [partOf] at hp
    split at hp
    · rename_i hle
      simp at hp; subst hp
      have h2 : AVRels I m (cut cs off n) ((vs.drop off).take n) := (hr.drop off).take n
      have hl := hr.1
      have h1' : ∀ c ∈ cut cs off n, c.one = true := fun c hc => h1 c (List.mem_of_mem_drop (List.mem_of_mem_take hc))
      refine ⟨_, rfl, by simp [Ty.size]; omega, h2, h1', ?_⟩
      exact .agg _ _ h2.1 h1' h2.2
    · cases hp

theorem Lies.sub {b off : Nat} {vs : List Value} (h : Lies I b off vs) (d n : Nat) : Lies I b (off + d) ((vs.drop d).take n) := by
  intro i x hx
  simp only [List.getElem?_take, List.getElem?_drop] at hx
  split at hx
  · have := h (d + i) x hx
    rwa [← Nat.add_assoc] at this
  · cases hx

theorem allOne_iff {cs : List AV} : allOne cs = true ↔ ∀ c ∈ cs, c.one = true := by simp [allOne, List.all_eq_true]

/-! ### operations that only look -/
theorem snd_move {x : Operand} {x' : Opd} {v : AV} (ho : o.op = .move x ∨ o.op = .assign x) (hx : compOpd x = some x') (hr : Rel G N D S I m env h a w)
    (he : evalOpd G env x' = some v) : Does P G k o a I m w v h :=
  .same hr.inv (opd_sound hx hr he) (.inl (by rcases ho with ho | ho <;> simp [execOp, ho]))

theorem load_run {t : TypeId} {x : Operand} {x' : Opd} {ty : Ty} {v : AV} {h' : AHeap} (hty : compTy P t = some ty) (hx : compOpd x = some x')
    (hr : Rel G N D S I m env h a w) (he : evalOp G env h (.load ty x') = some (v, h')) :
    h' = h ∧ ∃ ad y, a.eval x = .pointer (some ad) ∧ (loadVar t ad).run P w = .ok y w ∧ AVRel I m v y := by
  simp only [evalOp] at he
  split at he
  · -- immutable memory
    rename_i u hu
    have hp := opd_sound hx hr hu
    generalize hax : a.eval x = ax at hp
    cases hp with
    | ip _ ad vs h1 hl hrel hI hs =>
      obtain ⟨b, off, sp⟩ := ad
      simp only at hs hI; subst hs
      have hcell : ∀ (j : Nat) (y : Value), vs[j]? = some y → w.cell? ⟨b, off + j, none⟩ = some y := fun j y hy => hr.inv.imm _ _ _ (hI j y hy)
      cases ty with
      | one =>
        simp only at he
        split at he
        · rename_i hone
          simp at he; obtain ⟨rfl, rfl⟩ := he
          have hcs : u.cells = [u] := by cases u <;> first | rfl | simp [AV.one] at hone
          rw [hcs] at hl hrel
          match vs, hl with
          | [y], _ =>
            have := run_loadVar (P := P) (w := w) hty (b := b) (o := off) (vs := [y]) rfl hcell
            exact ⟨rfl, _, y, rfl, this, hrel 0 u y rfl rfl⟩
        · cases he
      | agg n =>
        simp only at he
        split at he
        · rename_i cs
          split at he
          · rename_i hlen
            simp at he; obtain ⟨rfl, rfl⟩ := he
            simp only [AV.cells] at hl hrel h1
            have := run_loadVar (P := P) (w := w) hty (b := b) (o := off) (vs := vs) (by simp [Ty.size]; omega) hcell
            exact ⟨rfl, _, _, rfl, this, .agg cs vs hl h1 hrel⟩
          · cases he
        · cases he
  · -- an object
    rename_i ob g off hu
    have hp := opd_sound hx hr hu
    generalize hax : a.eval x = ax at hp
    split at he
    · rename_i g' cs hob
      split at he
      · rename_i hg; subst hg
        simp only [Option.map_eq_some_iff, Prod.mk.injEq] at he
        obtain ⟨v', hv', rfl, rfl⟩ := he
        have hlt : ob < m.length := by rw [hr.inv.len]; exact (List.getElem?_eq_some_iff.1 hob).1
        obtain ⟨b, lo, n, vs, hl, hle, hrels, hone, hcell, hall⟩ := hr.inv.obj ob _ m[ob] hob (by simp [hlt])
        cases hp with
        | ptr _ _ _ ad _ hpr =>
          have := (hpr _ b lo n (by rw [← hl]; simp [hlt])).2 rfl
          subst this
          obtain ⟨us, hus, hul, hur, hu1, hrd⟩ := part_rel hrels hone hv'
          have := run_loadVar (P := P) (w := w) hty (b := b) (o := lo + off) (vs := us) hul (fun j y hy => by
            rw [hus] at hy
            simp only [List.getElem?_take, List.getElem?_drop] at hy
            split at hy
            · have := hcell _ _ hy; rwa [← Nat.add_assoc] at this
            · cases hy)
          exact ⟨rfl, _, _, rfl, this, hrd⟩
      · cases he
    · cases he
  · cases he

theorem snd_load {t : TypeId} {x : Operand} {x' : Opd} {ty : Ty} {v : AV} {h' : AHeap} (ho : o.op = .load t x) (hty : compTy P t = some ty) (hx : compOpd x = some x')
    (hr : Rel G N D S I m env h a w) (he : evalOp G env h (.load ty x') = some (v, h')) : Does P G k o a I m w v h' := by
  obtain ⟨rfl, ad, y, hax, hrun, hv⟩ := load_run hty hx hr he
  exact .same hr.inv hv (.inl (by simp [execOp, ho, hax, Instr.loadAt, Instr.sureAddr, hrun]))

end
end Go.Apx
