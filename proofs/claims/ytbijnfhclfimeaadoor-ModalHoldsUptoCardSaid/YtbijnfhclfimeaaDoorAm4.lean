/- ABSTRACT MACHINE, part 4: runs of the model's parts of operations; new blocks, stores and frames. -/
import Derived.Test.YtbijnfhclfimeaaDoorAm3
import Derived.Laws.Cells
import Derived.Laws.IdiomCopy
namespace Go.Apx
set_option linter.unusedVariables false
set_option linter.unusedSimpArgs false

theorem Addr.add_mk (b o i : Nat) : (⟨b, o, none⟩ : Addr).add i = ⟨b, o + i, none⟩ := by unfold Addr.add; split <;> simp_all

theorem mapM'_length {α β : Type} {f : α → Option β} : ∀ {l : List α} {r : List β}, mapM' f l = some r → l.length = r.length
  | [], r, h => by simp [mapM'] at h; subst h; rfl
  | x :: l, r, h => by
    simp only [mapM'] at h
    split at h
    · rename_i y ys h1 h2; simp at h; subst h; simp [mapM'_length h2]
    · simp at h
theorem mapM'_get {α β : Type} {f : α → Option β} : ∀ {l : List α} {r : List β}, mapM' f l = some r → ∀ (i : Nat) (a : α) (b : β), l[i]? = some a → r[i]? = some b → f a = some b
  | [], r, h, i, a, b, ha, hb => by simp at ha
  | x :: l, r, h, i, a, b, ha, hb => by
    simp only [mapM'] at h
    split at h
    · rename_i y ys h1 h2
      simp at h; subst h
      cases i with
      | zero => simp at ha hb; subst ha hb; exact h1
      | succ i => exact mapM'_get h2 i a b (by simpa using ha) (by simpa using hb)
    · simp at h

section
variable {P : Program} {w : World}

theorem run_typeInfo {t : TypeId} {i : TypeInfo} (h : P.info? t = some i) : (typeInfo t).run P w = .ok i w := by simp [typeInfo, h]
theorem run_under {t : TypeId} {d : TypeDesc} (h : P.underlying t = some d) : (underlying t).run P w = .ok d w := run_underlying h w
theorem run_size {t : TypeId} {i : TypeInfo} (h : P.info? t = some i) : (sizeOf t).run P w = .ok i.size w := by simp [sizeOf, run_typeInfo h]

theorem compTy_some {t : TypeId} {ty : Ty} (h : compTy P t = some ty) :
    ∃ i, P.info? t = some i ∧ i.size = ty.size ∧ (isAgg t).run P w = .ok ty.isAgg w := by
  unfold compTy at h
  cases hu : P.underlying t with
  | none => simp [hu] at h
  | some d =>
    cases hi : P.info? t with
    | none => cases d <;> simp [hu, hi] at h
    | some i =>
      have fin1 : i.size = 1 ∧ Ty.one = ty → (isAgg t).run P w = .ok false w → ∃ i', some i = some i' ∧ i'.size = ty.size ∧ (isAgg t).run P w = .ok ty.isAgg w := by
        rintro ⟨h1, rfl⟩ h2; exact ⟨i, rfl, h1, h2⟩
      have fin2 : Ty.agg i.size = ty → (isAgg t).run P w = .ok true w → ∃ i', some i = some i' ∧ i'.size = ty.size ∧ (isAgg t).run P w = .ok ty.isAgg w := by
        rintro rfl h2; exact ⟨i, rfl, rfl, h2⟩
      cases d <;> simp [hu, hi] at h <;> first
        | exact fin1 h (by simp [isAgg, run_under hu])
        | exact fin2 h (by simp [isAgg, run_under hu])

def Ty.read : Ty → List Value → Value
  | .one, vs => vs.headD undef
  | .agg _, vs => .agg vs.toArray

theorem run_loadVar {t : TypeId} {ty : Ty} (h : compTy P t = some ty) {b o : Nat} {vs : List Value} (hl : vs.length = ty.size)
    (hc : ∀ (j : Nat) (x : Value), vs[j]? = some x → w.cell? ⟨b, o + j, none⟩ = some x) :
    (loadVar t ⟨b, o, none⟩).run P w = .ok (ty.read vs) w := by
  obtain ⟨i, hi, hs, ha⟩ := compTy_some (w := w) h
  have hc' : ∀ (j : Nat) (x : Value), vs[j]? = some x → w.cell? ((⟨b, o, none⟩ : Addr).add j) = some x := fun j x hx => by rw [Addr.add_mk]; exact hc j x hx
  cases ty with
  | one =>
    match vs, hl with
    | [x], _ =>
      have := hc 0 x rfl
      simp at this
      simp [loadVar, ha, run_load, this, Ty.isAgg, Ty.read]
  | agg n =>
    have hz : i.size = vs.length := by rw [hs]; exact hl.symm
    simp [loadVar, ha, run_size hi, hz, Ty.isAgg, Ty.read, run_loadCells_list (P := P) w ⟨b, o, none⟩ vs hc']

theorem run_storeVar {t : TypeId} {ty : Ty} (h : compTy P t = some ty) {b o : Nat} {v : Value} (hl : v.cells.size = ty.size)
    (hc : ∀ j, j < v.cells.size → (w.cell? ⟨b, o + j, none⟩).isSome = true) (hf : ∀ j, j < v.cells.size → w.frozen? ⟨b, o + j, none⟩ = false)
    (h1 : ∀ x ∈ v.cells.toList, x.oneCell' = true) :
    (storeVar t ⟨b, o, none⟩ v).run P w = .ok () (w.setCells b o v.cells.toList) := by
  obtain ⟨i, hi, hs, ha⟩ := compTy_some (w := w) h
  have hst := run_storeCells_cells (P := P) b o v.cells.toList 0 w (by simpa using hc) (by simpa using hf) h1
  simp at hst
  simp [storeVar, run_size hi, hs, hl, hst]
end

/-! ## worlds -/
theorem cell?_setCells {b o : Nat} {vs : List Value} {w : World} {b' o' : Nat} (h : ¬ (b' = b ∧ o ≤ o' ∧ o' < o + vs.length)) :
    (w.setCells b o vs).cell? ⟨b', o', none⟩ = w.cell? ⟨b', o', none⟩ := by
  induction vs generalizing o w with
  | nil => rfl
  | cons v r ih =>
    simp only [World.setCells]
    rw [ih (by simp at h ⊢; omega), World.cell?_setCell_other]
    intro e
    simp at e h
    omega

theorem heap_setCells {b o : Nat} {vs : List Value} {w : World} {b' : Nat} (h : b' ≠ b) : (w.setCells b o vs).heap[b']? = w.heap[b']? := by
  induction vs generalizing o w with
  | nil => rfl
  | cons v r ih =>
    simp only [World.setCells]
    rw [ih]
    simp only [World.setCell, Array.getElem?_modify]
    rw [if_neg (Ne.symm h)]

theorem size_setCells {b o : Nat} {vs : List Value} {w : World} : (w.setCells b o vs).heap.size = w.heap.size := by
  induction vs generalizing o w with
  | nil => rfl
  | cons v r ih => simp only [World.setCells]; rw [ih, World.size_setCell]
theorem misc_setCells {b o : Nat} {vs : List Value} {w : World} : (w.setCells b o vs).os = w.os ∧ (w.setCells b o vs).tape = w.tape ∧ (w.setCells b o vs).output = w.output := by
  induction vs generalizing o w with
  | nil => exact ⟨rfl, rfl, rfl⟩
  | cons v r ih => simp only [World.setCells]; obtain ⟨h1, h2, h3⟩ := ih (o := o + 1) (w := w.setCell ⟨b, o, none⟩ v); exact ⟨h1, h2, h3⟩

theorem cell?_lt {w : World} {b o : Nat} {x : Value} (h : w.cell? ⟨b, o, none⟩ = some x) : b < w.heap.size := World.block_lt_of_cell? w ⟨b, o, none⟩ h

theorem heap_alloc_lt {w : World} {o : Obj} {b : Nat} (h : b < w.heap.size) : (w.alloc o).heap[b]? = w.heap[b]? := by
  show (w.heap.push o)[b]? = _
  rw [Array.getElem?_push, if_neg (Nat.ne_of_lt h)]
theorem heap_alloc_new {w : World} {o : Obj} : (w.alloc o).heap[w.heap.size]? = some o := by
  show (w.heap.push o)[w.heap.size]? = _
  simp

/-! ## invariants under the few kinds of steps -/
theorem ObjRel.mono {I I' : Imm} {m m' : Locs} {w w' : World} {o : AObj} {l : Loc} (h : ObjRel I m w o l) (hI : ImmLe I I') (hm : LocsLe m m')
    (hc : ∀ b p, l.owns b p → w'.cell? ⟨b, p, none⟩ = w.cell? ⟨b, p, none⟩ ∧ w'.frozen? ⟨b, p, none⟩ = w.frozen? ⟨b, p, none⟩)
    (hb : ∀ b, l = .whole b → w'.heap[b]? = w.heap[b]?) : ObjRel I' m' w' o l := by
  cases o with
  | dead => exact h
  | cells g cs =>
    obtain ⟨b, lo, n, vs, rfl, hle, hr, h1, h2, h3⟩ := h
    refine ⟨b, lo, n, vs, rfl, hle, hr.mono hI hm, h1, fun i x hx => ?_, fun i hi => ?_⟩
    · have hi : i < vs.length := (List.getElem?_eq_some_iff.1 hx).1
      rw [(hc b (lo + i) ⟨rfl, by omega, by have := hr.1; omega⟩).1]
      exact h2 i x hx
    · have := hc b (lo + i) ⟨rfl, by omega, by omega⟩
      rw [this.1, this.2]; exact h3 i hi
  | tok n =>
    obtain ⟨b, s, e, rfl, hle, h1⟩ := h
    refine ⟨b, s, e, rfl, hle, fun p hp hp' => ?_⟩
    have := hc b p ⟨rfl, hp, hp'⟩
    rw [this.1, this.2]; exact h1 p hp hp'
  | amap es =>
    obtain ⟨b, ents, clock, rfl, h1, h2, h3, h4, h5⟩ := h
    refine ⟨b, ents, clock, rfl, by rw [hb b rfl]; exact h1, h2, fun i p e hp he => ?_, h4, h5⟩
    exact ⟨(h3 i p e hp he).1.mono hI hm, (h3 i p e hp he).2.mono hI hm⟩
  | loop env x st pd =>
    obtain ⟨b, d, rfl, h1, h2⟩ := h
    refine ⟨b, d, rfl, by rw [hb b rfl]; exact h1, fun t v ht hv => ?_⟩
    obtain ⟨y, hy, hr⟩ := h2 t v ht hv
    exact ⟨y, hy, hr.mono hI hm⟩
  | queue =>
    obtain ⟨b, rfl, h1⟩ := h
    exact ⟨b, rfl, by rw [hb b rfl]; exact h1⟩

/-- A run that owns nothing of ours leaves our invariant. 'J': what it made immutable. -/
theorem Inv.frame {G : Globs} {I I' : Imm} {m : Locs} {h : AHeap} {w w' : World} (hv : Inv G I m h w) (hI : ImmLe I I')
    (hsz : w.heap.size ≤ w'.heap.size)
    (hc : ∀ b p, b < w.heap.size → w'.cell? ⟨b, p, none⟩ = w.cell? ⟨b, p, none⟩)
    (hf : ∀ a : Addr, a.block < w.heap.size → w'.frozen? a = w.frozen? a)
    (hb : ∀ b, b < w.heap.size → w'.heap[b]? = w.heap[b]?)
    (hn : ∀ b o, b < w.heap.size → I' b o ≠ none → I b o ≠ none)
    (himm : ∀ b o v, I' b o = some v → w'.cell? ⟨b, o, none⟩ = some v) : Inv G I' m h w' where
  len := hv.len
  obj i o l ho hl := (hv.obj i o l ho hl).mono hI (.refl m)
    (fun b p hp => ⟨hc b p (hv.lt i l b p hl hp), hf _ (hv.lt i l b p hl hp)⟩)
    (fun b e => hb b (hv.lt i l b 0 hl (by subst e; exact rfl)))
  imm := himm
  disj := hv.disj
  immd i l b o hl hp := by
    have h1 := hv.immd i l b o hl hp
    cases h2 : I' b o with
    | none => rfl
    | some x => exact (hn b o (hv.lt i l b o hl hp) (by simp [h2]) h1).elim
  lt i l b o hl hp := Nat.lt_of_lt_of_le (hv.lt i l b o hl hp) hsz
  glob g v hg m' := (hv.glob g v hg m').mono hI (.refl m')

/-- Immutable memory with a new row. -/
def Imm.row (I : Imm) (B : Nat) (vs : List Value) : Imm := fun b o => if b = B then vs[o]? else I b o

theorem Imm.row_le {I : Imm} {B : Nat} {vs : List Value} (h : ∀ o, I B o = none) : ImmLe I (I.row B vs) := by
  intro b o y hy
  unfold Imm.row
  split
  · rename_i e; subst e; rw [h o] at hy; cases hy
  · exact hy

theorem Inv.imm_lt {G : Globs} {I : Imm} {m : Locs} {h : AHeap} {w : World} (hv : Inv G I m h w) {b o : Nat} {x : Value} (hx : I b o = some x) : b < w.heap.size :=
  cell?_lt (hv.imm b o x hx)

theorem Inv.imm_new {G : Globs} {I : Imm} {m : Locs} {h : AHeap} {w : World} (hv : Inv G I m h w) (o : Nat) : I w.heap.size o = none := by
  cases hx : I w.heap.size o with
  | none => rfl
  | some x => exact absurd (hv.imm_lt hx) (Nat.lt_irrefl _)

theorem Lies.row {I : Imm} {B : Nat} {vs : List Value} : Lies (I.row B vs) B 0 vs := by
  intro i x hx
  simp [Imm.row, hx]

/-- A new block that nobody will write. 'vs': the part of it that is used. -/
theorem Inv.allocImm {G : Globs} {I : Imm} {m : Locs} {h : AHeap} {w : World} (hv : Inv G I m h w) (cs : Array Value) (e : TypeId) (k : Nat) :
    Inv G (I.row w.heap.size cs.toList) m h (w.alloc (.cells cs e)) ∧
    Trans k I m w (I.row w.heap.size cs.toList) m (w.alloc (.cells cs e)) := by
  have hle : ImmLe I (I.row w.heap.size cs.toList) := Imm.row_le hv.imm_new
  have hnew : ∀ b o, b < w.heap.size → I.row w.heap.size cs.toList b o = I b o := fun b o hb => by
    unfold Imm.row; rw [if_neg (Nat.ne_of_lt hb)]
  refine ⟨hv.frame hle (by simp) (fun b p hb => World.cell?_alloc_lt w _ _ hb) (fun a ha => World.frozen?_alloc_old w _ a (Nat.ne_of_lt ha))
    (fun b hb => heap_alloc_lt hb) (fun b o hb hx => by rw [hnew b o hb] at hx; exact hx) (fun b o v hx => ?_), ?_⟩
  · unfold Imm.row at hx
    split at hx
    · rename_i e; subst e; rw [World.cell?_alloc_new]; simpa using hx
    · rw [World.cell?_alloc_lt w _ _ (hv.imm_lt hx)]; exact hv.imm b o v hx
  · exact { os := rfl, tape := rfl, output := rfl, size := by simp, cell := fun b o hb _ => World.cell?_alloc_lt w _ _ hb,
            froz := fun a ha => World.frozen?_alloc_old w _ a (Nat.ne_of_lt ha), blk := fun b hb _ => heap_alloc_lt hb, imm := hle,
            own := fun i l b o h1 h2 _ => ⟨i, l, h1, h2⟩, immNew := fun b o hb hx => .inl (by rw [hnew b o hb] at hx; exact hx),
            loc := fun i l _ hl => ⟨l, hl, .refl l⟩ }

end Go.Apx
