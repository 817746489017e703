/- ABSTRACT MACHINE, part 16: the frame of a call: a contract over few objects serves in any heap that holds them, under other names. -/
import Derived.Test.YtbijnfhclfimeaaDoorAm15
namespace Go.Apx
set_option linter.unusedVariables false
set_option linter.unusedSimpArgs false

section
variable {I : Imm} {m M : Locs} {n : Nat} {s : Nat → Nat}

theorem unren_list (hs : ∀ j, j < n → m[j]? = M[s j]?) {ds cs : List AV} {vs : List Value} (e : cs = ds.map (AV.ren s)) (hb : inbL n ds = true)
    (ih : ∀ (i : Nat) (a : AV) (x : Value), cs[i]? = some a → vs[i]? = some x → ∀ v, a = v.ren s → v.inb n = true → AVRel I m v x) :
    ∀ (i : Nat) (a : AV) (x : Value), ds[i]? = some a → vs[i]? = some x → AVRel I m a x := by
  intro i a x ha hx
  subst e
  rw [inbL_eq, List.all_eq_true] at hb
  exact ih i (a.ren s) x (by simp [ha]) hx a rfl (hb a (List.mem_of_getElem? ha))

theorem inb_flat : ∀ (es : List AV), inbL n es = true → inbL n (es.flatMap AV.cells) = true := by
  intro es
  induction es with
  | nil => intro _; rfl
  | cons e es ih =>
    intro hb
    simp only [inbL, Bool.and_eq_true] at hb
    rw [inbL_eq, List.flatMap_cons, List.all_append, Bool.and_eq_true]
    refine ⟨?_, by rw [← inbL_eq]; exact ih hb.2⟩
    cases e <;> simp_all [AV.cells, AV.inb, inbL_eq]

theorem AVRel.unren (hn : m.length = n) (hs : ∀ j, j < n → m[j]? = M[s j]?) {u : AV} {x : Value} (h : AVRel I M u x) : ∀ v, u = v.ren s → v.inb n = true → AVRel I m v x := by
  have hptr : ∀ o g off a, o < n → PtrRel M (s o) g off a → PtrRel m o g off a := fun o g off a ho h g' b lo k hm => by
    rw [hs o ho] at hm; exact h g' b lo k hm
  induction h with
  | sc x => intro v e hb; cases v <;> simp [AV.ren] at e; subst e; exact .sc _
  | agg cs vs hl h1 h ih =>
    intro v e hb
    cases v <;> simp [AV.ren] at e
    rename_i ds
    rw [renL_eq] at e
    refine .agg ds vs (by rw [e] at hl; simpa using hl) (fun c hc => ?_) (unren_list hs e (by simpa [AV.inb] using hb) ih)
    have := h1 (c.ren s) (by rw [e]; exact List.mem_map_of_mem hc)
    rwa [ren_one] at this
  | tup cs vs hl h ih =>
    intro v e hb
    cases v <;> simp [AV.ren] at e
    rename_i ds
    rw [renL_eq] at e
    exact .tup ds vs (by rw [e] at hl; simpa using hl) (unren_list hs e (by simpa [AV.inb] using hb) ih)
  | slnil k =>
    intro v e hb
    cases v <;> simp [AV.ren] at e
    rename_i k' ds c
    obtain ⟨rfl, e1, e2⟩ := e
    rw [renL_eq] at e1
    have : ds = [] := by cases ds <;> simp_all
    subst this
    cases c <;> simp [Cap.ren] at e2
    exact .slnil _
  | sl k es c a cap vs hc hle hk hw h1 hl h hI hsp hcap ih =>
    intro v e hb
    cases v <;> simp [AV.ren] at e
    rename_i k' ds c'
    obtain ⟨rfl, e1, e2⟩ := e
    rw [renL_eq] at e1
    simp only [AV.inb, Bool.and_eq_true] at hb
    have hlen : es.length = ds.length := by rw [e1]; simp
    rw [hlen]
    have hflat : es.flatMap AV.cells = (ds.flatMap AV.cells).map (AV.ren s) := by rw [e1, flatMap_ren]
    refine .sl k ds c' a cap vs (fun h0 => ?_) (by omega) hk (fun d hd => ?_) (fun d hd => ?_) (by rw [hflat] at hl; simpa using hl) (unren_list hs hflat (inb_flat ds hb.1) ih) hI
      (fun hne => hsp (by rw [e1]; simpa using hne)) ?_
    · subst h0; exact hc e2
    · have := hw (d.ren s) (by rw [e1]; exact List.mem_map_of_mem hd)
      rw [ren_cells] at this; simpa using this
    · have := h1 (d.ren s) (by rw [hflat]; exact List.mem_map_of_mem hd)
      rwa [ren_one] at this
    · cases c' with
      | tok t =>
        subst e2
        have ht : t < n := by simpa [Cap.inb] using hb.2
        refine ⟨by omega, fun n' b s' e' hm => ?_⟩
        rw [hs t ht] at hm
        have := hcap.2 n' b s' e' hm
        rw [hlen] at this
        exact this
      | nil => subst e2; exact absurd rfl hc
      | any => trivial
      | full => subst e2; rw [← hlen]; exact hcap
  | ip u a vs h1 hl h hI hsp ih =>
    intro v e hb
    cases v <;> simp [AV.ren] at e
    rename_i v
    have hcs : u.cells = v.cells.map (AV.ren s) := by rw [e, ren_cells]
    refine .ip v a vs (fun c hc => ?_) (by rw [hcs] at hl; simpa using hl) (unren_list hs hcs ?_ ih) hI hsp
    · have := h1 (c.ren s) (by rw [hcs]; exact List.mem_map_of_mem hc)
      rwa [ren_one] at this
    · have := inb_flat [v] (by simpa [AV.inb, inbL] using hb)
      simpa using this
  | ptr o g off a ho h =>
    intro v e hb
    cases v <;> simp [AV.ren] at e
    rename_i o' g' off'
    obtain ⟨rfl, rfl, rfl⟩ := e
    have hlt : o' < n := by simpa [AV.inb] using hb
    exact .ptr _ _ _ a (by omega) (hptr _ _ _ a hlt h)
  | rf o g off len full a cap ho hle hf h =>
    intro v e hb
    cases v <;> simp [AV.ren] at e
    rename_i o' g' off' len' full'
    obtain ⟨rfl, rfl, rfl, rfl, rfl⟩ := e
    have hlt : o' < n := by simpa [AV.inb] using hb
    exact .rf _ _ _ _ _ a cap (by omega) hle hf (fun hne => hptr _ _ _ a hlt (h hne))
  | mp o r ho h =>
    intro v e hb
    cases v <;> simp [AV.ren] at e
    rename_i o'
    subst e
    have hlt : o' < n := by simpa [AV.inb] using hb
    exact .mp _ r (by omega) (fun b hb' => h b (by rw [← hs _ hlt]; exact hb'))
  | it o r ho h =>
    intro v e hb
    cases v <;> simp [AV.ren] at e
    rename_i o'
    subst e
    have hlt : o' < n := by simpa [AV.inb] using hb
    exact .it _ r (by omega) (fun b hb' => h b (by rw [← hs _ hlt]; exact hb'))
  | yld o r ho h =>
    intro v e hb
    cases v <;> simp [AV.ren] at e
    rename_i o'
    subst e
    have hlt : o' < n := by simpa [AV.inb] using hb
    exact .yld _ r (by omega) (fun b hb' => h b (by rw [← hs _ hlt]; exact hb'))
  | fn f first captured fs cs hl hl' h h' ih ih' =>
    intro v e hb
    cases v <;> simp [AV.ren] at e
    rename_i f' a b
    obtain ⟨rfl, e1, e2⟩ := e
    rw [renL_eq] at e1 e2
    simp only [AV.inb, Bool.and_eq_true] at hb
    exact .fn _ a b fs cs (by rw [e1] at hl; simpa using hl) (by rw [e2] at hl'; simpa using hl') (unren_list hs e1 hb.1 ih) (unren_list hs e2 hb.2 ih')
  | ifc t u x h ih =>
    intro v e hb
    cases v <;> simp [AV.ren] at e
    obtain ⟨rfl, e⟩ := e
    exact .ifc _ _ x (ih _ e (by simpa [AV.inb] using hb))

theorem AVRels.unren (hn : m.length = n) (hs : ∀ j, j < n → m[j]? = M[s j]?) {ds : List AV} {vs : List Value} (h : AVRels I M (ds.map (AV.ren s)) vs) (hb : inbL n ds = true) : AVRels I m ds vs := by
  refine ⟨by simpa using h.1, fun i a x ha hx => ?_⟩
  rw [inbL_eq, List.all_eq_true] at hb
  exact (h.2 i (a.ren s) x (by simp [ha]) hx).unren hn hs a rfl (hb a (List.mem_of_getElem? ha))

theorem ObjRel.unren {w : World} {l : Loc} (hn : m.length = n) (hs : ∀ j, j < n → m[j]? = M[s j]?) {o : AObj} (h : ObjRel I M w (o.ren s) l) (hb : o.inb n = true) : ObjRel I m w o l := by
  cases o with
  | dead => exact h
  | cells g cs =>
    obtain ⟨b, lo, n', vs, rfl, hle, hr, h1, rest⟩ := h
    rw [renL_eq] at hle hr h1
    refine ⟨b, lo, n', vs, rfl, by simpa using hle, hr.unren hn hs hb, fun c hc => ?_, rest⟩
    have := h1 (c.ren s) (List.mem_map_of_mem hc)
    rwa [ren_one] at this
  | tok n => exact h
  | amap es =>
    obtain ⟨b, ents, clock, rfl, h1, h2, h3, h4, h5⟩ := h
    refine ⟨b, ents, clock, rfl, h1, by simpa using h2, fun i p e hp he => ?_, h4, h5⟩
    simp only [AObj.inb, List.all_eq_true, Bool.and_eq_true] at hb
    obtain ⟨b1, b2⟩ := hb p (List.mem_of_getElem? hp)
    have := h3 i (p.1.ren s, p.2.ren s) e (by simp [hp]) he
    exact ⟨this.1.unren hn hs _ rfl b1, this.2.unren hn hs _ rfl b2⟩
  | loop env x st pd =>
    obtain ⟨b, d, rfl, h1, h2⟩ := h
    refine ⟨b, d, rfl, h1, fun t v ht hv => ?_⟩
    obtain ⟨y, hy, hr⟩ := h2 t (v.ren s) ht (by rw [Env.get_map', hv]; rfl)
    exact ⟨y, hy, hr.unren hn hs v rfl (loop_inb hb ht hv)⟩
  | queue => exact h
end

/-- The names of a callee's objects in its caller: those that are handed over, and new ones behind all. -/
def names (ids : List Nat) (L : Nat) (j : Nat) : Nat :=
  match ids[j]? with
  | some i => i
  | none => L + (j - ids.length)

def putBack : List Nat → AHeap → AHeap → AHeap
  | [], _, H => H
  | _ :: _, [], H => H
  | i :: ids, o :: os, H => putBack ids os (H.set i o)
def merge (ids : List Nat) (H objs : AHeap) : AHeap := putBack ids objs H ++ objs.drop ids.length

theorem putBack_length : ∀ (ids : List Nat) (os H : AHeap), (putBack ids os H).length = H.length
  | [], _, _ => rfl
  | _ :: _, [], _ => rfl
  | i :: ids, o :: os, H => by simp [putBack, putBack_length ids os]
theorem putBack_other : ∀ (ids : List Nat) (os H : AHeap) (i : Nat), i ∉ ids → (putBack ids os H)[i]? = H[i]?
  | [], _, _, _, _ => rfl
  | _ :: _, [], _, _, _ => rfl
  | j :: ids, o :: os, H, i, h => by
    simp only [List.mem_cons, not_or] at h
    rw [putBack, putBack_other ids os _ i h.2, List.getElem?_set, if_neg (Ne.symm h.1)]
theorem putBack_at : ∀ (ids : List Nat) (os H : AHeap), ids.Nodup → (∀ i ∈ ids, i < H.length) → ids.length ≤ os.length → ∀ (j i : Nat), ids[j]? = some i → (putBack ids os H)[i]? = os[j]?
  | [], _, _, _, _, _, j, i, h => by simp at h
  | i :: ids, [], _, _, _, hl, _, _, _ => by simp at hl
  | k :: ids, o :: os, H, hnd, hlt, hl, 0, i, h => by
    simp at h; subst h
    rw [List.nodup_cons] at hnd
    rw [putBack, putBack_other ids os _ k hnd.1, List.getElem?_set]
    simp [hlt k (by simp)]
  | k :: ids, o :: os, H, hnd, hlt, hl, j + 1, i, h => by
    rw [List.nodup_cons] at hnd
    rw [putBack, putBack_at ids os _ hnd.2 (fun q hq => by simp; exact hlt q (by simp [hq])) (by simpa using hl) j i (by simpa using h)]
    simp

theorem ACalls.frame {P : Program} {G : Globs} {f : FuncId} {args : List AV} {h : AHeap} {R : AEnd → AHeap → Prop} (hc : ACalls P G f args h R) (ids : List Nat) (H : AHeap)
    (hlen : ids.length = h.length) (hnd : ids.Nodup) (hlt : ∀ i ∈ ids, i < H.length)
    (hobj : ∀ (j i : Nat) (o : AObj), ids[j]? = some i → h[j]? = some o → H[i]? = some (o.ren (names ids H.length)))
    (harg : inbL h.length args = true) (hin : h.all (AObj.inb h.length) = true) :
    ACalls P G f (args.map (AV.ren (names ids H.length))) H fun r' H' => ∃ r h', R r h' ∧ r' = r.ren (names ids H.length) ∧ H' = merge ids H (h'.map (AObj.ren (names ids H.length))) := by
  refine ⟨hc.1, fun I M w vs hv ha => ?_⟩
  let m : Locs := ids.map fun i => M.getD i .dead
  have hM := hv.len
  have hml : m.length = h.length := by simp [m, hlen]
  have hname : ∀ j i, ids[j]? = some i → names ids H.length j = i := fun j i hj => by simp [names, hj]
  have hmj : ∀ (j i : Nat), ids[j]? = some i → m[j]? = M[i]? := by
    intro j i hj
    have hi : i < M.length := by rw [hM]; exact hlt i (List.mem_of_getElem? hj)
    simp [m, hj, List.getD_eq_getElem?_getD, hi]
  have hget : ∀ j, j < h.length → ∃ i, ids[j]? = some i := fun j hj => ⟨ids[j]'(by omega), by simp [hlen, hj]⟩
  have hs : ∀ j, j < h.length → m[j]? = M[names ids H.length j]? := by
    intro j hj
    obtain ⟨i, hi⟩ := hget j hj
    rw [hname j i hi]; exact hmj j i hi
  have hback : ∀ (j : Nat) (l : Loc), m[j]? = some l → ∃ i, ids[j]? = some i ∧ M[i]? = some l := by
    intro j l hj
    obtain ⟨i, hi⟩ := hget j (by rw [← hml]; exact (List.getElem?_eq_some_iff.1 hj).1)
    exact ⟨i, hi, by rw [← hmj j i hi]; exact hj⟩
  have hinj : ∀ (j j' i : Nat), ids[j]? = some i → ids[j']? = some i → j = j' := by
    intro j j' i h1 h2
    exact (List.getElem?_inj (List.getElem?_eq_some_iff.1 h1).1 hnd).1 (h1.trans h2.symm)
  have hvm : Inv G I m h w :=
    { len := hml
      obj := fun j o l ho hl => by
        obtain ⟨i, hi, hMi⟩ := hback j l hl
        rw [List.all_eq_true] at hin
        exact (hv.obj i _ l (hobj j i o hi ho) hMi).unren hml hs (hin o (List.mem_of_getElem? ho))
      imm := hv.imm
      disj := fun j j' l l' b o h1 h2 o1 o2 => by
        obtain ⟨i, hi, hMi⟩ := hback j l h1
        obtain ⟨i', hi', hMi'⟩ := hback j' l' h2
        have := hv.disj i i' l l' b o hMi hMi' o1 o2
        subst this
        exact hinj j j' i hi hi'
      immd := fun j l b o h1 o1 => by obtain ⟨i, hi, hMi⟩ := hback j l h1; exact hv.immd i l b o hMi o1
      lt := fun j l b o h1 o1 => by obtain ⟨i, hi, hMi⟩ := hback j l h1; exact hv.lt i l b o hMi o1
      glob := hv.glob }
  refine (hc.2 I m w vs hvm (ha.unren hml hs harg)).mono fun e w' ⟨r, h', I', m', hR, hE, hv', ht⟩ => ?_
  have hm' := hv'.len
  have hle : ids.length ≤ m'.length := by
    rcases Nat.lt_or_ge m'.length ids.length with hlt' | hge
    · exfalso
      have hj : m'.length < m.length := by omega
      obtain ⟨l', h1, _⟩ := ht.loc m'.length m[m'.length] (by omega) (by simp [hj])
      have := (List.getElem?_eq_some_iff.1 h1).1
      omega
    · exact hge
  -- the caller's places behind the call
  let M' : Locs := (M.zipIdx.map fun p => match ids.idxOf? p.2 with | some j => m'.getD j .dead | none => p.1) ++ m'.drop ids.length
  have hMl : (M.zipIdx.map fun p => match ids.idxOf? p.2 with | some j => m'.getD j .dead | none => p.1).length = M.length := by simp
  have hMin : ∀ (j i : Nat), ids[j]? = some i → M'[i]? = m'[j]? := by
    intro j i hj
    have hi : i < M.length := by rw [hM]; exact hlt i (List.mem_of_getElem? hj)
    have hj' : j < ids.length := (List.getElem?_eq_some_iff.1 hj).1
    have hidx : ids.idxOf? i = some j := by
      rw [List.idxOf?_eq_some_iff]
      refine ⟨hj', by have := (List.getElem?_eq_some_iff.1 hj).2; simp [this], fun q hq => ?_⟩
      intro hqe
      have : q = j := hinj q j i (by rw [List.getElem?_eq_getElem (by omega)]; exact congrArg some (by first | exact hqe | simpa using hqe)) hj
      omega
    simp only [M']
    rw [List.getElem?_append_left (by rw [hMl]; exact hi)]
    simp [hi, hidx, List.getD_eq_getElem?_getD, show j < m'.length by omega]
  have hMout : ∀ i, i < M.length → i ∉ ids → M'[i]? = M[i]? := by
    intro i hi hni
    have hidx : ids.idxOf? i = none := List.idxOf?_eq_none_iff.2 hni
    simp only [M']
    rw [List.getElem?_append_left (by rw [hMl]; exact hi)]
    simp [hi, hidx]
  have hMnew : ∀ j, ids.length ≤ j → M'[H.length + (j - ids.length)]? = m'[j]? := by
    intro j hj
    simp only [M']
    rw [List.getElem?_append_right (by rw [hMl]; omega), hMl, List.getElem?_drop]
    congr 1; omega
  have hren : ∀ (j : Nat) (l : Loc), m'[j]? = some l → M'[names ids H.length j]? = some l := by
    intro j l hj
    rcases Nat.lt_or_ge j ids.length with hlt' | hge
    · obtain ⟨i, hi⟩ := hget j (by omega)
      rw [hname j i hi, hMin j i hi]; exact hj
    · have : names ids H.length j = H.length + (j - ids.length) := by unfold names; rw [List.getElem?_eq_none_iff.2 hge]
      rw [this, hMnew j hge]; exact hj
  have hcase : ∀ (i : Nat) (l : Loc), M'[i]? = some l → (∃ j, m'[j]? = some l ∧ i = names ids H.length j) ∨ (i < M.length ∧ i ∉ ids ∧ M[i]? = some l) := by
    intro i l hi
    rcases Nat.lt_or_ge i M.length with hlt' | hge
    · by_cases hmem : i ∈ ids
      · obtain ⟨j, hj⟩ := List.getElem?_of_mem hmem
        exact .inl ⟨j, by rw [← hMin j i hj]; exact hi, (hname j i hj).symm⟩
      · exact .inr ⟨hlt', hmem, by rw [← hMout i hlt' hmem]; exact hi⟩
    · left
      have hj : ids.length ≤ ids.length + (i - M.length) := by omega
      have hnew := hMnew (ids.length + (i - M.length)) hj
      have he : H.length + (ids.length + (i - M.length) - ids.length) = i := by omega
      rw [he] at hnew
      refine ⟨ids.length + (i - M.length), by rw [← hnew]; exact hi, ?_⟩
      unfold names
      rw [List.getElem?_eq_none_iff.2 hj]
      show i = H.length + _
      omega
  have hunmapped : ∀ (i : Nat) (l : Loc), i < M.length → i ∉ ids → M[i]? = some l → ∀ b o, l.owns b o → ∀ (j : Nat) (l' : Loc), m[j]? = some l' → ¬ l'.owns b o := by
    intro i l hi hni hMi b o ho j l' hj ho'
    obtain ⟨i', hi', hMi'⟩ := hback j l' hj
    have := hv.disj i i' l l' b o hMi hMi' ho ho'
    subst this
    exact hni (List.mem_of_getElem? hi')
  have hLocs : LocsLe M M' := by
    intro i l hi
    have hilt : i < M.length := (List.getElem?_eq_some_iff.1 hi).1
    by_cases hmem : i ∈ ids
    · obtain ⟨j, hj⟩ := List.getElem?_of_mem hmem
      obtain ⟨l', h1, h2⟩ := ht.loc j l (by rw [← hlen]; exact (List.getElem?_eq_some_iff.1 hj).1) (by rw [hmj j i hj]; exact hi)
      exact ⟨l', by rw [hMin j i hj]; exact h1, h2⟩
    · exact ⟨l, by rw [hMout i hilt hmem]; exact hi, .refl l⟩
  have hobjs : ∀ (i : Nat) (o : AObj), (merge ids H (h'.map (AObj.ren (names ids H.length))))[i]? = some o →
      (∃ j q, h'[j]? = some q ∧ o = q.ren (names ids H.length) ∧ i = names ids H.length j) ∨ (i < H.length ∧ i ∉ ids ∧ H[i]? = some o) := by
    intro i o hi
    unfold merge at hi
    rw [List.getElem?_append] at hi
    rw [putBack_length] at hi
    split at hi
    · rename_i hlt'
      by_cases hmem : i ∈ ids
      · obtain ⟨j, hj⟩ := List.getElem?_of_mem hmem
        rw [putBack_at ids _ H hnd hlt (by simp; omega) j i hj] at hi
        simp only [List.getElem?_map, Option.map_eq_some_iff] at hi
        obtain ⟨q, hq, rfl⟩ := hi
        exact .inl ⟨j, q, hq, rfl, (hname j i hj).symm⟩
      · rw [putBack_other ids _ H i hmem] at hi
        exact .inr ⟨hlt', hmem, hi⟩
    · rename_i hge
      simp only [List.getElem?_drop, List.getElem?_map, Option.map_eq_some_iff] at hi
      obtain ⟨q, hq, rfl⟩ := hi
      refine .inl ⟨_, q, hq, rfl, ?_⟩
      unfold names
      rw [List.getElem?_eq_none_iff.2 (Nat.le_add_right _ _)]
      show i = H.length + _
      omega
  have hnameinj : ∀ j j', names ids H.length j = names ids H.length j' → j = j' := by
    intro j j' he
    unfold names at he
    cases h1 : ids[j]? with
    | some i =>
      cases h2 : ids[j']? with
      | some i' => simp [h1, h2] at he; subst he; exact hinj j j' i h1 h2
      | none => simp [h1, h2] at he; have := hlt i (List.mem_of_getElem? h1); omega
    | none =>
      cases h2 : ids[j']? with
      | some i' => simp [h1, h2] at he; have := hlt i' (List.mem_of_getElem? h2); omega
      | none => simp [h1, h2] at he; rw [List.getElem?_eq_none_iff] at h1 h2; omega
  have hnameout : ∀ i j, i < H.length → i ∉ ids → i ≠ names ids H.length j := by
    intro i j hi hni he
    unfold names at he
    cases h1 : ids[j]? with
    | some i' => simp [h1] at he; subst he; exact hni (List.mem_of_getElem? h1)
    | none => simp [h1] at he; omega
  refine ⟨r.ren (names ids H.length), _, I', M', ⟨r, h', hR, rfl, rfl⟩, ?_, ?_, ?_⟩
  · cases r <;> cases e <;> simp only [EndRel] at hE <;> first
      | exact hE.elim
      | exact hE.ren hren
      | (obtain ⟨x, hx, hx'⟩ := hE; exact ⟨x, hx, hx'.ren hren⟩)
  · exact
    { len := by
        simp only [M', merge]
        rw [List.length_append, List.length_append, hMl, putBack_length]
        simp; omega
      obj := fun i o l ho hl => by
        rcases hobjs i o ho with ⟨j, q, hq, rfl, rfl⟩ | ⟨hi, hni, hHi⟩
        · rcases hcase _ l hl with ⟨j', hj', he⟩ | ⟨hi, hni, _⟩
          · have := hnameinj j j' he
            subst this
            exact (hv'.obj j q l hq hj').ren hren
          · exact absurd rfl (hnameout _ j (by omega) hni)
        · rcases hcase i l hl with ⟨j', hj', he⟩ | ⟨hi', _, hMi⟩
          · exact absurd he (hnameout i j' hi hni)
          · refine (hv.obj i o l hHi hMi).mono ht.imm hLocs (fun b p hp => ?_) (fun b e => ?_)
            · exact ⟨ht.cell b p (hv.lt i l b p hMi hp) (fun j l' hj => hunmapped i l hi' hni hMi b p hp j l' hj), ht.froz _ (hv.lt i l b p hMi hp)⟩
            · have hown : ∀ p, l.owns b p := fun p => by subst e; exact rfl
              exact ht.blk b (hv.lt i l b 0 hMi (hown 0)) (fun j l' p hj => hunmapped i l hi' hni hMi b p (hown p) j l' hj)
      imm := hv'.imm
      disj := fun i i' l l' b o h1 h2 o1 o2 => by
        rcases hcase i l h1 with ⟨j, hj, rfl⟩ | ⟨hi, hni, hMi⟩ <;> rcases hcase i' l' h2 with ⟨j', hj', rfl⟩ | ⟨hi', hni', hMi'⟩
        · rw [hv'.disj j j' l l' b o hj hj' o1 o2]
        · exfalso
          obtain ⟨q, lq, hq, oq⟩ := ht.own j l b o hj o1 (hv.lt i' l' b o hMi' o2)
          exact hunmapped i' l' hi' hni' hMi' b o o2 q lq hq oq
        · exfalso
          obtain ⟨q, lq, hq, oq⟩ := ht.own j' l' b o hj' o2 (hv.lt i l b o hMi o1)
          exact hunmapped i l hi hni hMi b o o1 q lq hq oq
        · exact hv.disj i i' l l' b o hMi hMi' o1 o2
      immd := fun i l b o h1 o1 => by
        rcases hcase i l h1 with ⟨j, hj, rfl⟩ | ⟨hi, hni, hMi⟩
        · exact hv'.immd j l b o hj o1
        · cases hc : I' b o with
          | none => rfl
          | some x =>
            rcases ht.immNew b o (hv.lt i l b o hMi o1) (by simp [hc]) with h2 | ⟨q, lq, hq, oq⟩
            · exact absurd (hv.immd i l b o hMi o1) h2
            · exact absurd oq (hunmapped i l hi hni hMi b o o1 q lq hq)
      lt := fun i l b o h1 o1 => by
        rcases hcase i l h1 with ⟨j, hj, rfl⟩ | ⟨hi, hni, hMi⟩
        · exact hv'.lt j l b o hj o1
        · exact Nat.lt_of_lt_of_le (hv.lt i l b o hMi o1) ht.size
      glob := hv'.glob }
  · exact
    { os := ht.os, tape := ht.tape, output := ht.output, size := ht.size
      cell := fun b o hb hn => ht.cell b o hb fun j l hj => by obtain ⟨i, _, hMi⟩ := hback j l hj; exact hn i l hMi
      froz := ht.froz
      blk := fun b hb hn => ht.blk b hb fun j l o hj => by obtain ⟨i, _, hMi⟩ := hback j l hj; exact hn i l o hMi
      imm := ht.imm
      own := fun i l b o h1 o1 hb => by
        rcases hcase i l h1 with ⟨j, hj, rfl⟩ | ⟨hi, hni, hMi⟩
        · obtain ⟨q, lq, hq, oq⟩ := ht.own j l b o hj o1 hb
          obtain ⟨i', _, hMi'⟩ := hback q lq hq
          exact ⟨i', lq, hMi', oq⟩
        · exact ⟨i, l, hMi, o1⟩
      immNew := fun b o hb hx => by
        rcases ht.immNew b o hb hx with h2 | ⟨q, lq, hq, oq⟩
        · exact .inl h2
        · obtain ⟨i', _, hMi'⟩ := hback q lq hq
          exact .inr ⟨i', lq, hMi', oq⟩
      loc := fun i l _ hi => hLocs i l hi }

end Go.Apx
