/- ABSTRACT MACHINE, part 15: forgetting, renaming, calls and their frame. -/
import Derived.Test.YtbijnfhclfimeaaDoorAm14
namespace Go.Apx
set_option linter.unusedVariables false
set_option linter.unusedSimpArgs false

/-! ## renaming objects; forgetting room; names below a bound -/
def Cap.ren (s : Nat → Nat) : Cap → Cap
  | .tok t => .tok (s t)
  | c => c
def Cap.strip : Cap → Cap
  | .tok _ => .any
  | c => c
def Cap.inb (n : Nat) : Cap → Bool
  | .tok t => t < n
  | _ => true

mutual
def AV.ren (s : Nat → Nat) : AV → AV
  | .sc v => .sc v
  | .agg cs => .agg (renL s cs)
  | .tup cs => .tup (renL s cs)
  | .sl k es c => .sl k (renL s es) (c.ren s)
  | .ip v => .ip (v.ren s)
  | .ptr o g off => .ptr (s o) g off
  | .rf o g off len full => .rf (s o) g off len full
  | .mp o => .mp (s o)
  | .it o => .it (s o)
  | .yld o => .yld (s o)
  | .fn f a b => .fn f (renL s a) (renL s b)
  | .ifc t v => .ifc t (v.ren s)
  | .pend n => .pend n
def renL (s : Nat → Nat) : List AV → List AV
  | [] => []
  | v :: r => v.ren s :: renL s r
end
mutual
def AV.strip : AV → AV
  | .sc v => .sc v
  | .agg cs => .agg (stripL cs)
  | .tup cs => .tup (stripL cs)
  | .sl k es c => .sl k (stripL es) c.strip
  | .ip v => .ip v.strip
  | .ptr o g off => .ptr o g off
  | .rf o g off len full => .rf o g off len full
  | .mp o => .mp o
  | .it o => .it o
  | .yld o => .yld o
  | .fn f a b => .fn f (stripL a) (stripL b)
  | .ifc t v => .ifc t v.strip
  | .pend n => .pend n
def stripL : List AV → List AV
  | [] => []
  | v :: r => v.strip :: stripL r
end
mutual
def AV.inb (n : Nat) : AV → Bool
  | .sc _ => true
  | .agg cs => inbL n cs
  | .tup cs => inbL n cs
  | .sl _ es c => inbL n es && c.inb n
  | .ip v => v.inb n
  | .ptr o _ _ => o < n
  | .rf o _ _ _ _ => o < n
  | .mp o => o < n
  | .it o => o < n
  | .yld o => o < n
  | .fn _ a b => inbL n a && inbL n b
  | .ifc _ v => v.inb n
  | .pend _ => true
def inbL (n : Nat) : List AV → Bool
  | [] => true
  | v :: r => v.inb n && inbL n r
end
theorem renL_eq (s : Nat → Nat) : ∀ l, renL s l = l.map (AV.ren s)
  | [] => rfl
  | v :: r => by simp [renL, renL_eq s r]
theorem stripL_eq : ∀ l, stripL l = l.map AV.strip
  | [] => rfl
  | v :: r => by simp [stripL, stripL_eq r]
theorem inbL_eq (n : Nat) : ∀ l, inbL n l = l.all (AV.inb n)
  | [] => rfl
  | v :: r => by simp [inbL, inbL_eq n r]

theorem ren_cells (s : Nat → Nat) (v : AV) : (v.ren s).cells = v.cells.map (AV.ren s) := by
  cases v <;> simp [AV.ren, AV.cells, renL_eq]
theorem strip_cells (v : AV) : v.strip.cells = v.cells.map AV.strip := by
  cases v <;> simp [AV.strip, AV.cells, stripL_eq]
theorem ren_one (s : Nat → Nat) (v : AV) : (v.ren s).one = v.one := by cases v <;> rfl
theorem strip_one (v : AV) : v.strip.one = v.one := by cases v <;> rfl
theorem flatMap_ren (s : Nat → Nat) (es : List AV) : (es.map (AV.ren s)).flatMap AV.cells = (es.flatMap AV.cells).map (AV.ren s) := by
  induction es with
  | nil => rfl
  | cons e es ih => simp [ih, ren_cells]
theorem flatMap_strip (es : List AV) : (es.map AV.strip).flatMap AV.cells = (es.flatMap AV.cells).map AV.strip := by
  induction es with
  | nil => rfl
  | cons e es ih => simp [ih, strip_cells]

section
variable {I : Imm} {m m' : Locs}

theorem map_rel {f : AV → AV} {cs : List AV} {vs : List Value} (hl : cs.length = vs.length) (h : ∀ (i : Nat) (a : AV) (x : Value), cs[i]? = some a → vs[i]? = some x → AVRel I m' (f a) x) : AVRels I m' (cs.map f) vs := by
  refine ⟨by simpa using hl, fun i a x ha hx => ?_⟩
  simp only [List.getElem?_map, Option.map_eq_some_iff] at ha
  obtain ⟨b, hb, rfl⟩ := ha
  exact h i b x hb hx

theorem AVRel.strip {v : AV} {x : Value} (h : AVRel I m v x) : AVRel I m v.strip x := by
  induction h with
  | sc x => exact .sc x
  | agg cs vs hl h1 h ih =>
    simp only [AV.strip, stripL_eq]
    have := map_rel hl ih
    exact .agg _ vs this.1 (fun c hc => by obtain ⟨d, hd, rfl⟩ := List.mem_map.1 hc; rw [strip_one]; exact h1 d hd) this.2
  | tup cs vs hl h ih =>
    simp only [AV.strip, stripL_eq]
    have := map_rel hl ih
    exact .tup _ vs this.1 this.2
  | slnil k => exact .slnil k
  | sl k es c a cap vs hc hle hk hw h1 hl h hI hs hcap ih =>
    simp only [AV.strip, stripL_eq]
    have := map_rel hl ih
    rw [← flatMap_strip] at this
    have e : es.length = (es.map AV.strip).length := by simp
    rw [e]
    refine .sl k _ _ a cap vs ?_ (by simpa using hle) hk (fun e he => ?_) (fun c hc => ?_) this.1 this.2 hI (fun hne => hs (by simpa using hne)) ?_
    · cases c <;> first | exact hc | (intro h; cases h)
    · obtain ⟨d, hd, rfl⟩ := List.mem_map.1 he; rw [strip_cells]; simpa using hw d hd
    · rw [flatMap_strip] at hc
      obtain ⟨d, hd, rfl⟩ := List.mem_map.1 hc; rw [strip_one]; exact h1 d hd
    · cases c <;> first | exact hcap | trivial | (simpa [Cap.strip, CapRel] using hcap)
  | ip v a vs h1 hl h hI hs ih =>
    have := map_rel hl ih
    rw [← strip_cells] at this
    exact .ip _ a vs (fun c hc => by rw [strip_cells] at hc; obtain ⟨d, hd, rfl⟩ := List.mem_map.1 hc; rw [strip_one]; exact h1 d hd) this.1 this.2 hI hs
  | ptr o g off a ho h => exact .ptr o g off a ho h
  | rf o g off len full a cap ho hle hf h => exact .rf o g off len full a cap ho hle hf h
  | mp o r ho h => exact .mp o r ho h
  | it o r ho h => exact .it o r ho h
  | yld o r ho h => exact .yld o r ho h
  | fn f first captured fs cs hl hl' h h' ih ih' =>
    simp only [AV.strip, stripL_eq]
    have h1 := map_rel hl ih
    have h2 := map_rel hl' ih'
    exact .fn f _ _ fs cs h1.1 h2.1 h1.2 h2.2
  | ifc t v x h ih => exact .ifc t _ x ih

/-- Names may turn, if what they name stays. -/
theorem AVRel.ren {s : Nat → Nat} (hs : ∀ (j : Nat) (l : Loc), m[j]? = some l → m'[s j]? = some l) {v : AV} {x : Value} (h : AVRel I m v x) : AVRel I m' (v.ren s) x := by
  have hlt : ∀ o, o < m.length → s o < m'.length ∧ m'[s o]? = m[o]? := fun o ho => by
    have := hs o m[o] (by simp [ho])
    exact ⟨(List.getElem?_eq_some_iff.1 this).1, by rw [this]; simp [ho]⟩
  have hptr : ∀ o g off a, o < m.length → PtrRel m o g off a → PtrRel m' (s o) g off a := fun o g off a ho h g' b lo n hm => by
    rw [(hlt o ho).2] at hm; exact h g' b lo n hm
  induction h with
  | sc x => exact .sc x
  | agg cs vs hl h1 h ih =>
    simp only [AV.ren, renL_eq]
    have := map_rel hl ih
    exact .agg _ vs this.1 (fun c hc => by obtain ⟨d, hd, rfl⟩ := List.mem_map.1 hc; rw [ren_one]; exact h1 d hd) this.2
  | tup cs vs hl h ih =>
    simp only [AV.ren, renL_eq]
    have := map_rel hl ih
    exact .tup _ vs this.1 this.2
  | slnil k => exact .slnil k
  | sl k es c a cap vs hc hle hk hw h1 hl h hI hsp hcap ih =>
    simp only [AV.ren, renL_eq]
    have := map_rel hl ih
    rw [← flatMap_ren] at this
    have e : es.length = (es.map (AV.ren s)).length := by simp
    rw [e]
    refine .sl k _ _ a cap vs ?_ (by simpa using hle) hk (fun e he => ?_) (fun c hc => ?_) this.1 this.2 hI (fun hne => hsp (by simpa using hne)) ?_
    · cases c <;> first | exact hc | (intro h; cases h)
    · obtain ⟨d, hd, rfl⟩ := List.mem_map.1 he; rw [ren_cells]; simpa using hw d hd
    · rw [flatMap_ren] at hc
      obtain ⟨d, hd, rfl⟩ := List.mem_map.1 hc; rw [ren_one]; exact h1 d hd
    · cases c with
      | tok t =>
        refine ⟨(hlt t hcap.1).1, fun n b s' e' hm => ?_⟩
        rw [(hlt t hcap.1).2] at hm
        have := hcap.2 n b s' e' hm
        simpa using this
      | nil => exact hcap
      | any => trivial
      | full => simpa [CapRel, Cap.ren] using hcap
  | ip v a vs h1 hl h hI hsp ih =>
    have := map_rel hl ih
    rw [← ren_cells] at this
    exact .ip _ a vs (fun c hc => by rw [ren_cells] at hc; obtain ⟨d, hd, rfl⟩ := List.mem_map.1 hc; rw [ren_one]; exact h1 d hd) this.1 this.2 hI hsp
  | ptr o g off a ho h => exact .ptr _ g off a (hlt o ho).1 (hptr o g off a ho h)
  | rf o g off len full a cap ho hle hf h => exact .rf _ g off len full a cap (hlt o ho).1 hle hf (fun hn => hptr o g off a ho (h hn))
  | mp o r ho h => exact .mp _ r (hlt o ho).1 (fun b hb => h b (by rw [← (hlt o ho).2]; exact hb))
  | it o r ho h => exact .it _ r (hlt o ho).1 (fun b hb => h b (by rw [← (hlt o ho).2]; exact hb))
  | yld o r ho h => exact .yld _ r (hlt o ho).1 (fun b hb => h b (by rw [← (hlt o ho).2]; exact hb))
  | fn f first captured fs cs hl hl' h h' ih ih' =>
    simp only [AV.ren, renL_eq]
    have h1 := map_rel hl ih
    have h2 := map_rel hl' ih'
    exact .fn f _ _ fs cs h1.1 h2.1 h1.2 h2.2
  | ifc t v x h ih => exact .ifc t _ x ih

/-- Fewer names, if none beyond is used. -/
theorem AVRel.cut {n : Nat} (hn : n ≤ m'.length) (hs : ∀ j, j < n → m'[j]? = m[j]?) {v : AV} {x : Value} (h : AVRel I m v x) (hb : v.inb n = true) : AVRel I m' v x := by
  have hptr : ∀ o g off a, o < n → PtrRel m o g off a → PtrRel m' o g off a := fun o g off a ho h g' b lo n hm => by
    rw [hs o ho] at hm; exact h g' b lo n hm
  have hmem : ∀ {cs : List AV} {vs : List Value}, inbL n cs = true → (∀ (i : Nat) (a : AV) (x : Value), cs[i]? = some a → vs[i]? = some x → a.inb n = true → AVRel I m' a x) →
      ∀ (i : Nat) (a : AV) (x : Value), cs[i]? = some a → vs[i]? = some x → AVRel I m' a x := by
    intro cs vs hbl ih i a x ha hx
    rw [inbL_eq, List.all_eq_true] at hbl
    exact ih i a x ha hx (hbl a (List.mem_of_getElem? ha))
  have hflat : ∀ (es : List AV), inbL n es = true → inbL n (es.flatMap AV.cells) = true := by
    intro es
    induction es with
    | nil => intro _; rfl
    | cons e es ih =>
      intro hb
      simp only [inbL, Bool.and_eq_true] at hb
      rw [inbL_eq, List.flatMap_cons, List.all_append, Bool.and_eq_true]
      refine ⟨?_, by rw [← inbL_eq]; exact ih hb.2⟩
      cases e <;> simp_all [AV.cells, AV.inb, inbL_eq]
  induction h with
  | sc x => exact .sc x
  | agg cs vs hl h1 h ih => exact .agg cs vs hl h1 (hmem (by simpa [AV.inb] using hb) ih)
  | tup cs vs hl h ih => exact .tup cs vs hl (hmem (by simpa [AV.inb] using hb) ih)
  | slnil k => exact .slnil k
  | sl k es c a cap vs hc hle hk hw h1 hl h hI hsp hcap ih =>
    simp only [AV.inb, Bool.and_eq_true] at hb
    refine .sl k es c a cap vs hc hle hk hw h1 hl (hmem (hflat es hb.1) ih) hI hsp ?_
    cases c with
    | tok t =>
      have ht : t < n := by simpa [Cap.inb] using hb.2
      refine ⟨by omega, fun n' b s' e' hm => ?_⟩
      rw [hs t ht] at hm
      exact hcap.2 n' b s' e' hm
    | nil => exact hcap
    | any => trivial
    | full => exact hcap
  | ip v a vs h1 hl h hI hsp ih =>
    refine .ip v a vs h1 hl (hmem ?_ ih) hI hsp
    have := hflat [v] (by simpa [AV.inb, inbL] using hb)
    simpa using this
  | ptr o g off a ho h => have : o < n := by simpa [AV.inb] using hb
                          exact .ptr o g off a (by omega) (hptr o g off a this h)
  | rf o g off len full a cap ho hle hf h => have : o < n := by simpa [AV.inb] using hb
                                             exact .rf o g off len full a cap (by omega) hle hf (fun hne => hptr o g off a this (h hne))
  | mp o r ho h => have : o < n := by simpa [AV.inb] using hb
                   exact .mp o r (by omega) (fun b hb' => h b (by rw [← hs o this]; exact hb'))
  | it o r ho h => have : o < n := by simpa [AV.inb] using hb
                   exact .it o r (by omega) (fun b hb' => h b (by rw [← hs o this]; exact hb'))
  | yld o r ho h => have : o < n := by simpa [AV.inb] using hb
                    exact .yld o r (by omega) (fun b hb' => h b (by rw [← hs o this]; exact hb'))
  | fn f first captured fs cs hl hl' h h' ih ih' =>
    simp only [AV.inb, Bool.and_eq_true] at hb
    exact .fn f first captured fs cs hl hl' (hmem hb.1 ih) (hmem hb.2 ih')
  | ifc t v x h ih => exact .ifc t v x (ih hb)

theorem AVRels.cut {n : Nat} (hn : n ≤ m'.length) (hs : ∀ j, j < n → m'[j]? = m[j]?) {cs : List AV} {vs : List Value} (h : AVRels I m cs vs) (hb : inbL n cs = true) : AVRels I m' cs vs := by
  rw [inbL_eq, List.all_eq_true] at hb
  exact ⟨h.1, fun i a x ha hx => (h.2 i a x ha hx).cut hn hs (hb a (List.mem_of_getElem? ha))⟩
end

/-! ## objects -/
theorem Env.get_mem : ∀ {env : Env} {t : Nat} {v : AV}, env.get t = some v → (t, v) ∈ env
  | (k, u) :: r, t, v, h => by
    simp only [Env.get] at h
    split at h
    · rename_i e; subst e; simp at h; subst h; simp
    · exact List.mem_cons_of_mem _ (Env.get_mem h)
theorem Env.get_map {f : AV → AV} : ∀ {env : Env} {t : Nat} {v : AV}, Env.get (env.map fun p => (p.1, f p.2)) t = some v → ∃ u, env.get t = some u ∧ v = f u
  | (k, u) :: r, t, v, h => by
    simp only [List.map_cons, Env.get] at h ⊢
    split at h
    · rename_i e; simp at h; exact ⟨u, by rw [if_pos e], h.symm⟩
    · rename_i e; rw [if_neg e]; exact Env.get_map h
theorem Env.get_map' {f : AV → AV} : ∀ {env : Env} {t : Nat}, Env.get (env.map fun p => (p.1, f p.2)) t = (env.get t).map f
  | [], t => rfl
  | (k, u) :: r, t => by
    simp only [List.map_cons, Env.get]
    split
    · rfl
    · exact Env.get_map'

def AObj.inb (n : Nat) : AObj → Bool
  | .dead => true
  | .cells _ cs => inbL n cs
  | .tok _ => true
  | .amap es => es.all fun p => p.1.inb n && p.2.inb n
  | .loop env _ _ _ => env.all fun p => p.1 == dslot || (match env.get p.1 with | some v => v.inb n | none => true)
  | .queue => true
def AObj.ren (s : Nat → Nat) : AObj → AObj
  | .dead => .dead
  | .cells g cs => .cells g (renL s cs)
  | .tok n => .tok n
  | .amap es => .amap (es.map fun p => (p.1.ren s, p.2.ren s))
  | .loop env x st pd => .loop (env.map fun p => (p.1, p.2.ren s)) x st pd
  | .queue => .queue

theorem loop_inb {n : Nat} {env : Env} {x : LoopX} {st : LoopState} {pd : Option Code} (hb : (AObj.loop env x st pd).inb n = true) {t : Nat} {v : AV} (ht : t ≠ dslot) (hv : env.get t = some v) : v.inb n = true := by
  simp only [AObj.inb, List.all_eq_true] at hb
  have := hb (t, v) (Env.get_mem hv)
  simpa [ht, hv] using this

theorem ObjRel.cut {I : Imm} {m m' : Locs} {w : World} {o : AObj} {l : Loc} {n : Nat} (hn : n ≤ m'.length) (hs : ∀ j, j < n → m'[j]? = m[j]?) (h : ObjRel I m w o l) (hb : o.inb n = true) : ObjRel I m' w o l := by
  cases o with
  | dead => exact h
  | cells g cs =>
    obtain ⟨b, lo, n', vs, rfl, hle, hr, rest⟩ := h
    exact ⟨b, lo, n', vs, rfl, hle, hr.cut hn hs hb, rest⟩
  | tok n => exact h
  | amap es =>
    obtain ⟨b, ents, clock, rfl, h1, h2, h3, h4, h5⟩ := h
    refine ⟨b, ents, clock, rfl, h1, h2, fun i p e hp he => ?_, h4, h5⟩
    simp only [AObj.inb, List.all_eq_true, Bool.and_eq_true] at hb
    obtain ⟨b1, b2⟩ := hb p (List.mem_of_getElem? hp)
    exact ⟨(h3 i p e hp he).1.cut hn hs b1, (h3 i p e hp he).2.cut hn hs b2⟩
  | loop env x st pd =>
    obtain ⟨b, d, rfl, h1, h2⟩ := h
    refine ⟨b, d, rfl, h1, fun t v ht hv => ?_⟩
    obtain ⟨y, hy, hr⟩ := h2 t v ht hv
    exact ⟨y, hy, hr.cut hn hs (loop_inb hb ht hv)⟩
  | queue => exact h

theorem ObjRel.ren {I : Imm} {m m' : Locs} {w : World} {o : AObj} {l : Loc} {s : Nat → Nat} (hs : ∀ (j : Nat) (l : Loc), m[j]? = some l → m'[s j]? = some l) (h : ObjRel I m w o l) : ObjRel I m' w (o.ren s) l := by
  cases o with
  | dead => exact h
  | cells g cs =>
    obtain ⟨b, lo, n', vs, rfl, hle, hr, h1, rest⟩ := h
    refine ⟨b, lo, n', vs, rfl, by simpa [renL_eq] using hle, ?_, fun c hc => ?_, rest⟩
    · rw [renL_eq]; exact map_rel hr.1 fun i a x ha hx => (hr.2 i a x ha hx).ren hs
    · rw [renL_eq] at hc; obtain ⟨d, hd, rfl⟩ := List.mem_map.1 hc; rw [ren_one]; exact h1 d hd
  | tok n => exact h
  | amap es =>
    obtain ⟨b, ents, clock, rfl, h1, h2, h3, h4, h5⟩ := h
    refine ⟨b, ents, clock, rfl, h1, by simpa using h2, fun i p e hp he => ?_, h4, h5⟩
    simp only [List.getElem?_map, Option.map_eq_some_iff] at hp
    obtain ⟨q, hq, rfl⟩ := hp
    exact ⟨(h3 i q e hq he).1.ren hs, (h3 i q e hq he).2.ren hs⟩
  | loop env x st pd =>
    obtain ⟨b, d, rfl, h1, h2⟩ := h
    refine ⟨b, d, rfl, h1, fun t v ht hv => ?_⟩
    obtain ⟨u, hu, rfl⟩ := Env.get_map hv
    obtain ⟨y, hy, hr⟩ := h2 t u ht hu
    exact ⟨y, hy, hr.ren hs⟩
  | queue => exact h

/-! what is related names nothing beyond -/
theorem inb_cells {n : Nat} {v : AV} (h : ∀ c ∈ v.cells, c.inb n = true) : v.inb n = true := by
  cases v <;> simp_all [AV.cells, AV.inb, inbL_eq]
theorem inb_all {n : Nat} {cs : List AV} {vs : List Value} (hl : cs.length = vs.length) (ih : ∀ (i : Nat) (a : AV) (x : Value), cs[i]? = some a → vs[i]? = some x → a.inb n = true) : ∀ c ∈ cs, c.inb n = true := by
  intro c hc
  obtain ⟨i, hi⟩ := List.getElem?_of_mem hc
  have hlt := (List.getElem?_eq_some_iff.1 hi).1
  exact ih i c vs[i] hi (by simp)
theorem AVRel.inb {I : Imm} {m : Locs} {n : Nat} (hn : m.length ≤ n) {v : AV} {x : Value} (h : AVRel I m v x) : v.inb n = true := by
  induction h with
  | sc x => rfl
  | agg cs vs hl h1 h ih => simp only [AV.inb, inbL_eq, List.all_eq_true]; exact inb_all hl ih
  | tup cs vs hl h ih => simp only [AV.inb, inbL_eq, List.all_eq_true]; exact inb_all hl ih
  | slnil k => rfl
  | sl k es c a cap vs hc hle hk hw h1 hl h hI hs hcap ih =>
    simp only [AV.inb, inbL_eq, Bool.and_eq_true, List.all_eq_true]
    refine ⟨fun e he => inb_cells fun d hd => inb_all hl ih d (List.mem_flatMap.2 ⟨e, he, hd⟩), ?_⟩
    cases c with
    | tok t => have := hcap.1; simp only [Cap.inb, decide_eq_true_eq]; omega
    | _ => rfl
  | ip v a vs h1 hl h hI hs ih => simp only [AV.inb]; exact inb_cells (inb_all hl ih)
  | ptr o g off a ho h => simp only [AV.inb, decide_eq_true_eq]; omega
  | rf o g off len full a cap ho hle hf h => simp only [AV.inb, decide_eq_true_eq]; omega
  | mp o r ho h => simp only [AV.inb, decide_eq_true_eq]; omega
  | it o r ho h => simp only [AV.inb, decide_eq_true_eq]; omega
  | yld o r ho h => simp only [AV.inb, decide_eq_true_eq]; omega
  | fn f first captured fs cs hl hl' h h' ih ih' =>
    simp only [AV.inb, inbL_eq, Bool.and_eq_true, List.all_eq_true]
    exact ⟨inb_all hl ih, inb_all hl' ih'⟩
  | ifc t v x h ih => exact ih
theorem ObjRel.inb {I : Imm} {m : Locs} {w : World} {n : Nat} (hn : m.length ≤ n) {o : AObj} {l : Loc} (h : ObjRel I m w o l) : o.inb n = true := by
  cases o with
  | dead => rfl
  | cells g cs =>
    obtain ⟨b, lo, n', vs, rfl, hle, hr, rest⟩ := h
    simp only [AObj.inb, inbL_eq, List.all_eq_true]
    exact inb_all hr.1 fun i a x ha hx => (hr.2 i a x ha hx).inb hn
  | tok n => rfl
  | amap es =>
    obtain ⟨b, ents, clock, rfl, h1, h2, h3, h4, h5⟩ := h
    simp only [AObj.inb, List.all_eq_true, Bool.and_eq_true]
    intro p hp
    obtain ⟨i, hi⟩ := List.getElem?_of_mem hp
    have hlt := (List.getElem?_eq_some_iff.1 hi).1
    have := h3 i p ents[i] hi (by simp)
    exact ⟨this.1.inb hn, this.2.inb hn⟩
  | loop env x st pd =>
    obtain ⟨b, d, rfl, h1, h2⟩ := h
    simp only [AObj.inb, List.all_eq_true]
    intro p hp
    by_cases hd : p.1 = dslot
    · simp [hd]
    · cases hg : env.get p.1 with
      | none => simp
      | some v =>
        obtain ⟨y, hy, hr⟩ := h2 p.1 v hd hg
        simp [hr.inb hn]
  | queue => rfl

/-- Objects beyond a number are forgotten. -/
theorem Inv.take {G : Globs} {I : Imm} {m : Locs} {h : AHeap} {w : World} (hv : Inv G I m h w) (n : Nat) (hb : ∀ (i : Nat) (o : AObj), i < n → h[i]? = some o → o.inb n = true) (hn : n ≤ h.length) : Inv G I (m.take n) (h.take n) w where
  len := by simp [hv.len]
  obj i o l ho hl := by
    rw [List.getElem?_take] at ho hl
    split at ho
    · rename_i hi
      rw [if_pos hi] at hl
      have hbo := hb i o hi ho
      exact (hv.obj i o l ho hl).cut (n := n) (by simp; have := hv.len; omega) (fun j hj => by rw [List.getElem?_take, if_pos hj]) hbo
    · cases ho
  imm := hv.imm
  disj i j l l' b o hi hj := by
    rw [List.getElem?_take] at hi hj
    split at hi
    · split at hj
      · exact hv.disj i j l l' b o hi hj
      · cases hj
    · cases hi
  immd i l b o hi := by
    rw [List.getElem?_take] at hi
    split at hi
    · exact hv.immd i l b o hi
    · cases hi
  lt i l b o hi := by
    rw [List.getElem?_take] at hi
    split at hi
    · exact hv.lt i l b o hi
    · cases hi
  glob := hv.glob

theorem Trans.take {k n : Nat} {I I' : Imm} {m m' : Locs} {w w' : World} (h : Trans k I m w I' m' w') (hk : k ≤ n) : Trans k I m w I' (m'.take n) w' :=
  { h with
    own := fun i l b o hi => by
      rw [List.getElem?_take] at hi
      split at hi
      · exact h.own i l b o hi
      · cases hi
    loc := fun i l hi hl => by
      obtain ⟨l', h1, h2⟩ := h.loc i l hi hl
      exact ⟨l', by rw [List.getElem?_take, if_pos (by omega)]; exact h1, h2⟩ }

/-! ## calls -/
inductive AEnd where
  | ret (v : AV)
  | pan (v : AV)

def EndRel (I : Imm) (m : Locs) : AEnd → Ending → Prop
  | .ret v, .returned x => AVRel I m v x
  | .pan v, .panicked ch => ∃ x, ch = [{ v := x, recovered := false }] ∧ AVRel I m v x
  | _, _ => False
def AEnd.ren (s : Nat → Nat) : AEnd → AEnd
  | .ret v => .ret (v.ren s)
  | .pan v => .pan (v.ren s)

def hasBody (P : Program) (f : FuncId) : Bool :=
  match P.funcs[f]? with
  | some fn => fn.body.isSome && !(fn.name == "runtime.NumGoroutine")
  | none => false

/-- THE CONTRACT of a call, in abstract terms. -/
def ACalls (P : Program) (G : Globs) (f : FuncId) (args : List AV) (h : AHeap) (R : AEnd → AHeap → Prop) : Prop :=
  hasBody P f = true ∧ ∀ (I : Imm) (m : Locs) (w : World) (vs : List Value), Inv G I m h w → AVRels I m args vs →
    Calls P f vs.toArray w fun e w' => ∃ r h' I' m', R r h' ∧ EndRel I' m' r e ∧ Inv G I' m' h' w' ∧ Trans h.length I m w I' m' w'

theorem ACalls.mono {P : Program} {G : Globs} {f : FuncId} {args : List AV} {h : AHeap} {R R' : AEnd → AHeap → Prop} (hc : ACalls P G f args h R) (hr : ∀ r h', R r h' → R' r h') : ACalls P G f args h R' :=
  ⟨hc.1, fun I m w vs hi ha => (hc.2 I m w vs hi ha).mono fun e w' ⟨r, h', I', m', h1, h2⟩ => ⟨r, h', I', m', hr _ _ h1, h2⟩⟩

end Go.Apx
