/- ABSTRACT MACHINE, part 2: monotony; abstract heaps and their relation to worlds; what a step of the world may change. -/
import Derived.Test.YtbijnfhclfimeaaDoorAm1
namespace Go.Apx
set_option linter.unusedVariables false

theorem CapRel.mono {m m' : Locs} (hm : LocsLe m m') {a : Addr} {len k cap : Nat} {c : Cap} (h : CapRel m a len k cap c) : CapRel m' a len k cap c := by
  cases c with
  | nil => exact h
  | any => exact h
  | full => exact h
  | tok t =>
    obtain ⟨ht, h⟩ := h
    refine ⟨hm.lt ht, fun n b s e h' => ?_⟩
    rcases hm.tok ht h' with h1 | ⟨n', b', s', e', h1, hlt⟩
    · exact h _ _ _ _ h1
    · have := (h _ _ _ _ h1).1
      exact ⟨by omega, fun hn => by omega⟩

theorem PtrRel.mono {m m' : Locs} (hm : LocsLe m m') {o g off : Nat} {a : Addr} (ho : o < m.length) (h : PtrRel m o g off a) : PtrRel m' o g off a := by
  intro g' b lo n h'
  rcases hm.cells ho h' with h1 | ⟨g'', b', lo', n', h1, hlt⟩
  · exact h _ _ _ _ h1
  · have := (h _ _ _ _ h1).1
    exact ⟨by omega, fun hn => by omega⟩

theorem Lies.mono {I I' : Imm} (hI : ImmLe I I') {b off : Nat} {vs : List Value} (h : Lies I b off vs) : Lies I' b off vs :=
  fun i x hx => hI _ _ _ (h i x hx)

theorem AVRel.mono {I I' : Imm} {m m' : Locs} (hI : ImmLe I I') (hm : LocsLe m m') {v : AV} {x : Value} (h : AVRel I m v x) : AVRel I' m' v x := by
  induction h with
  | sc x => exact .sc x
  | agg cs vs hl h1 h ih => exact .agg cs vs hl h1 ih
  | tup cs vs hl h ih => exact .tup cs vs hl ih
  | slnil k => exact .slnil k
  | sl k es c a cap vs hc hle hk hw h1 hl h hI' hs hcap ih => exact .sl k es c a cap vs hc hle hk hw h1 hl ih (hI'.mono hI) hs (hcap.mono hm)
  | ip v a vs h1 hl h hI' hs ih => exact .ip v a vs h1 hl ih (hI'.mono hI) hs
  | ptr o g off a ho h => exact .ptr o g off a (hm.lt ho) (h.mono hm ho)
  | rf o g off len full a cap ho hle hf h => exact .rf o g off len full a cap (hm.lt ho) hle hf (fun hn => (h hn).mono hm ho)
  | mp o r ho h => exact .mp o r (hm.lt ho) fun b hb => h b (hm.whole ho hb)
  | it o r ho h => exact .it o r (hm.lt ho) fun b hb => h b (hm.whole ho hb)
  | yld o r ho h => exact .yld o r (hm.lt ho) fun b hb => h b (hm.whole ho hb)
  | fn f first captured fs cs hl hl' h h' ih ih' => exact .fn f first captured fs cs hl hl' ih ih'
  | ifc t v x h ih => exact .ifc t v x ih

theorem AVRels.mono {I I' : Imm} {m m' : Locs} (hI : ImmLe I I') (hm : LocsLe m m') {cs : List AV} {vs : List Value} (h : AVRels I m cs vs) : AVRels I' m' cs vs :=
  ⟨h.1, fun i a x ha hx => (h.2 i a x ha hx).mono hI hm⟩

theorem AVRels.nil {I : Imm} {m : Locs} : AVRels I m [] [] := ⟨rfl, fun i a x ha => by simp at ha⟩
theorem AVRels.cons {I : Imm} {m : Locs} {c : AV} {v : Value} {cs : List AV} {vs : List Value} (h : AVRel I m c v) (hs : AVRels I m cs vs) : AVRels I m (c :: cs) (v :: vs) := by
  refine ⟨by simp [hs.1], fun i a x ha hx => ?_⟩
  cases i with
  | zero => simp at ha hx; subst ha hx; exact h
  | succ i => exact hs.2 i a x (by simpa using ha) (by simpa using hx)
theorem AVRels.cons_iff {I : Imm} {m : Locs} {c : AV} {cs : List AV} {vs : List Value} :
    AVRels I m (c :: cs) vs ↔ ∃ v vs', vs = v :: vs' ∧ AVRel I m c v ∧ AVRels I m cs vs' := by
  constructor
  · rintro ⟨hl, h⟩
    cases vs with
    | nil => simp at hl
    | cons v vs' =>
      exact ⟨v, vs', rfl, h 0 c v rfl rfl, by simpa using hl, fun i a x ha hx => h (i + 1) a x (by simpa using ha) (by simpa using hx)⟩
  · rintro ⟨v, vs', rfl, h, hs⟩; exact .cons h hs
theorem AVRels.nil_iff {I : Imm} {m : Locs} {vs : List Value} : AVRels I m [] vs ↔ vs = [] :=
  ⟨fun h => List.length_eq_zero_iff.1 h.1.symm, fun h => h ▸ .nil⟩
theorem AVRels.append {I : Imm} {m : Locs} {cs ds : List AV} {vs us : List Value} (h : AVRels I m cs vs) (h' : AVRels I m ds us) : AVRels I m (cs ++ ds) (vs ++ us) := by
  induction cs generalizing vs with
  | nil => obtain rfl := AVRels.nil_iff.1 h; exact h'
  | cons c cs ih =>
    obtain ⟨v, vs', rfl, h1, h2⟩ := AVRels.cons_iff.1 h
    exact .cons h1 (ih h2)
theorem AVRels.take {I : Imm} {m : Locs} {cs : List AV} {vs : List Value} (h : AVRels I m cs vs) (n : Nat) : AVRels I m (cs.take n) (vs.take n) := by
  refine ⟨by simp [h.1], fun i a x ha hx => ?_⟩
  simp only [List.getElem?_take] at ha hx
  split at ha <;> simp_all
  exact h.2 i a x ha hx
theorem AVRels.drop {I : Imm} {m : Locs} {cs : List AV} {vs : List Value} (h : AVRels I m cs vs) (n : Nat) : AVRels I m (cs.drop n) (vs.drop n) := by
  refine ⟨by simp [h.1], fun i a x ha hx => ?_⟩
  simp only [List.getElem?_drop] at ha hx
  exact h.2 _ a x ha hx
theorem AVRels.get {I : Imm} {m : Locs} {cs : List AV} {vs : List Value} (h : AVRels I m cs vs) {i : Nat} {c : AV} (hc : cs[i]? = some c) :
    ∃ v, vs[i]? = some v ∧ AVRel I m c v := by
  have hi := (List.getElem?_eq_some_iff.1 hc).1
  have hi' : i < vs.length := h.1 ▸ hi
  exact ⟨vs[i], by simp [hi'], h.2 i c vs[i] hc (by simp [hi'])⟩
theorem AVRels.set {I : Imm} {m : Locs} {cs : List AV} {vs : List Value} (h : AVRels I m cs vs) {c : AV} {v : Value} (hv : AVRel I m c v) (i : Nat) :
    AVRels I m (cs.set i c) (vs.set i v) := by
  refine ⟨by simp [h.1], fun j a x ha hx => ?_⟩
  simp only [List.getElem?_set] at ha hx
  split at ha
  · rename_i e; subst e
    simp at ha hx
    have h1 := h.1
    by_cases hlt : i < cs.length
    · simp [hlt] at ha; simp [h1 ▸ hlt] at hx; subst ha hx; exact hv
    · simp [hlt] at ha
  · rename_i e
    simp [e] at hx
    exact h.2 j a x ha hx

theorem AVRel.oneCell {I : Imm} {m : Locs} {c : AV} {v : Value} (h : AVRel I m c v) (h1 : c.one = true) : v.oneCell' = true := by
  cases h <;> first | exact h1 | rfl | exact absurd h1 (by simp [AV.one])

/-! ## environments -/
abbrev Env := List (Nat × AV)
def Env.get : Env → Nat → Option AV
  | [], _ => none
  | (k, v) :: r, t => if t = k then some v else Env.get r t
def Env.put : Env → Nat → AV → Env
  | [], t, v => [(t, v)]
  | (k, u) :: r, t, v => if t = k then (k, v) :: r else (k, u) :: Env.put r t v
def Env.del : Env → Nat → Env
  | [], _ => []
  | (k, u) :: r, t => if t = k then Env.del r t else (k, u) :: Env.del r t

theorem Env.get_put (e : Env) (t u : Nat) (v : AV) : (e.put t v).get u = if u = t then some v else e.get u := by
  induction e with
  | nil => rfl
  | cons p r ih =>
    obtain ⟨k, x⟩ := p
    simp only [Env.put]
    split
    · rename_i h; subst h; simp only [Env.get]; split <;> rfl
    · rename_i h
      simp only [Env.get, ih]
      split
      · rename_i h'; subst h'; rw [if_neg (Ne.symm h)]
      · rfl
theorem Env.get_del (e : Env) (t u : Nat) : (e.del t).get u = if u = t then none else e.get u := by
  induction e with
  | nil => simp [Env.del, Env.get]
  | cons p r ih =>
    obtain ⟨k, x⟩ := p
    simp only [Env.del]
    split
    · rename_i h; subst h; rw [ih]; simp only [Env.get]; split <;> rfl
    · rename_i h
      simp only [Env.get, ih]
      split
      · rename_i h'; subst h'; rw [if_neg (Ne.symm h)]
      · rfl

/-- The slot that no operation knows: the deferred calls. -/
def dslot : Nat := 1000000

/-! ## abstract heaps -/
/-- What the record of a range over a function holds for good. -/
structure LoopX where
  fn : FuncId
  tmps : Array Value
  params : Array Tmp
  assign : Code
  body : Code

inductive AObj where
  | dead
  | cells (g : Nat) (cs : List AV)
  | tok (n : Nat)
  | amap (es : List (AV × AV))
  | loop (env : Env) (x : LoopX) (st : LoopState) (pd : Option Code)
  | queue

abbrev AHeap := List AObj

def MapRel (I : Imm) (m : Locs) (es : List (AV × AV)) (ents : List MapEntry) (clock : Nat) : Prop :=
  es.length = ents.length ∧ (∀ (i : Nat) (p : AV × AV) (e : MapEntry), es[i]? = some p → ents[i]? = some e → AVRel I m p.1 e.key ∧ AVRel I m p.2 e.val) ∧
  (∀ e ∈ ents, e.born < clock) ∧ ents.Pairwise (fun a b => a.born ≠ b.born)

def ObjRel (I : Imm) (m : Locs) (w : World) : AObj → Loc → Prop
  | .dead, l => l = .dead
  | .cells g cs, l => ∃ b lo n vs, l = .cells g b lo n ∧ cs.length ≤ n ∧ AVRels I m cs vs ∧ (∀ c ∈ cs, c.one = true) ∧
      (∀ (i : Nat) (x : Value), vs[i]? = some x → w.cell? ⟨b, lo + i, none⟩ = some x) ∧
      (∀ i, i < n → (w.cell? ⟨b, lo + i, none⟩).isSome = true ∧ w.frozen? ⟨b, lo + i, none⟩ = false)
  | .tok n, l => ∃ b s e, l = .tok n b s e ∧ s ≤ e ∧ (∀ o, s ≤ o → o < e → (w.cell? ⟨b, o, none⟩).isSome = true ∧ w.frozen? ⟨b, o, none⟩ = false)
  | .amap es, l => ∃ b ents clock, l = .whole b ∧ w.heap[b]? = some (.map ents clock) ∧ MapRel I m es ents.toList clock
  | .loop env x st pd, l => ∃ b d, l = .whole b ∧ w.heap[b]? = some (.loop { state := st, pending := pd, fn := x.fn, tmps := x.tmps, params := x.params, assign := x.assign, body := x.body, defers := d }) ∧
      ∀ t v, t ≠ dslot → env.get t = some v → ∃ y, x.tmps[t]? = some y ∧ AVRel I m v y
  | .queue, l => ∃ b, l = .whole b ∧ w.heap[b]? = some (.deferred (some []))

abbrev Globs := Nat → Option AV

structure Inv (G : Globs) (I : Imm) (m : Locs) (h : AHeap) (w : World) : Prop where
  len : m.length = h.length
  obj : ∀ (i : Nat) (o : AObj) (l : Loc), h[i]? = some o → m[i]? = some l → ObjRel I m w o l
  imm : ∀ b o v, I b o = some v → w.cell? ⟨b, o, none⟩ = some v
  disj : ∀ (i j : Nat) (l l' : Loc) (b o : Nat), m[i]? = some l → m[j]? = some l' → l.owns b o → l'.owns b o → i = j
  immd : ∀ (i : Nat) (l : Loc) (b o : Nat), m[i]? = some l → l.owns b o → I b o = none
  lt : ∀ (i : Nat) (l : Loc) (b o : Nat), m[i]? = some l → l.owns b o → b < w.heap.size
  glob : ∀ g v, G g = some v → ∀ m', AVRel I m' v (.pointer (some ⟨g, 0, none⟩))

/-- What a run may change: nothing but what the objects own, and new blocks; 'k': how many objects are the caller's. -/
structure Trans (k : Nat) (I : Imm) (m : Locs) (w : World) (I' : Imm) (m' : Locs) (w' : World) : Prop where
  os : w'.os = w.os
  tape : w'.tape = w.tape
  output : w'.output = w.output
  size : w.heap.size ≤ w'.heap.size
  cell : ∀ b o, b < w.heap.size → (∀ (i : Nat) (l : Loc), m[i]? = some l → ¬ l.owns b o) → w'.cell? ⟨b, o, none⟩ = w.cell? ⟨b, o, none⟩
  froz : ∀ a : Addr, a.block < w.heap.size → w'.frozen? a = w.frozen? a
  blk : ∀ b, b < w.heap.size → (∀ (i : Nat) (l : Loc) (o : Nat), m[i]? = some l → ¬ l.owns b o) → w'.heap[b]? = w.heap[b]?
  imm : ImmLe I I'
  own : ∀ (i : Nat) (l : Loc) (b o : Nat), m'[i]? = some l → l.owns b o → b < w.heap.size → ∃ (j : Nat) (l' : Loc), m[j]? = some l' ∧ l'.owns b o
  immNew : ∀ b o, b < w.heap.size → I' b o ≠ none → I b o ≠ none ∨ ∃ (j : Nat) (l' : Loc), m[j]? = some l' ∧ l'.owns b o
  loc : ∀ (i : Nat) (l : Loc), i < k → m[i]? = some l → ∃ l', m'[i]? = some l' ∧ LocLe l l'

theorem Trans.refl (k : Nat) (I : Imm) (m : Locs) (w : World) : Trans k I m w I m w :=
  { os := rfl, tape := rfl, output := rfl, size := Nat.le_refl _, cell := fun _ _ _ _ => rfl, froz := fun _ _ => rfl, blk := fun _ _ _ => rfl,
    imm := .refl I, own := fun i l b o h h' _ => ⟨i, l, h, h'⟩, immNew := fun _ _ _ h => .inl h, loc := fun i l _ h => ⟨l, h, .refl l⟩ }

theorem Trans.trans {k : Nat} {I I' I'' : Imm} {m m' m'' : Locs} {w w' w'' : World} (h : Trans k I m w I' m' w') (h' : Trans k I' m' w' I'' m'' w'') : Trans k I m w I'' m'' w'' where
  os := h'.os.trans h.os
  tape := h'.tape.trans h.tape
  output := h'.output.trans h.output
  size := Nat.le_trans h.size h'.size
  cell b o hb hn := by
    have hb' := Nat.lt_of_lt_of_le hb h.size
    rw [h'.cell b o hb' fun i l hi ho => ?_, h.cell b o hb hn]
    obtain ⟨j, l', hj, ho'⟩ := h.own i l b o hi ho hb
    exact hn j l' hj ho'
  froz a ha := (h'.froz a (Nat.lt_of_lt_of_le ha h.size)).trans (h.froz a ha)
  blk b hb hn := by
    have hb' := Nat.lt_of_lt_of_le hb h.size
    rw [h'.blk b hb' fun i l o hi ho => ?_, h.blk b hb hn]
    obtain ⟨j, l', hj, ho'⟩ := h.own i l b o hi ho hb
    exact hn j l' o hj ho'
  imm := h.imm.trans h'.imm
  own i l b o hi ho hb := by
    obtain ⟨j, l', hj, ho'⟩ := h'.own i l b o hi ho (Nat.lt_of_lt_of_le hb h.size)
    exact h.own j l' b o hj ho' hb
  immNew b o hb hI := by
    rcases h'.immNew b o (Nat.lt_of_lt_of_le hb h.size) hI with h1 | ⟨j, l', hj, ho'⟩
    · exact h.immNew b o hb h1
    · exact .inr (h.own j l' b o hj ho' hb)
  loc i l hi hl := by
    obtain ⟨l', h1, h2⟩ := h.loc i l hi hl
    obtain ⟨l'', h3, h4⟩ := h'.loc i l' hi h1
    exact ⟨l'', h3, h2.trans h4⟩

theorem Trans.mono {k k' : Nat} {I I' : Imm} {m m' : Locs} {w w' : World} (h : Trans k I m w I' m' w') (hk : k' ≤ k) : Trans k' I m w I' m' w' :=
  { h with loc := fun i l hi => h.loc i l (Nat.lt_of_lt_of_le hi hk) }

/-! ## frames -/
/-- A slot that holds a block from number S on which nobody knows of. -/
def Pend (S : Nat) (I : Imm) (m : Locs) (w : World) (B n : Nat) : Prop :=
  (S ≤ B ∧ B < w.heap.size) ∧ (∀ i, i < n → (w.cell? ⟨B, i, none⟩).isSome = true ∧ w.frozen? ⟨B, i, none⟩ = false) ∧ (∀ o, I B o = none) ∧
  (∀ (i : Nat) (l : Loc) (o : Nat), m[i]? = some l → ¬ l.owns B o)

def SlotRel (S : Nat) (I : Imm) (m : Locs) (w : World) (v : AV) (x : Value) : Prop :=
  match v with
  | .pend n => ∃ B, x = .pointer (some ⟨B, 0, none⟩) ∧ Pend S I m w B n
  | v => AVRel I m v x

structure EnvRel (S : Nat) (I : Imm) (m : Locs) (w : World) (env : Env) (tmps : Array Value) : Prop where
  get : ∀ t v, t ≠ dslot → env.get t = some v → ∃ x, tmps[t]? = some x ∧ SlotRel S I m w v x
  apart : ∀ t t' n n' B, env.get t = some (.pend n) → env.get t' = some (.pend n') → tmps[t]? = some (.pointer (some ⟨B, 0, none⟩)) →
    tmps[t']? = some (.pointer (some ⟨B, 0, none⟩)) → t = t'

theorem AVRel.not_pend {I : Imm} {m : Locs} {n : Nat} {x : Value} (h : AVRel I m (.pend n) x) : False := by cases h

theorem SlotRel.of_rel {S : Nat} {I : Imm} {m : Locs} {w : World} {v : AV} {x : Value} (h : AVRel I m v x) : SlotRel S I m w v x := by
  cases v <;> first | exact h | exact h.not_pend.elim

theorem Pend.trans {S k : Nat} {I I' : Imm} {m m' : Locs} {w w' : World} {B n : Nat} (h : Pend S I m w B n) (ht : Trans k I m w I' m' w') : Pend S I' m' w' B n := by
  obtain ⟨⟨h0, h1⟩, h2, h3, h4⟩ := h
  refine ⟨⟨h0, Nat.lt_of_lt_of_le h1 ht.size⟩, fun i hi => ?_, fun o => ?_, fun i l o hi ho => ?_⟩
  · rw [ht.cell B i h1 fun j l hj => h4 j l i hj, ht.froz _ h1]; exact h2 i hi
  · cases hc : I' B o with
    | none => rfl
    | some x =>
      rcases ht.immNew B o h1 (by simp [hc]) with h | ⟨j, l', hj, ho'⟩
      · exact (h (h3 o)).elim
      · exact (h4 j l' o hj ho').elim
  · obtain ⟨j, l', hj, ho'⟩ := ht.own i l B o hi ho h1
    exact h4 j l' o hj ho'

theorem SlotRel.trans {S k : Nat} {I I' : Imm} {m m' : Locs} {w w' : World} {v : AV} {x : Value} (h : SlotRel S I m w v x) (ht : Trans k I m w I' m' w')
    (hm : LocsLe m m') : SlotRel S I' m' w' v x := by
  cases v with
  | pend n => obtain ⟨B, hx, hp⟩ := h; exact ⟨B, hx, hp.trans ht⟩
  | _ => exact AVRel.mono ht.imm hm h

theorem EnvRel.trans {S k : Nat} {I I' : Imm} {m m' : Locs} {w w' : World} {env : Env} {tmps : Array Value} (h : EnvRel S I m w env tmps) (ht : Trans k I m w I' m' w')
    (hm : LocsLe m m') : EnvRel S I' m' w' env tmps :=
  ⟨fun t v hd hv => let ⟨x, hx, hs⟩ := h.get t v hd hv; ⟨x, hx, hs.trans ht hm⟩, h.apart⟩

/-- A slot gets a value that is no new block. -/
theorem EnvRel.put {S : Nat} {I : Imm} {m : Locs} {w : World} {env : Env} {tmps : Array Value} (h : EnvRel S I m w env tmps) {t : Nat} {v : AV} {x : Value} (hv : AVRel I m v x)
    (ht : t < tmps.size) : EnvRel S I m w (env.put t v) (tmps.setIfInBounds t x) := by
  have hg : ∀ u, (tmps.setIfInBounds t x)[u]? = if u = t then some x else tmps[u]? := by
    intro u
    rw [Array.getElem?_setIfInBounds]
    by_cases h' : t = u
    · subst h'; simp [ht]
    · simp [h', Ne.symm h']
  refine ⟨fun u y hd hy => ?_, fun u u' n n' B hu hu' hx hx' => ?_⟩
  · rw [Env.get_put] at hy
    rw [hg]
    split at hy
    · rename_i e; subst e; rw [if_pos rfl]; obtain rfl := Option.some.inj hy; exact ⟨x, rfl, .of_rel hv⟩
    · rename_i e; rw [if_neg e]; exact h.get u y hd hy
  · rw [Env.get_put] at hu hu'
    rw [hg] at hx hx'
    split at hu
    · obtain rfl := Option.some.inj hu; exact hv.not_pend.elim
    · split at hu'
      · obtain rfl := Option.some.inj hu'; exact hv.not_pend.elim
      · rename_i e e'
        rw [if_neg e] at hx; rw [if_neg e'] at hx'
        exact h.apart u u' n n' B hu hu' hx hx'

/-- Forgetting slots. -/
def EnvLe (e e' : Env) : Prop := (∀ t v, e.get t = some v → e'.get t = some v) ∧ e.get dslot = e'.get dslot
theorem EnvRel.weaken {S : Nat} {I : Imm} {m : Locs} {w : World} {env env' : Env} {tmps : Array Value} (h : EnvRel S I m w env tmps) (hle : EnvLe env' env) : EnvRel S I m w env' tmps :=
  ⟨fun t v hd hv => h.get t v hd (hle.1 t v hv), fun t t' n n' B ht ht' => h.apart t t' n n' B (hle.1 _ _ ht) (hle.1 _ _ ht')⟩

/-! ## deferred calls; the round that a frame is in -/
def DRel (I : Imm) (m : Locs) : AV → Deferred → Prop
  | .it o, d => ∃ r, d = { target := .collected r, args := #[] } ∧ o < m.length ∧ ∀ b, m[o]? = some (.whole b) → r = b
  | .tup (.fn (.func f) fa fb :: args), d => ∃ fs cs as, AVRels I m fa fs ∧ AVRels I m fb cs ∧ AVRels I m args as ∧ d = { target := .fn (.func f) cs.toArray, args := fs.toArray ++ as.toArray }
  | _, _ => False
def DefRel (I : Imm) (m : Locs) : Option AV → List Deferred → Prop
  | none, ds => ds = []
  | some (.tup l), ds => l.length = ds.length ∧ ∀ (i : Nat) (e : AV) (d : Deferred), l[i]? = some e → ds[i]? = some d → DRel I m e d
  | some _, _ => False
theorem DRel.mono {I I' : Imm} {m m' : Locs} (hI : ImmLe I I') (hm : LocsLe m m') {e : AV} {d : Deferred} (h : DRel I m e d) : DRel I' m' e d := by
  unfold DRel at h ⊢
  split at h
  · obtain ⟨r, h1, h2, h3⟩ := h
    exact ⟨r, h1, hm.lt h2, fun b hb => h3 b (hm.whole h2 hb)⟩
  · obtain ⟨fs, cs, as, h1, h2, h3, h4⟩ := h
    exact ⟨fs, cs, as, h1.mono hI hm, h2.mono hI hm, h3.mono hI hm, h4⟩
  · exact h.elim
theorem DefRel.mono {I I' : Imm} {m m' : Locs} (hI : ImmLe I I') (hm : LocsLe m m') {e : Option AV} {ds : List Deferred} (h : DefRel I m e ds) : DefRel I' m' e ds := by
  unfold DefRel at h ⊢
  split at h
  · exact h
  · exact ⟨h.1, fun i e d h1 h2 => (h.2 i e d h1 h2).mono hI hm⟩
  · exact h.elim

/-- The round that a frame is in: its loop's record, by name and by place. -/
abbrev Ro := Option Nat × Option Nat
def RoOk (m : Locs) : Ro → Prop
  | (none, none) => True
  | (some o, some l) => o < m.length ∧ ∀ b, m[o]? = some (.whole b) → l = b
  | _ => False
theorem RoOk.mono {m m' : Locs} (hm : LocsLe m m') {r : Ro} (h : RoOk m r) : RoOk m' r := by
  unfold RoOk at h ⊢
  split at h
  · trivial
  · exact ⟨hm.lt h.1, fun b hb => h.2 b (hm.whole h.1 hb)⟩
  · exact h.elim

/-- A frame and a world against an abstract state. 'N': how many slots the frame has; 'D': the round that it is in. -/
structure Rel (G : Globs) (N : Nat) (D : Ro) (S : Nat) (I : Imm) (m : Locs) (en : Env) (h : AHeap) (a : Act) (w : World) : Prop where
  inv : Inv G I m h w
  env : EnvRel S I m w en a.tmps
  size : a.tmps.size = N
  defers : DefRel I m (en.get dslot) a.defers
  ro : RoOk m D

end Go.Apx
