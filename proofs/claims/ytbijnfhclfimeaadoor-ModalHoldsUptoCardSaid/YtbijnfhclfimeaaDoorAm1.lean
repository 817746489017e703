/- ABSTRACT MACHINE, part 1: abstract values, locations, the relation between abstract and concrete values, worlds. Generic: no program in sight. -/
import Derived.Calls
import Derived.Laws.World
import Derived.Laws.Sem
import Derived.Orders
namespace Go.Apx
set_option linter.unusedVariables false

/-- What is known of the spare room behind a slice's elements. -/
inductive Cap where
  | nil
  | any
  | full
  | tok (t : Nat)
  deriving DecidableEq, Repr

/-- Abstract values. 'sl', 'ip': memory that is never written again, inline. 'ptr', 'rf', 'mp', 'it': objects of the abstract heap. -/
inductive AV where
  | sc (v : Value)
  | agg (cs : List AV)
  | tup (vs : List AV)
  | sl (k : Nat) (es : List AV) (c : Cap)
  | ip (v : AV)
  | ptr (o g off : Nat)
  | rf (o g off len : Nat) (full : Bool)
  | mp (o : Nat)
  | it (o : Nat)
  | yld (o : Nat)
  | fn (f : Fn) (first captured : List AV)
  | ifc (t : TypeId) (v : AV)
  | pend (n : Nat)

def AV.cells : AV → List AV
  | .agg cs => cs
  | v => [v]

def AV.one : AV → Bool
  | .sc v => v.oneCell'
  | .agg _ | .tup _ | .pend _ => false
  | _ => true

def AV.isPend : AV → Bool
  | .pend _ => true
  | _ => false

/-- Where an object of the abstract heap lies. -/
inductive Loc where
  | dead
  | cells (g b lo n : Nat)
  | tok (n b s e : Nat)
  | whole (b : Nat)

def Loc.owns : Loc → Nat → Nat → Prop
  | .dead, _, _ => False
  | .cells _ b lo n, b', o => b' = b ∧ lo ≤ o ∧ o < lo + n
  | .tok _ b s e, b', o => b' = b ∧ s ≤ o ∧ o < e
  | .whole b, b', _ => b' = b

inductive LocLe : Loc → Loc → Prop
  | refl (l : Loc) : LocLe l l
  | dead (l : Loc) : LocLe l .dead
  | tok {n n' b s e b' s' e' : Nat} (h : n < n') : LocLe (.tok n b s e) (.tok n' b' s' e')
  | cells {g g' b lo n b' lo' n' : Nat} (h : g < g') : LocLe (.cells g b lo n) (.cells g' b' lo' n')

theorem LocLe.trans {a b c : Loc} (h : LocLe a b) (h' : LocLe b c) : LocLe a c := by
  cases h with
  | refl => exact h'
  | dead => cases h' <;> exact .dead _
  | tok h1 =>
    cases h' with
    | refl => exact .tok h1
    | dead => exact .dead _
    | tok h2 => exact .tok (Nat.lt_trans h1 h2)
  | cells h1 =>
    cases h' with
    | refl => exact .cells h1
    | dead => exact .dead _
    | cells h2 => exact .cells (Nat.lt_trans h1 h2)

abbrev Imm := Nat → Nat → Option Value
abbrev Locs := List Loc

/-- A row of values in immutable memory. -/
def Lies (I : Imm) (b off : Nat) (vs : List Value) : Prop := ∀ (i : Nat) (x : Value), vs[i]? = some x → I b (off + i) = some x

def CapRel (m : Locs) (a : Addr) (len k cap : Nat) : Cap → Prop
  | .nil => False
  | .any => True
  | .full => cap = len
  | .tok t => t < m.length ∧ ∀ n b s e, m[t]? = some (.tok n b s e) → len ≤ n ∧ (n = len → a = ⟨b, a.off, none⟩ ∧ a.off + len * k = s ∧ a.off + cap * k = e)

/-- Where a pointer into an object leads: only the newest make of the object counts. -/
def PtrRel (m : Locs) (o g off : Nat) (a : Addr) : Prop :=
  ∀ g' b lo n, m[o]? = some (.cells g' b lo n) → g ≤ g' ∧ (g = g' → a = ⟨b, lo + off, none⟩)

inductive AVRel (I : Imm) (m : Locs) : AV → Value → Prop
  | sc (x : Value) : AVRel I m (.sc x) x
  | agg (cs : List AV) (vs : List Value) (hl : cs.length = vs.length) (h1 : ∀ c ∈ cs, c.one = true)
      (h : ∀ (i : Nat) (a : AV) (x : Value), cs[i]? = some a → vs[i]? = some x → AVRel I m a x) : AVRel I m (.agg cs) (.agg vs.toArray)
  | tup (cs : List AV) (vs : List Value) (hl : cs.length = vs.length)
      (h : ∀ (i : Nat) (a : AV) (x : Value), cs[i]? = some a → vs[i]? = some x → AVRel I m a x) : AVRel I m (.tup cs) (.tuple vs.toArray)
  | slnil (k : Nat) : AVRel I m (.sl k [] .nil) (.slice none 0 0)
  | sl (k : Nat) (es : List AV) (c : Cap) (a : Addr) (cap : Nat) (vs : List Value) (hc : c ≠ .nil) (hle : es.length ≤ cap) (hk : 0 < k)
      (hw : ∀ e ∈ es, e.cells.length = k) (h1 : ∀ c ∈ es.flatMap AV.cells, c.one = true)
      (hl : (es.flatMap AV.cells).length = vs.length)
      (h : ∀ (i : Nat) (a : AV) (x : Value), (es.flatMap AV.cells)[i]? = some a → vs[i]? = some x → AVRel I m a x)
      (hI : Lies I a.block a.off vs) (hs : es ≠ [] → a.spot = none) (hcap : CapRel m a es.length k cap c) :
      AVRel I m (.sl k es c) (.slice (some a) es.length cap)
  | ip (v : AV) (a : Addr) (vs : List Value) (h1 : ∀ c ∈ v.cells, c.one = true) (hl : v.cells.length = vs.length)
      (h : ∀ (i : Nat) (a : AV) (x : Value), v.cells[i]? = some a → vs[i]? = some x → AVRel I m a x)
      (hI : Lies I a.block a.off vs) (hs : a.spot = none) : AVRel I m (.ip v) (.pointer (some a))
  | ptr (o g off : Nat) (a : Addr) (ho : o < m.length) (h : PtrRel m o g off a) :
      AVRel I m (.ptr o g off) (.pointer (some a))
  | rf (o g off len : Nat) (full : Bool) (a : Addr) (cap : Nat) (ho : o < m.length) (hle : len ≤ cap) (hf : full = true → cap = len)
      (h : len ≠ 0 → PtrRel m o g off a) :
      AVRel I m (.rf o g off len full) (.slice (some a) len cap)
  | mp (o r : Nat) (ho : o < m.length) (h : ∀ b, m[o]? = some (.whole b) → r = b) : AVRel I m (.mp o) (.map (some r))
  | it (o r : Nat) (ho : o < m.length) (h : ∀ b, m[o]? = some (.whole b) → r = b) : AVRel I m (.it o) (.pointer (some ⟨r, 0, none⟩))
  | yld (o l : Nat) (ho : o < m.length) (h : ∀ b, m[o]? = some (.whole b) → l = b) : AVRel I m (.yld o) (.func (.yield l) #[] #[])
  | fn (f : Fn) (first captured : List AV) (fs cs : List Value) (hl : first.length = fs.length) (hl' : captured.length = cs.length)
      (h : ∀ (i : Nat) (a : AV) (x : Value), first[i]? = some a → fs[i]? = some x → AVRel I m a x)
      (h' : ∀ (i : Nat) (a : AV) (x : Value), captured[i]? = some a → cs[i]? = some x → AVRel I m a x) :
      AVRel I m (.fn f first captured) (.func f fs.toArray cs.toArray)
  | ifc (t : TypeId) (v : AV) (x : Value) (h : AVRel I m v x) : AVRel I m (.ifc t v) (.iface t x)

/-- Pointwise. -/
def AVRels (I : Imm) (m : Locs) (cs : List AV) (vs : List Value) : Prop :=
  cs.length = vs.length ∧ ∀ (i : Nat) (a : AV) (x : Value), cs[i]? = some a → vs[i]? = some x → AVRel I m a x

def ImmLe (I I' : Imm) : Prop := ∀ b o y, I b o = some y → I' b o = some y
def LocsLe (m m' : Locs) : Prop := ∀ (i : Nat) (l : Loc), m[i]? = some l → ∃ l', m'[i]? = some l' ∧ LocLe l l'

theorem ImmLe.refl (I : Imm) : ImmLe I I := fun _ _ _ h => h
theorem ImmLe.trans {I I' I'' : Imm} (h : ImmLe I I') (h' : ImmLe I' I'') : ImmLe I I'' := fun _ _ _ x => h' _ _ _ (h _ _ _ x)
theorem LocsLe.refl (m : Locs) : LocsLe m m := fun i l h => ⟨l, h, .refl l⟩
theorem LocsLe.trans {m m' m'' : Locs} (h : LocsLe m m') (h' : LocsLe m' m'') : LocsLe m m'' := fun i l hl =>
  let ⟨l', h1, h2⟩ := h i l hl
  let ⟨l'', h3, h4⟩ := h' i l' h1
  ⟨l'', h3, h2.trans h4⟩
theorem LocsLe.lt {m m' : Locs} (h : LocsLe m m') {o : Nat} (ho : o < m.length) : o < m'.length := by
  obtain ⟨l', h1, _⟩ := h o m[o] (by simp [ho])
  exact (List.getElem?_eq_some_iff.1 h1).1
theorem LocsLe.append (m x : Locs) : LocsLe m (m ++ x) := fun i l h => by
  have hi := (List.getElem?_eq_some_iff.1 h).1
  exact ⟨l, by rw [List.getElem?_append_left hi]; exact h, .refl l⟩

theorem LocsLe.cells {m m' : Locs} (h : LocsLe m m') {o g b lo n : Nat} (ho : o < m.length) (h' : m'[o]? = some (.cells g b lo n)) :
    m[o]? = some (.cells g b lo n) ∨ ∃ g' b' lo' n', m[o]? = some (.cells g' b' lo' n') ∧ g' < g := by
  obtain ⟨l', h1, h2⟩ := h o m[o] (by simp [ho])
  rw [h'] at h1
  obtain rfl := Option.some.inj h1
  have e : m[o]? = some m[o] := by simp [ho]
  rw [e]
  generalize m[o] = l at h2
  cases h2 with
  | refl => exact .inl rfl
  | cells hg => exact .inr ⟨_, _, _, _, rfl, hg⟩
theorem LocsLe.tok {m m' : Locs} (h : LocsLe m m') {o n b s e : Nat} (ho : o < m.length) (h' : m'[o]? = some (.tok n b s e)) :
    m[o]? = some (.tok n b s e) ∨ ∃ n' b' s' e', m[o]? = some (.tok n' b' s' e') ∧ n' < n := by
  obtain ⟨l', h1, h2⟩ := h o m[o] (by simp [ho])
  rw [h'] at h1
  obtain rfl := Option.some.inj h1
  have e : m[o]? = some m[o] := by simp [ho]
  rw [e]
  generalize m[o] = l at h2
  cases h2 with
  | refl => exact .inl rfl
  | tok hg => exact .inr ⟨_, _, _, _, rfl, hg⟩
theorem LocsLe.whole {m m' : Locs} (h : LocsLe m m') {o b : Nat} (ho : o < m.length) (h' : m'[o]? = some (.whole b)) :
    m[o]? = some (.whole b) := by
  obtain ⟨l', h1, h2⟩ := h o m[o] (by simp [ho])
  rw [h'] at h1
  obtain rfl := Option.some.inj h1
  have e : m[o]? = some m[o] := by simp [ho]
  rw [e]
  generalize m[o] = l at h2
  cases h2
  rfl

end Go.Apx
