/- ABSTRACT MACHINE, part 26: from the readings of arguments to abstract values. -/
import Derived.Test.YtbijnfhclfimeaaDoorAmC
import GoSem.ClaimChange
import Derived.Below
import Derived.RowKit3
import Derived.ChangeArms
import Derived.DataReads
import Derived.WalkKit
import Derived.ProofKit
import Derived.OpenShut
import Derived.Deep.DeepHandedRow
import Derived.Lib.LaidTab
import Derived.LaidSub
import Derived.WideKeyArgs
section
namespace Go.Apx
set_option linter.unusedVariables false
set_option linter.unusedSimpArgs false

/-- All cells of a world. -/
def I0 (W : World) : Imm := fun b o => W.cell? ⟨b, o, none⟩

theorem inv0 {G : Globs} {W : World} (hg : ∀ g v, G g = some v → ∀ m', AVRel (I0 W) m' v (.pointer (some ⟨g, 0, none⟩))) : Inv G (I0 W) [] [] W where
  len := rfl
  obj i o l h := by simp at h
  imm b o v h := h
  disj i j l l' b o h := by simp at h
  immd i l b o h := by simp at h
  lt i l b o h := by simp at h
  glob := hg

theorem below_of_trans {k : Nat} {I I' : Imm} {m' : Locs} {W W' : World} (h : Trans k I [] W I' m' W') : RowKit.Below W.heap.size W W' where
  os := h.os
  tape := h.tape
  output := h.output
  size := h.size
  block b hb := h.blk b hb fun i l o hi => by simp at hi

theorem frozen_of_trans {k : Nat} {I I' : Imm} {m' : Locs} {W W' : World} (h : Trans k I [] W I' m' W') (a : Addr) (ha : a.block < W.heap.size) : W'.frozen? a = W.frozen? a := h.froz a ha

/-! ## how much a reading holds -/
mutual
def bulk {H : Type} : DataW H → Nat
  | .lit (.string bytes) => bytes.length + 1
  | .lit _ => 1
  | .nil => 1
  | .ptr d => bulk d + 1
  | .slice elems spare => bulkL elems + bulkL spare + 1
  | .agg parts => bulkL parts + 1
  | .iface _ d => bulk d + 1
  | .map entries => bulkE entries + 1
  | .held _ => 1
def bulkL {H : Type} : List (DataW H) → Nat
  | [] => 0
  | d :: r => bulk d + bulkL r
def bulkE {H : Type} : List (Lit × DataW H) → Nat
  | [] => 0
  | x :: r => bulkP x + bulkE r
def bulkP {H : Type} : Lit × DataW H → Nat
  | (.string bytes, d) => bytes.length + bulk d + 1
  | (_, d) => bulk d + 1
end
theorem bulk_pos {H : Type} (d : DataW H) : 1 ≤ bulk d := by
  cases d with
  | lit l => cases l <;> simp [bulk]
  | _ => simp [bulk]

/-! ## readers -/
/-- With so much fuel each reading of type t is one of data a: its cells are those of 'g a', and its size is at most the bulk. -/
def Rd (P : Program) (W : World) (fuel : Nat) (t : TypeId) {α : Type} (g : α → AV) (sz : α → Nat) (ok : α → Prop) : Prop :=
  ∀ (H : Type) (enc : TypeId × Value → H) (cs : List Value) (d : DataW H) (ps : List MemPlace), DataW.trod enc P W 0 (fun _ => true) true fuel t cs = some (d, ps) →
    ∃ a : α, ok a ∧ AVRels (I0 W) [] (g a).cells cs ∧ sz a ≤ bulk d

theorem rels_one {I : Imm} {m : Locs} {v : AV} {x : Value} (h : AVRel I m v x) : AVRels I m [v] [x] := .cons h .nil

section
variable {P : Program} {W : World} {fuel : Nat} {t e : TypeId}

theorem Rd.bool (ht : P.underlying t = some .bool) : Rd P W fuel t (fun b : Bool => .sc (.bool b)) (fun _ => 1) (fun _ => True) := by
  intro H enc cs d ps h
  obtain ⟨b, rfl, e⟩ := DataW.trod_bool ht h
  cases e
  exact ⟨b, trivial, rels_one (.sc _), by simp [bulk]⟩

theorem Rd.int {k : IntKind} (ht : P.underlying t = some (.int k)) : Rd P W fuel t (fun n : Int => .sc (.int k n)) (fun _ => 1) (fun n => k.min ≤ n ∧ n ≤ k.max) := by
  intro H enc cs d ps h
  obtain ⟨n, rfl, e, hw⟩ := DataW.trod_int ht h
  cases e
  refine ⟨n, ?_, rels_one (.sc _), by simp [bulk]⟩
  simpa [Lit.wf] using hw

theorem Rd.u64 (ht : P.underlying t = some (.int .u64)) : Rd P W fuel t (fun b : BitVec 64 => .sc (v64 b)) (fun _ => 1) (fun _ => True) := by
  intro H enc cs d ps h
  obtain ⟨n, hn, hr, hs⟩ := Rd.int ht H enc cs d ps h
  refine ⟨BitVec.ofInt 64 n, trivial, ?_, hs⟩
  have : Value.int .u64 n = v64 (BitVec.ofInt 64 n) := by
    simp only [v64, BitVec.toNat_ofInt]
    have h1 : (0 : Int) ≤ n := hn.1
    have h2 : n ≤ 18446744073709551615 := hn.2
    congr 1
    omega
  show AVRels (I0 W) [] [.sc (v64 (BitVec.ofInt 64 n))] cs
  rw [← this]; exact hr

theorem Rd.string (ht : P.underlying t = some .string) : Rd P W fuel t (fun s : ByteArray => .sc (.string s)) (fun s => s.size + 1) (fun _ => True) := by
  intro H enc cs d ps h
  obtain ⟨s, rfl, e, hl⟩ := DataW.trod_string ht h
  cases e
  refine ⟨s, trivial, rels_one (.sc _), ?_⟩
  simp only [bulk, Array.length_toList]
  exact Nat.le_refl _

theorem cell_block {a b : Addr} (hb : a.block = b.block) (ho : a.off = b.off) (hs : b.spot = none) {x : Value} (h : W.cell? a = some x) : W.cell? b = some x := by
  unfold World.cell? at h ⊢
  rw [← hb, ← ho, hs]
  split at h
  · split at h
    · cases h
    · simpa using h
  · cases h
theorem cell_spot {a : Addr} {x : Value} (h : W.cell? a = some x) : a.spot = none := by
  unfold World.cell? at h
  split at h
  · split at h
    · cases h
    · rename_i hs; cases hsp : a.spot <;> simp_all
  · cases h
theorem add_off (a : Addr) (i : Nat) : (a.add i).block = a.block ∧ (a.add i).off = a.off + i := by
  unfold Addr.add
  split
  · rename_i h; subst h; exact ⟨rfl, rfl⟩
  · exact ⟨rfl, rfl⟩

/-- Cells that are read lie there. -/
theorem cells_lie {a : Addr} {n : Nat} {vs : List Value} (h : W.cells? 0 a n = some vs) : vs.length = n ∧ Lies (I0 W) a.block a.off vs ∧ (0 < n → a.spot = none) := by
  obtain ⟨_, h1, h2⟩ := World.cells?_some h
  refine ⟨h1, fun i x hx => ?_, fun hn => ?_⟩
  · have hi := (List.getElem?_eq_some_iff.1 hx).1
    have := h2 i (by omega)
    rw [hx] at this
    exact cell_block (b := ⟨a.block, a.off + i, none⟩) (add_off a i).1 (add_off a i).2 rfl this
  · have := h2 0 hn
    have h0 : vs[0]? = some vs[0] := by simp [show 0 < vs.length by omega]
    rw [h0] at this
    have := cell_spot this
    simpa [Addr.add] using this

theorem lies_append {I : Imm} {b o : Nat} {us vs : List Value} (h : Lies I b o us) (h' : Lies I b (o + us.length) vs) : Lies I b o (us ++ vs) := by
  intro i x hx
  rw [List.getElem?_append] at hx
  split at hx
  · exact h i x hx
  · rename_i hi
    have := h' (i - us.length) x hx
    rw [show o + us.length + (i - us.length) = o + i by omega] at this
    exact this

theorem rows_read {α H : Type} {enc : TypeId × Value → H} {g : α → AV} {sz : α → Nat} {ok : α → Prop} {k n : Nat} {a : Addr} (hk : P.cellsOf e = k) (hpos : 0 < k) (hc : ∀ a, (g a).cells.length = k) (he : Rd P W n e g sz ok) :
    ∀ (elems : List (DataW H × List MemPlace)) (j : Nat), (∀ i, i < elems.length → (W.cells? 0 (a.add ((j + i) * P.cellsOf e)) (P.cellsOf e)).bind (DataW.trod enc P W 0 (fun _ => true) true n e) = elems[i]?) →
      ∃ (l : List α) (vs : List Value), l.length = elems.length ∧ (∀ x ∈ l, ok x) ∧ AVRels (I0 W) [] ((l.map g).flatMap AV.cells) vs ∧ vs.length = l.length * k ∧ Lies (I0 W) a.block (a.off + j * k) vs ∧ (elems ≠ [] → a.spot = none ∨ j ≠ 0) ∧ (l.map sz).sum ≤ bulkL (elems.map (·.1))
  | [], j, h => ⟨[], [], rfl, by simp, .nil, by simp, fun i x hx => by simp at hx, fun h => absurd rfl h, by simp [bulkL]⟩
  | x :: elems, j, h => by
    have h0 := h 0 (by simp)
    simp only [Nat.add_zero, List.getElem?_cons_zero] at h0
    obtain ⟨cs', h1, h2⟩ := Option.bind_eq_some_iff.1 h0
    rw [hk] at h1
    obtain ⟨g1, g2, g3⟩ := cells_lie h1
    obtain ⟨d, ps⟩ := x
    obtain ⟨y, y1, y2, y3⟩ := he H enc cs' d ps h2
    obtain ⟨l, vs, r1, r2, r3, r4, r5, r6, r7⟩ := rows_read hk hpos hc he elems (j + 1) (fun i hi => by
      have := h (i + 1) (by simp; omega)
      rw [show j + 1 + i = j + (i + 1) by omega]
      simpa using this)
    refine ⟨y :: l, cs' ++ vs, by simp [r1], fun z hz => by rcases List.mem_cons.1 hz with rfl | hz; exact y1; exact r2 z hz, by simpa using y2.append r3, by simp [g1, r4, Nat.add_mul]; omega, ?_, ?_, ?_⟩
    · refine lies_append ?_ ?_
      · rw [(add_off a (j * k)).1, (add_off a (j * k)).2] at g2; exact g2
      · rw [g1, Nat.add_assoc, ← Nat.succ_mul]; exact r5
    · intro _
      by_cases hj : j = 0
      · subst hj
        have := g3 hpos
        left
        simpa [Addr.add] using this
      · exact .inr hj
    · simp only [List.map_cons, List.sum_cons, bulkL]; omega

/-- Slices of what can be read. -/
theorem Rd.slice {α : Type} {g : α → AV} {sz : α → Nat} {ok : α → Prop} {k : Nat} (ht : P.underlying t = some (.slice e)) (hk : P.cellsOf e = k) (hpos : 0 < k) (hc : ∀ a, (g a).cells.length = k) (h1 : ∀ a, ∀ c ∈ (g a).cells, c.one = true)
    (he : ∀ n, n < fuel → Rd P W n e g sz ok) : Rd P W fuel t (fun p : List α × Bool => .sl k (p.1.map g) (if p.2 = true then .any else .nil)) (fun p => (p.1.map sz).sum + 1) (fun p => (∀ a ∈ p.1, ok a) ∧ (p.2 = false → p.1 = [])) := by
  intro H enc cs d ps h
  rcases DataW.trod_slice ht h with ⟨rfl, e⟩ | ⟨a, len, cap, elems, rest, n, rfl, rfl, e, hb, hl, hm, hlen, hel, hsp, hns⟩
  · cases e
    exact ⟨([], false), ⟨by simp, by simp⟩, rels_one (.slnil k), by simp [bulk]⟩
  · cases e
    obtain ⟨l, vs, r1, r2, r3, r4, r5, r6, r7⟩ := rows_read (enc := enc) (a := a) hk hpos hc (he n (by omega)) elems 0 (fun i hi => by rw [Nat.zero_add]; exact hel i (by omega))
    refine ⟨(l, true), ⟨r2, by simp⟩, ?_, by simp [bulk]; omega⟩
    have hll : l.length = len := by omega
    have hvs : ((l.map g).flatMap AV.cells).length = vs.length := r3.1
    refine rels_one ?_
    simp only [if_true]
    rw [show len = (l.map g).length by simp [hll]]
    refine .sl k (l.map g) .any a cap vs (by intro e; cases e) (by simp; omega) hpos (fun x hx => ?_) (fun c hc' => ?_) hvs r3.2 (by simpa using r5) (fun hne => ?_) trivial
    · obtain ⟨y, _, rfl⟩ := List.mem_map.1 hx; exact hc y
    · obtain ⟨x, hx, hx'⟩ := List.mem_flatMap.1 hc'
      obtain ⟨y, _, rfl⟩ := List.mem_map.1 hx
      exact h1 y c hx'
    · rcases r6 (by intro e; subst e; simp at r1; simp [r1] at hne) with h | h
      · exact h
      · exact absurd rfl h

/-- Structures of one field. -/
theorem Rd.struct1 {α : Type} {g : α → AV} {sz : α → Nat} {ok : α → Prop} {f0 : Field} {c0 : Nat} (ht : P.underlying t = some (.struct #[f0])) (ho : f0.offset = 0) (hc0 : P.cellsOf f0.type = c0) (hct : P.cellsOf t = c0)
    (h0 : ∀ n, n < fuel → Rd P W n f0.type g sz ok) : Rd P W fuel t (fun a : α => .agg (g a).cells) (fun a => sz a + 1) ok := by
  intro H enc cs d ps h
  obtain ⟨xs, n, rfl, e, hlen, hxl, hx⟩ := DataW.trod_struct ht h
  cases e
  have e0 := hx 0 f0 rfl
  rw [ho, hc0, List.drop_zero, List.take_of_length_le (by omega)] at e0
  match xs, hxl, e0 with
  | [(d0, p0)], _, e0 =>
    obtain ⟨a, h1, h2, h3⟩ := h0 n (by omega) H enc cs d0 p0 e0
    exact ⟨a, h1, h2, by simp [bulk, bulkL]; omega⟩

/-- Structures of two fields. -/
theorem Rd.struct2 {α β : Type} {g : α → AV} {sz : α → Nat} {ok : α → Prop} {g' : β → AV} {sz' : β → Nat} {ok' : β → Prop} {f0 f1 : Field} {c0 c1 : Nat} (ht : P.underlying t = some (.struct #[f0, f1])) (ho : f0.offset = 0) (ho1 : f1.offset = c0)
    (hc0 : P.cellsOf f0.type = c0) (hc1 : P.cellsOf f1.type = c1) (hct : P.cellsOf t = c0 + c1) (h0 : ∀ n, n < fuel → Rd P W n f0.type g sz ok) (h1 : ∀ n, n < fuel → Rd P W n f1.type g' sz' ok') :
    Rd P W fuel t (fun a : α × β => .agg ((g a.1).cells ++ (g' a.2).cells)) (fun a => sz a.1 + sz' a.2 + 1) (fun a => ok a.1 ∧ ok' a.2) := by
  intro H enc cs d ps h
  obtain ⟨xs, n, rfl, e, hlen, hxl, hx⟩ := DataW.trod_struct ht h
  cases e
  have e0 := hx 0 f0 rfl
  have e1 := hx 1 f1 rfl
  rw [ho, hc0, List.drop_zero] at e0
  rw [ho1, hc1, List.take_of_length_le (by simp; omega)] at e1
  match xs, hxl, e0, e1 with
  | [(d0, p0), (d1, p1)], _, e0, e1 =>
    obtain ⟨a, a1, a2, a3⟩ := h0 n (by omega) H enc _ d0 p0 e0
    obtain ⟨b, b1, b2, b3⟩ := h1 n (by omega) H enc _ d1 p1 e1
    refine ⟨(a, b), ⟨a1, b1⟩, ?_, by simp [bulk, bulkL]; omega⟩
    have := a2.append b2
    rw [List.take_append_drop] at this
    exact this
end

/-- A whole value. -/
theorem rel_of_cells {W : World} {v : AV} {x : Value} (h : AVRels (I0 W) [] v.cells x.cells.toList) (h1 : ∀ c ∈ v.cells, c.one = true) (ha : (∃ cs, v = .agg cs) → ∃ cs, x = .agg cs) (hn : (∃ cs, x = .agg cs) → ∃ cs, v = .agg cs) : AVRel (I0 W) [] v x := by
  cases v with
  | agg cs =>
    obtain ⟨vs, rfl⟩ := ha ⟨cs, rfl⟩
    have : AVRels (I0 W) [] cs vs.toList := h
    have e : Value.agg vs = .agg vs.toList.toArray := by simp
    rw [e]
    exact .agg cs vs.toList this.1 h1 this.2
  | _ =>
    have hx : ∀ cs, x ≠ .agg cs := fun cs e => by
      obtain ⟨cs', e'⟩ := hn ⟨cs, e⟩
      cases e'
    have : x.cells.toList = [x] := by
      cases x <;> first | rfl | exact absurd rfl (hx _)
    rw [this] at h
    simpa [AVRels.cons_iff, AVRels.nil_iff] using h
end Go.Apx
end

/- ABSTRACT MACHINE, part 27: from an exact contract of a law to its row. -/
section
namespace Go.Apx
open Go.ChangeShapes Go.WideShapes Go.ChangeAt Go.RowKit
set_option linter.unusedVariables false
set_option linter.unusedSimpArgs false

section
variable {P : Program} {W : World} {fuel : Nat} {t e : TypeId}

/-- The same reading under another name. -/
theorem Rd.map {α β : Type} {g : α → AV} {sz : α → Nat} {ok : α → Prop} {g' : β → AV} {sz' : β → Nat} {ok' : β → Prop} (φ : α → β) (h : Rd P W fuel t g sz ok) (hc : ∀ a, (g' (φ a)).cells = (g a).cells) (hs : ∀ a, sz' (φ a) ≤ sz a) (ho : ∀ a, ok a → ok' (φ a)) :
    Rd P W fuel t g' sz' ok' := by
  intro H enc cs d ps hd
  obtain ⟨a, a1, a2, a3⟩ := h H enc cs d ps hd
  exact ⟨φ a, ho a a1, by rw [hc]; exact a2, Nat.le_trans (hs a) a3⟩

/-- An argument that is a structure. -/
theorem arg_agg {α H : Type} {enc : TypeId × Value → H} {g : α → AV} {sz : α → Nat} {ok : α → Prop} {v : Value} {d : DataW H} {ps : List MemPlace} (rd : ∀ fuel, Rd P W fuel t g sz ok) (h : DataW.Trod enc P W 0 (fun _ => true) true t v d ps)
    (h1 : ∀ a, ∀ c ∈ (g a).cells, c.one = true) (hg : ∀ a, ∃ cs, g a = .agg cs) (hv : ∃ cs, v = .agg cs) : ∃ a, ok a ∧ AVRel (I0 W) [] (g a) v ∧ sz a ≤ bulk d := by
  obtain ⟨fuel, hf⟩ := h
  obtain ⟨a, a1, a2, a3⟩ := rd fuel H enc _ d ps hf
  exact ⟨a, a1, rel_of_cells a2 (h1 a) (fun _ => hv) (fun _ => hg a), a3⟩
/-- An argument that is none. -/
theorem arg_one {α H : Type} {enc : TypeId × Value → H} {g : α → AV} {sz : α → Nat} {ok : α → Prop} {v : Value} {d : DataW H} {ps : List MemPlace} (rd : ∀ fuel, Rd P W fuel t g sz ok) (h : DataW.Trod enc P W 0 (fun _ => true) true t v d ps)
    (h1 : ∀ a, ∀ c ∈ (g a).cells, c.one = true) (hg : ∀ a cs, g a ≠ .agg cs) (hv : ∀ cs, v ≠ .agg cs) : ∃ a, ok a ∧ AVRel (I0 W) [] (g a) v ∧ sz a ≤ bulk d := by
  obtain ⟨fuel, hf⟩ := h
  obtain ⟨a, a1, a2, a3⟩ := rd fuel H enc _ d ps hf
  exact ⟨a, a1, rel_of_cells a2 (h1 a) (fun ⟨cs, e⟩ => absurd e (hg a cs)) (fun ⟨cs, e⟩ => absurd e (hv cs)), a3⟩
end

theorem agg_of_okWide {P : Program} {W : World} {r : Reach} {base : Nat} {t : TypeId} {v : Value} {fs : Array Field} (ht : P.underlying t = some (.struct fs)) (h : Value.okWide P W r base t v) : ∃ cs, v = .agg cs := by
  unfold Value.okWide at h
  rw [ht] at h
  obtain ⟨cs, h, _⟩ := h
  exact ⟨cs, h⟩
theorem slice_of_okWide {P : Program} {W : World} {r : Reach} {base : Nat} {t e : TypeId} {v : Value} (ht : P.underlying t = some (.slice e)) (h : Value.okWide P W r base t v) : ∀ cs, v ≠ .agg cs := by
  rintro cs rfl
  unfold Value.okWide at h
  rw [ht] at h
  simp [Cell.okWide, Cell.ok, ht] at h
theorem int_of_okWide {P : Program} {W : World} {r : Reach} {base : Nat} {t : TypeId} {k : IntKind} {v : Value} (ht : P.underlying t = some (.int k)) (h : Value.okWide P W r base t v) : ∀ cs, v ≠ .agg cs := by
  rintro cs rfl
  unfold Value.okWide at h
  rw [ht] at h
  simp [Cell.okWide, Cell.ok, ht] at h
theorem string_of_okWide {P : Program} {W : World} {r : Reach} {base : Nat} {t : TypeId} {v : Value} (ht : P.underlying t = some .string) (h : Value.okWide P W r base t v) : ∀ cs, v ≠ .agg cs := by
  rintro cs rfl
  unfold Value.okWide at h
  rw [ht] at h
  simp [Cell.okWide, Cell.ok, ht] at h
theorem bool_of_okWide {P : Program} {W : World} {r : Reach} {base : Nat} {t : TypeId} {v : Value} (ht : P.underlying t = some .bool) (h : Value.okWide P W r base t v) : ∀ cs, v ≠ .agg cs := by
  rintro cs rfl
  unfold Value.okWide at h
  rw [ht] at h
  simp [Cell.okWide, Cell.ok, ht] at h

/-- The arguments read as they did. -/
theorem all_stays {H : Type} {enc : TypeId × Value → H} {P : Program} (hl : laidOutB P = true) {W W' : World} {sp : Nat → Bool} : ∀ {ts : List TypeId} {vs : List Value} {ds : List (DataW H)} {ps : List MemPlace}, (∀ t ∈ ts, P.readableRec t = true ∧ t < P.types.size) →
    DataW.TrodAll enc P W 0 (fun _ => true) true ts vs ds ps → (∀ p ∈ ps, W.sameAt W' p) → (∀ p ∈ ps, sp p.block = true) → DataW.TrodAll enc P W' 0 sp true ts vs ds ps
  | [], _, _, _, _, h, _, _ => by
    obtain ⟨rfl, rfl, rfl⟩ := trodAll_nil h
    exact trodAll_mk0
  | t :: ts, _, _, _, hr, h, h1, h2 => by
    obtain ⟨v, vs1, d, ds1, a, b, rfl, rfl, rfl, g1, g2⟩ := trodAll_cons h
    have ht := hr t (by simp)
    exact ⟨a, b, WideElems.Trod_stays hl ht.1 ht.2 g1 (fun p hp => h1 p (by simp [hp])) (fun p hp => h2 p (by simp [hp])), all_stays hl (fun t' h' => hr t' (by simp [h'])) g2 (fun p hp => h1 p (by simp [hp])) (fun p hp => h2 p (by simp [hp])), rfl⟩

/-- What a law's row asks of its end: true; the arguments read as they did. -/
theorem law_post {H : Type} {enc : TypeId × Value → H} {P : Program} {f : Func} {s : ChangeSpec} {apart fresh handsOn again : Bool} {W W' : World} {args : Array Value} {ds gs : List (DataW H)} {before : List MemPlace} {tb : TypeId}
    (hl : laidOutB P = true) (hr : ∀ t ∈ f.params.toList, P.readableRec t = true ∧ t < P.types.size) (hv : s.vars = []) (hres : f.resultTypes = #[tb]) (hb : P.underlying tb = some .bool) (hs : s.fn H (ds ++ gs) = { results := [.lit (.bool true)], args := ds })
    (hW : DataW.Whole enc P f.params.toList s.vars apart W args.toList ds gs before) (hB : Below W.heap.size W W') (hfz : ∀ a : Addr, a.block < W.heap.size → W'.frozen? a = W.frozen? a) :
    s.post enc P f apart fresh handsOn again W args (.bool true) W' := by
  have hW' := hW
  obtain ⟨p, q, hA, hV, rfl, hz, hn⟩ := hW
  rw [hv] at hV
  obtain ⟨rfl, rfl⟩ := trodVars_none hV
  simp only [List.append_nil] at hW' hs hz hn
  have hold : ∀ x ∈ p, x.block < W.heap.size := fun x hx => hW'.lt x hx
  have hargs : ∀ sp : Nat → Bool, (∀ x ∈ p, sp x.block = true) → DataW.TrodAll enc P W' 0 sp true f.params.toList args.toList ds p := fun sp hsp => all_stays hl hr hA (fun x hx => hB.same (hold x hx)) hsp
  have hrt : ∀ (b : Nat) (sp : Nat → Bool) (hd : Bool), DataW.TrodAll enc P W' b sp hd f.resultTypes.toList (Value.resultList f.resultTypes.size (.bool true)) [.lit (.bool true)] [] := by
    intro b sp hd
    rw [hres]
    exact trodAll_cons_mk (shut_bool hb true) trodAll_mk0
  have hok := ok_one (P := P) (W' := W') (f := f) (v := .bool true) hres rfl (okWide_bool_mk hb true)
  have e0 : s.fn H (ds ++ ([] : List (DataW H))) = { results := [.lit (.bool true)], args := ds } := by simpa using hs
  have hv0 : ∀ (w : World) (sp : Nat → Bool), DataW.TrodVars enc P w sp s.vars ([] : List (DataW H)) [] := by intro w sp; rw [hv]; exact rfl
  refine ⟨ds, [], p, [], p, [], hW', ?_, ?_, ?_, World.keptBut_mono (fun x hx => ⟨hx, .inr (.inl hx)⟩) (hB.frame (· ∈ p)), fun _ => ⟨hok, [.lit (.bool true)] ++ ds, [], [] ++ p, ⟨[] ++ p, [], trodAll_append (hargs _ (fun _ _ => rfl)) (hrt 0 _ _), hv0 _ _, by simp, ?_, by simpa using hn⟩, fun x hx _ => by simpa using hx⟩⟩
  · rw [e0]; exact hrt _ _ _
  · rw [e0]; exact hargs _ (fun x hx => by simpa using hold x hx)
  · rw [e0]; exact hv0 _ _
  · intro b off hp
    have hp' : MemPlace.cell b off ∈ p := by simpa using hp
    rw [hfz _ (hold _ hp')]
    exact hz b off hp'

/-- From a law's exact contract to its row's end. -/
theorem law_calls {H : Type} {enc : TypeId × Value → H} {P : Program} {G : Globs} {fid : FuncId} {f : Func} {s : ChangeSpec} {apart fresh handsOn again : Bool} {W : World} {args : Array Value} {ds gs : List (DataW H)} {before : List MemPlace} {tb : TypeId} {avs : List AV}
    (hl : laidOutB P = true) (hr : ∀ t ∈ f.params.toList, P.readableRec t = true ∧ t < P.types.size) (hv : s.vars = []) (hres : f.resultTypes = #[tb]) (hb : P.underlying tb = some .bool) (hs : s.fn H (ds ++ gs) = { results := [.lit (.bool true)], args := ds })
    (hW : DataW.Whole enc P f.params.toList s.vars apart W args.toList ds gs before) (hG : ∀ g v, G g = some v → ∀ m', AVRel (I0 W) m' v (.pointer (some ⟨g, 0, none⟩))) (hargs : AVRels (I0 W) [] avs args.toList)
    (hc : AEx P G fid avs [] (.ret (.sc (.bool true))) []) :
    Calls P fid args W fun e W' => ∃ v, e = .returned v ∧ s.post enc P f apart fresh handsOn again W args v W' := by
  have := hc.2 (I0 W) [] W args.toList (inv0 hG) hargs
  rw [show args.toList.toArray = args by simp] at this
  refine this.mono fun e W' ⟨r, h', I', m', ⟨hr1, hh⟩, he, hi, ht⟩ => ?_
  subst hr1
  have hev : e = .returned (.bool true) := by
    cases e with
    | returned x =>
      have he' : AVRel I' m' (.sc (.bool true)) x := he
      cases he'
      rfl
    | panicked ch =>
      obtain ⟨_, _, hx⟩ := he
    | _ => exact absurd he (by simp [EndRel])
  exact ⟨_, hev, law_post hl hr hv hres hb hs hW (below_of_trans ht) (frozen_of_trans ht)⟩
end Go.Apx
end

/- ABSTRACT MACHINE, part 28: mutable slices lent to functions that only read. -/
section
namespace Go.Apx
set_option linter.unusedVariables false
set_option linter.unusedSimpArgs false

/-- Values that hold no memory. -/
def flatV : AV → Bool
  | .sc _ => true
  | .tup vs => vs.all fun v => match v with | .sc _ => true | _ => false
  | _ => false
theorem flatV_rel {I I' : Imm} {m m' : Locs} {v : AV} {x : Value} (hv : flatV v = true) (h : AVRel I m v x) : AVRel I' m' v x := by
  cases h with
  | sc x => exact .sc x
  | tup cs vs hl hr =>
    refine .tup cs vs hl fun i a y ha hy => ?_
    have h1 := hr i a y ha hy
    simp only [flatV, List.all_eq_true] at hv
    have := hv a (List.mem_of_getElem? ha)
    cases a <;> simp at this
    cases h1
    exact .sc _
  | _ => cases hv

/-- Arguments that can be handed on as immutable ones. -/
def Lends (h : AHeap) (us vs : List AV) : Prop := ∀ (G : Globs) (I : Imm) (m : Locs) (w : World) (xs : List Value), Inv G I m h w → AVRels I m us xs → AVRels (I0 w) [] vs xs

/-- A function that only reads, and hands back no memory, may be lent what is mutable. -/
theorem lend {P : Program} {G : Globs} {f : FuncId} {us vs : List AV} {h : AHeap} {v : AV} (hc : AEx P G f vs [] (.ret v) []) (hv : flatV v = true) (hl : Lends h us vs) : AEx P G f us h (.ret v) h := by
  refine ⟨hc.1, fun I m w xs hi ha => ?_⟩
  have hle : ImmLe I (I0 w) := fun b o y hy => hi.imm b o y hy
  have hg : ∀ g u, G g = some u → ∀ m', AVRel (I0 w) m' u (.pointer (some ⟨g, 0, none⟩)) := fun g u h m' => (hi.glob g u h m').mono hle (.refl m')
  refine (hc.2 (I0 w) [] w xs (inv0 hg) (hl G I m w xs hi ha)).mono fun e w' hx => ?_
  obtain ⟨r, h', I', m', ⟨rfl, rfl⟩, he, hi', ht⟩ := hx
  have hno : ∀ (b o : Nat) (i : Nat) (l : Loc), ([] : Locs)[i]? = some l → ¬ l.owns b o := fun b o i l h => by simp at h
  have hcell : ∀ b p, b < w.heap.size → w'.cell? ⟨b, p, none⟩ = w.cell? ⟨b, p, none⟩ := fun b p hb => ht.cell b p hb (hno b p)
  have hblk : ∀ b, b < w.heap.size → w'.heap[b]? = w.heap[b]? := fun b hb => ht.blk b hb fun i l o h => hno b o i l h
  refine ⟨.ret v, h, I, m, ⟨rfl, rfl⟩, ?_, ?_, ?_⟩
  · cases e with
    | returned x =>
      have he' : AVRel I' m' v x := he
      exact flatV_rel hv he'
    | panicked ch => exact he.elim
    | _ => exact he.elim
  · refine hi.frame (.refl I) ht.size hcell ht.froz hblk (fun b o _ h => h) fun b o x hx => ?_
    rw [hcell b o (hi.imm_lt hx)]
    exact hi.imm b o x hx
  · exact { os := ht.os, tape := ht.tape, output := ht.output, size := ht.size, cell := fun b o hb _ => hcell b o hb, froz := ht.froz, blk := fun b hb _ => hblk b hb, imm := .refl I, own := fun i l b o h1 h2 _ => ⟨i, l, h1, h2⟩, immNew := fun b o _ h => .inl h, loc := fun i l _ h => ⟨l, h, .refl l⟩ }

theorem Lends.nil {h : AHeap} : Lends h [] [] := fun G I m w xs _ ha => by
  obtain rfl := AVRels.nil_iff.1 ha
  exact .nil
theorem Lends.cons {h : AHeap} {u v : AV} {us vs : List AV} (h1 : ∀ (G : Globs) (I : Imm) (m : Locs) (w : World) (x : Value), Inv G I m h w → AVRel I m u x → AVRel (I0 w) [] v x) (h2 : Lends h us vs) : Lends h (u :: us) (v :: vs) := fun G I m w xs hi ha => by
  obtain ⟨y, ys, rfl, g1, g2⟩ := AVRels.cons_iff.1 ha
  exact .cons (h1 G I m w y hi g1) (h2 G I m w ys hi g2)
/-- What knows no object. -/
theorem lend_same {h : AHeap} {v : AV} (hv : v.inb 0 = true) : ∀ (G : Globs) (I : Imm) (m : Locs) (w : World) (x : Value), Inv G I m h w → AVRel I m v x → AVRel (I0 w) [] v x := fun G I m w x hi hx =>
  (hx.mono (fun b o y hy => hi.imm b o y hy) (.refl m)).cut (n := 0) (Nat.zero_le _) (fun j hj => absurd hj (Nat.not_lt_zero _)) hv
/-- A mutable slice. -/
theorem lend_rf {h : AHeap} {o len k : Nat} {full : Bool} {es : List AV} (ho : h[o]? = some (.cells 0 (es.flatMap AV.cells))) (hlen : es.length = len) (hk : 0 < k) (hw : ∀ e ∈ es, e.cells.length = k) (hone : ∀ c ∈ es.flatMap AV.cells, c.one = true) (hb : ∀ c ∈ es.flatMap AV.cells, c.inb 0 = true) :
    ∀ (G : Globs) (I : Imm) (m : Locs) (w : World) (x : Value), Inv G I m h w → AVRel I m (.rf o 0 0 len full) x → AVRel (I0 w) [] (.sl k es .any) x := fun G I m w x hi hx => by
  cases hx with
  | rf _ _ _ _ _ a cap ho' hle hf hp =>
    have hlt : o < m.length := ho'
    obtain ⟨b, lo, n, vs, hl, hn, hr, h1, hc, hall⟩ := hi.obj o _ m[o] ho (by simp [hlt])
    have hm : m[o]? = some (.cells 0 b lo n) := by rw [← hl]; simp [hlt]
    have hrel : ∀ (i : Nat) (c : AV) (y : Value), (es.flatMap AV.cells)[i]? = some c → vs[i]? = some y → AVRel (I0 w) [] c y := fun i c y hci hyi =>
      lend_same (hb c (List.mem_of_getElem? hci)) G I m w y hi (hr.2 i c y hci hyi)
    subst hlen
    by_cases h0 : es.length = 0
    · have he : es = [] := List.eq_nil_of_length_eq_zero h0
      subst he
      exact .sl k [] .any a cap [] (by intro e; cases e) hle hk (by simp) (by simp) rfl (by simp) (fun i y hy => by simp at hy) (fun h => absurd rfl h) trivial
    · obtain ⟨_, ha⟩ := hp h0 0 b lo n hm
      have ha := ha rfl
      subst ha
      refine .sl k es .any _ cap vs (by intro e; cases e) hle hk hw hone hr.1 hrel (fun i y hy => ?_) (fun _ => rfl) trivial
      show w.cell? _ = _
      have := hc i y hy
      simpa using this
end Go.Apx
end
