/- ABSTRACT MACHINE, part 8: new blocks, stores into objects, growth in place. -/
import Derived.Test.YtbijnfhclfimeaaDoorAm7
namespace Go.Apx
set_option linter.unusedVariables false
set_option linter.unusedSimpArgs false

section
variable {G : Globs} {k : Nat} {I : Imm} {m : Locs} {w : World} {h : AHeap}

theorem getElem?_append_one {α : Type} {l : List α} {x y : α} {i : Nat} (h : (l ++ [x])[i]? = some y) : l[i]? = some y ∨ (i = l.length ∧ y = x) := by
  rw [List.getElem?_append] at h
  split at h
  · exact .inl h
  · rename_i hi
    have : i - l.length = 0 := by
      have := (List.getElem?_eq_some_iff.1 h).1
      simp at this; omega
    rw [this] at h
    simp at h
    exact .inr ⟨by omega, h.symm⟩

/-- A new block: its first values immutable, the rest an object's. -/
theorem Inv.allocNew (hv : Inv G I m h w) (ob : Obj) (pre : List Value) (l : Loc) (obj : AObj)
    (hpre : ∀ (i : Nat) (x : Value), pre[i]? = some x → (w.alloc ob).cell? ⟨w.heap.size, i, none⟩ = some x)
    (howns : ∀ b o, l.owns b o → b = w.heap.size ∧ pre.length ≤ o)
    (hobj : ObjRel (I.row w.heap.size pre) (m ++ [l]) (w.alloc ob) obj l) :
    Inv G (I.row w.heap.size pre) (m ++ [l]) (h ++ [obj]) (w.alloc ob) ∧ Trans m.length I m w (I.row w.heap.size pre) (m ++ [l]) (w.alloc ob) ∧ LocsLe m (m ++ [l]) := by
  have hle : ImmLe I (I.row w.heap.size pre) := Imm.row_le hv.imm_new
  have hold : ∀ b o, b < w.heap.size → I.row w.heap.size pre b o = I b o := fun b o hb => by
    unfold Imm.row; rw [if_neg (Nat.ne_of_lt hb)]
  have hml := LocsLe.append m [l]
  have hsz : w.heap.size ≤ (w.alloc ob).heap.size := by simp
  refine ⟨?_, ?_, hml⟩
  · exact
    { len := by simp [hv.len]
      obj := fun i o l' ho hl => by
        rcases getElem?_append_one hl with hl1 | ⟨hi, rfl⟩
        · have hi : i < m.length := (List.getElem?_eq_some_iff.1 hl1).1
          rcases getElem?_append_one ho with ho1 | ⟨hi', _⟩
          · exact (hv.obj i o l' ho1 hl1).mono hle hml
              (fun b p hp => ⟨World.cell?_alloc_lt w _ _ (hv.lt i l' b p hl1 hp), World.frozen?_alloc_old w _ _ (Nat.ne_of_lt (hv.lt i l' b p hl1 hp))⟩)
              (fun b e => heap_alloc_lt (hv.lt i l' b 0 hl1 (by subst e; exact rfl)))
          · have := hv.len; omega
        · rcases getElem?_append_one ho with ho1 | ⟨_, rfl⟩
          · have := (List.getElem?_eq_some_iff.1 ho1).1
            have := hv.len; omega
          · exact hobj
      imm := fun b o v hx => by
        unfold Imm.row at hx
        split at hx
        · rename_i e; subst e; exact hpre o v hx
        · rw [World.cell?_alloc_lt w _ _ (hv.imm_lt hx)]; exact hv.imm b o v hx
      disj := fun i j l1 l2 b o h1 h2 o1 o2 => by
        rcases getElem?_append_one h1 with h1' | ⟨e1, rfl⟩ <;> rcases getElem?_append_one h2 with h2' | ⟨e2, rfl⟩
        · exact hv.disj i j l1 l2 b o h1' h2' o1 o2
        · have := hv.lt i l1 b o h1' o1
          have := (howns b o o2).1
          omega
        · have := hv.lt j l2 b o h2' o2
          have := (howns b o o1).1
          omega
        · omega
      immd := fun i l1 b o h1 o1 => by
        rcases getElem?_append_one h1 with h1' | ⟨e1, rfl⟩
        · rw [hold b o (hv.lt i l1 b o h1' o1)]; exact hv.immd i l1 b o h1' o1
        · obtain ⟨rfl, hp⟩ := howns b o o1
          unfold Imm.row
          rw [if_pos rfl]
          simp [hp]
      lt := fun i l1 b o h1 o1 => by
        rcases getElem?_append_one h1 with h1' | ⟨e1, rfl⟩
        · have := hv.lt i l1 b o h1' o1; simp; omega
        · have := (howns b o o1).1; simp; omega
      glob := fun g v hg m' => (hv.glob g v hg m').mono hle (.refl m') }
  · exact
    { os := rfl, tape := rfl, output := rfl, size := hsz, cell := fun b o hb _ => World.cell?_alloc_lt w _ _ hb,
      froz := fun a ha => World.frozen?_alloc_old w _ a (Nat.ne_of_lt ha), blk := fun b hb _ => heap_alloc_lt hb, imm := hle,
      own := fun i l1 b o h1 o1 hb => by
        rcases getElem?_append_one h1 with h1' | ⟨e1, rfl⟩
        · exact ⟨i, l1, h1', o1⟩
        · have := (howns b o o1).1; omega
      immNew := fun b o hb hx => .inl (by rw [hold b o hb] at hx; exact hx),
      loc := fun i l1 _ hl => by obtain ⟨l', h1, h2⟩ := hml i l1 hl; exact ⟨l', h1, h2⟩ }

theorem Imm.row_nil {B : Nat} (hn : ∀ o, I B o = none) : I.row B [] = I := by
  funext b o
  unfold Imm.row
  split
  · rename_i e; subst e; simp [hn o]
  · rfl

/-- A new object of cells. -/
theorem Inv.allocCells (hv : Inv G I m h w) (cs : Array Value) (e : TypeId) (z : List AV) (hz : AVRels I m z cs.toList) (h1 : ∀ c ∈ z, c.one = true) :
    Inv G I (m ++ [.cells 0 w.heap.size 0 cs.size]) (h ++ [.cells 0 z]) (w.alloc (.cells cs e)) ∧
    Trans m.length I m w I (m ++ [.cells 0 w.heap.size 0 cs.size]) (w.alloc (.cells cs e)) ∧ LocsLe m (m ++ [.cells 0 w.heap.size 0 cs.size]) := by
  have := hv.allocNew (.cells cs e) [] (.cells 0 w.heap.size 0 cs.size) (.cells 0 z) (fun i x hx => by simp at hx)
    (fun b o hp => ⟨hp.1, by simp⟩) ?_
  · rw [Imm.row_nil hv.imm_new] at this; exact this
  · rw [Imm.row_nil hv.imm_new]
    refine ⟨w.heap.size, 0, cs.size, cs.toList, rfl, by have := hz.1; simp at this; omega, hz.mono (.refl I) (LocsLe.append m _), h1, fun i x hx => ?_, fun i hi => ?_⟩
    · simpa using hx
    · simp [hi]

/-- A store into an object. -/
theorem Inv.store (hv : Inv G I m h w) {i g b lo n off : Nat} {cs us' : List AV} {us : List Value} (ho : h[i]? = some (.cells g cs)) (hl : m[i]? = some (.cells g b lo n))
    (hoff : off + us.length ≤ cs.length) (hu : AVRels I m us' us) (h1 : ∀ c ∈ us', c.one = true) :
    Inv G I m (h.set i (.cells g (cs.take off ++ us' ++ cs.drop (off + us.length)))) (w.setCells b (lo + off) us) ∧
    (∀ k, Trans k I m w I m (w.setCells b (lo + off) us)) := by
  obtain ⟨b', lo', n', vs, e, hle, hrel, hone, hcell, hall⟩ := hv.obj i _ _ ho hl
  cases e
  have hown : ∀ o, lo + off ≤ o → o < lo + off + us.length → (Loc.cells g b lo n).owns b o := fun o h1 h2 => ⟨rfl, by omega, by omega⟩
  have hlen := hrel.1
  have hother : ∀ (j : Nat) (l : Loc) (b' o : Nat), m[j]? = some l → l.owns b' o → j ≠ i → ¬ (b' = b ∧ lo + off ≤ o ∧ o < lo + off + us.length) := by
    rintro j l b' o hj hp hne ⟨rfl, h2, h3⟩
    exact hne (hv.disj j i l _ b' o hj hl hp (hown o h2 h3))
  have himm : ∀ b' o x, I b' o = some x → ¬ (b' = b ∧ lo + off ≤ o ∧ o < lo + off + us.length) := by
    rintro b' o x hx ⟨rfl, h2, h3⟩
    rw [hv.immd i _ b' o hl (hown o h2 h3)] at hx; cases hx
  refine ⟨?_, fun k => ?_⟩
  · exact
    { len := by simp [hv.len]
      obj := fun j o l hj hlj => by
        rw [List.getElem?_set] at hj
        split at hj
        · rename_i e; subst e
          split at hj
          · simp at hj; subst hj
            rw [hl] at hlj; simp at hlj; subst hlj
            refine ⟨b, lo, n, vs.take off ++ us ++ vs.drop (off + us.length), rfl, ?_, ?_, ?_, fun q x hx => ?_, fun q hq => ?_⟩
            · have := hu.1; simp; omega
            · rw [← List.append_assoc]
              exact ((hrel.take off).append hu).append (hrel.drop _)
            · intro c hc
              simp only [List.mem_append] at hc
              rcases hc with hc | hc | hc
              · exact hone c (List.mem_of_mem_take hc)
              · exact h1 c hc
              · exact hone c (List.mem_of_mem_drop hc)
            · have hcs : ∀ q', q' < vs.length → (w.cell? ⟨b, lo + q', none⟩).isSome = true := fun q' hq' => (hall q' (by omega)).1
              rw [List.append_assoc, List.getElem?_append] at hx
              have hto : (vs.take off).length = off := by simp; omega
              split at hx
              · rename_i hlt
                rw [hto] at hlt
                rw [cell?_setCells (by omega)]
                rw [List.getElem?_take] at hx
                simp [hlt] at hx
                exact hcell q x hx
              · rename_i hge
                rw [hto] at hge hx
                rw [List.getElem?_append] at hx
                split at hx
                · rename_i hlt2
                  have := World.cell?_setCells_in b us (lo + off) w (fun q hq => by have := hcs (off + q) (by omega); rwa [← Nat.add_assoc] at this) (q - off) hlt2
                  rw [show lo + off + (q - off) = lo + q by omega] at this
                  rw [this]
                  rw [List.getElem?_eq_getElem hlt2] at hx
                  exact hx
                · rename_i hge2
                  rw [cell?_setCells (by omega)]
                  rw [List.getElem?_drop] at hx
                  rw [show off + us.length + (q - off - us.length) = q by omega] at hx
                  exact hcell q x hx
            · have hq' := hall q hq
              rw [World.frozen?_setCells]
              refine ⟨?_, hq'.2⟩
              by_cases hin : lo + off ≤ lo + q ∧ lo + q < lo + off + us.length
              · have := World.cell?_setCells_in b us (lo + off) w (fun q' hq'' => by have := (hall (off + q') (by omega)).1; rwa [← Nat.add_assoc] at this) (q - off) (by omega)
                rw [show lo + off + (q - off) = lo + q by omega] at this
                rw [this]
                rfl
              · rw [cell?_setCells (by omega)]; exact hq'.1
          · cases hj
        · rename_i hne
          exact (hv.obj j o l hj hlj).mono (.refl I) (.refl m)
            (fun b' p hp => ⟨cell?_setCells (hother j l b' p hlj hp (Ne.symm hne)), World.frozen?_setCells _ _ _ _ _⟩)
            (fun b' e => by
              subst e
              cases us with
              | nil => rfl
              | cons u us =>
                refine heap_setCells fun e => ?_
                subst e
                exact hother j (.whole b') b' (lo + off) hlj rfl (Ne.symm hne) ⟨rfl, Nat.le_refl _, by simp⟩)
      imm := fun b' o x hx => by rw [cell?_setCells (himm b' o x hx)]; exact hv.imm b' o x hx
      disj := hv.disj
      immd := hv.immd
      lt := fun j l b' o hj hp => by rw [size_setCells]; exact hv.lt j l b' o hj hp
      glob := hv.glob }
  · obtain ⟨e1, e2, e3⟩ := misc_setCells (b := b) (o := lo + off) (vs := us) (w := w)
    exact
    { os := e1, tape := e2, output := e3, size := by rw [size_setCells]; exact Nat.le_refl _
      cell := fun b' o hb hn => cell?_setCells fun ⟨h1, h2, h3⟩ => hn i _ hl (h1 ▸ hown o h2 h3)
      froz := fun a ha => World.frozen?_setCells _ _ _ _ _
      blk := fun b' hb hn => by
        cases us with
        | nil => rfl
        | cons u us =>
          refine heap_setCells fun e => ?_
          subst e
          exact hn i _ (lo + off) hl (hown _ (Nat.le_refl _) (by simp))
      imm := .refl I
      own := fun j l b' o h1 h2 _ => ⟨j, l, h1, h2⟩
      immNew := fun b' o _ hx => .inl hx
      loc := fun j l _ hj => ⟨l, hj, .refl l⟩ }

/-- A map is written. -/
theorem Inv.setMap (hv : Inv G I m h w) {i b : Nat} {es es' : List (AV × AV)} {ents' : Array MapEntry} {clock' : Nat} (ho : h[i]? = some (.amap es)) (hl : m[i]? = some (.whole b))
    (hrel : MapRel I m es' ents'.toList clock') :
    Inv G I m (h.set i (.amap es')) { w with heap := w.heap.setIfInBounds b (.map ents' clock') } ∧
    (∀ k, Trans k I m w I m { w with heap := w.heap.setIfInBounds b (.map ents' clock') }) := by
  obtain ⟨b', ents, clock, e, hb, hr⟩ := hv.obj i _ _ ho hl
  cases e
  have hlt : b < w.heap.size := hv.lt i _ b 0 hl rfl
  have hcell : ∀ b' o, b' ≠ b → World.cell? { w with heap := w.heap.setIfInBounds b (.map ents' clock') } ⟨b', o, none⟩ = w.cell? ⟨b', o, none⟩ := by
    intro b' o hne
    simp only [World.cell?]
    rw [Array.getElem?_setIfInBounds_ne (Ne.symm hne)]
  have hfroz : ∀ a : Addr, World.frozen? { w with heap := w.heap.setIfInBounds b (.map ents' clock') } a = w.frozen? a := by
    intro a
    simp only [World.frozen?]
    by_cases hne : a.block = b
    · rw [hne, Array.getElem?_setIfInBounds_self_of_lt hlt, hb]
    · rw [Array.getElem?_setIfInBounds_ne (Ne.symm hne)]
  have hheap : ∀ b', b' ≠ b → (w.heap.setIfInBounds b (.map ents' clock'))[b']? = w.heap[b']? := fun b' hne => Array.getElem?_setIfInBounds_ne (Ne.symm hne)
  have hno : ∀ o, w.cell? ⟨b, o, none⟩ = none := fun o => by simp [World.cell?, hb]
  have himm : ∀ b' o x, I b' o = some x → b' ≠ b := by
    rintro b' o x hx rfl
    have := hv.imm b' o x hx
    rw [hno] at this; cases this
  refine ⟨?_, fun k => ?_⟩
  · exact
    { len := by simp [hv.len]
      obj := fun j o l hj hlj => by
        rw [List.getElem?_set] at hj
        split at hj
        · rename_i e; subst e
          split at hj
          · simp at hj; subst hj
            rw [hl] at hlj; simp at hlj; subst hlj
            exact ⟨b, ents', clock', rfl, Array.getElem?_setIfInBounds_self_of_lt hlt, hrel⟩
          · cases hj
        · rename_i hne
          have hnb : ∀ b' p, l.owns b' p → b' ≠ b := by
            rintro b' p hp rfl
            exact hne (hv.disj j i l _ b' p hlj hl hp rfl).symm
          exact (hv.obj j o l hj hlj).mono (.refl I) (.refl m) (fun b' p hp => ⟨hcell b' p (hnb b' p hp), hfroz _⟩)
            (fun b' e => hheap b' (hnb b' 0 (by subst e; exact rfl)))
      imm := fun b' o x hx => by rw [hcell b' o (himm b' o x hx)]; exact hv.imm b' o x hx
      disj := hv.disj
      immd := hv.immd
      lt := fun j l b' o hj hp => by simp; exact hv.lt j l b' o hj hp
      glob := hv.glob }
  · exact
    { os := rfl, tape := rfl, output := rfl, size := by simp
      cell := fun b' o hb' hn => hcell b' o fun e => hn i _ hl (by subst e; exact rfl)
      froz := fun a ha => hfroz a
      blk := fun b' hb' hn => hheap b' fun e => hn i _ 0 hl (by subst e; exact rfl)
      imm := .refl I
      own := fun j l b' o h1 h2 _ => ⟨j, l, h1, h2⟩
      immNew := fun b' o _ hx => .inl hx
      loc := fun j l _ hj => ⟨l, hj, .refl l⟩ }

/-- Immutable memory with more cells of a block. -/
def Imm.add (I : Imm) (b off : Nat) (vs : List Value) : Imm := fun b' o => if b' = b ∧ off ≤ o ∧ o < off + vs.length then vs[o - off]? else I b' o

theorem Lies.add {b off : Nat} {vs : List Value} : Lies (I.add b off vs) b off vs := by
  intro i x hx
  have hi : i < vs.length := (List.getElem?_eq_some_iff.1 hx).1
  unfold Imm.add
  rw [if_pos ⟨rfl, by omega, by omega⟩]
  simpa using hx

/-- A slice grows in its spare room. -/
theorem Inv.grow (hv : Inv G I m h w) {t n n' b s e : Nat} {us : List Value} (ho : h[t]? = some (.tok n)) (hl : m[t]? = some (.tok n b s e)) (hlen : s + us.length ≤ e) (hn : n < n')
    (h1 : ∀ x ∈ us, x.oneCell' = true) :
    Inv G (I.add b s us) (m.set t (.tok n' b (s + us.length) e)) (h.set t (.tok n')) (w.setCells b s us) ∧
    (∀ k, Trans k I m w (I.add b s us) (m.set t (.tok n' b (s + us.length) e)) (w.setCells b s us)) ∧ LocsLe m (m.set t (.tok n' b (s + us.length) e)) := by
  obtain ⟨b', s', e', he, hse, hall⟩ := hv.obj t _ _ ho hl
  cases he
  have htl : t < m.length := (List.getElem?_eq_some_iff.1 hl).1
  have hown : ∀ o, s ≤ o → o < s + us.length → (Loc.tok n b s e).owns b o := fun o h1 h2 => ⟨rfl, by omega, by omega⟩
  have hnone : ∀ o, s ≤ o → o < s + us.length → I b o = none := fun o h1 h2 => hv.immd t _ b o hl (hown o h1 h2)
  have hle : ImmLe I (I.add b s us) := by
    intro b' o y hy
    unfold Imm.add
    split
    · rename_i hc; obtain ⟨rfl, h2, h3⟩ := hc; rw [hnone o h2 h3] at hy; cases hy
    · exact hy
  have hml : LocsLe m (m.set t (.tok n' b (s + us.length) e)) := by
    intro i l hi
    rw [List.getElem?_set]
    split
    · rename_i he; subst he
      rw [hl] at hi; simp at hi; subst hi
      exact ⟨_, rfl, .tok hn⟩
    · exact ⟨l, hi, .refl l⟩
  have hset : ∀ (j : Nat) (l : Loc), (m.set t (.tok n' b (s + us.length) e))[j]? = some l → (j = t ∧ l = .tok n' b (s + us.length) e) ∨ (j ≠ t ∧ m[j]? = some l) := by
    intro j l hj
    rw [List.getElem?_set] at hj
    split at hj
    · rename_i he; subst he; simp [htl] at hj; exact .inl ⟨rfl, hj.symm⟩
    · rename_i he; exact .inr ⟨Ne.symm he, hj⟩
  have hsub : ∀ b' o, (Loc.tok n' b (s + us.length) e).owns b' o → (Loc.tok n b s e).owns b' o := fun b' o hp => ⟨hp.1, by have := hp.2.1; omega, hp.2.2⟩
  have hback : ∀ (j : Nat) (l : Loc) (b' o : Nat), (m.set t (.tok n' b (s + us.length) e))[j]? = some l → l.owns b' o → ∃ l', m[j]? = some l' ∧ l'.owns b' o := by
    intro j l b' o hj hp
    rcases hset j l hj with ⟨rfl, rfl⟩ | ⟨_, hj⟩
    · exact ⟨_, hl, hsub b' o hp⟩
    · exact ⟨l, hj, hp⟩
  have hother : ∀ (j : Nat) (l : Loc) (b' o : Nat), m[j]? = some l → l.owns b' o → j ≠ t → ¬ (b' = b ∧ s ≤ o ∧ o < s + us.length) := by
    rintro j l b' o hj hp hne ⟨rfl, h2, h3⟩
    exact hne (hv.disj j t l _ b' o hj hl hp (hown o h2 h3))
  have hin : ∀ q, q < us.length → (w.setCells b s us).cell? ⟨b, s + q, none⟩ = us[q]? := fun q hq => by
    rw [World.cell?_setCells_in b us s w (fun q hq => (hall (s + q) (by omega) (by omega)).1) q hq, List.getElem?_eq_getElem hq]
  have himm : ∀ b' o x, I.add b s us b' o = some x → (w.setCells b s us).cell? ⟨b', o, none⟩ = some x := by
    intro b' o x hx
    unfold Imm.add at hx
    split at hx
    · rename_i hc; obtain ⟨rfl, h2, h3⟩ := hc
      have := hin (o - s) (by omega)
      rw [show s + (o - s) = o by omega] at this
      rw [this]; exact hx
    · rename_i hc
      rw [cell?_setCells hc]; exact hv.imm b' o x hx
  refine ⟨?_, fun k => ?_, hml⟩
  · exact
    { len := by simp [hv.len]
      obj := fun j o l hj hlj => by
        rcases hset j l hlj with ⟨rfl, rfl⟩ | ⟨hne, hlj'⟩
        · have hjl : j < h.length := by have := hv.len; omega
          rw [List.getElem?_set] at hj
          simp [hjl] at hj; subst hj
          refine ⟨b, s + us.length, e, rfl, hlen, fun o h2 h3 => ?_⟩
          have := hall o (by omega) h3
          rw [cell?_setCells (by omega), World.frozen?_setCells]
          exact this
        · rw [List.getElem?_set] at hj
          rw [if_neg (Ne.symm hne)] at hj
          exact (hv.obj j o l hj hlj').mono hle hml
            (fun b' p hp => ⟨cell?_setCells (hother j l b' p hlj' hp hne), World.frozen?_setCells _ _ _ _ _⟩)
            (fun b' he => by
              subst he
              cases us with
              | nil => rfl
              | cons u us =>
                refine heap_setCells fun he => ?_
                subst he
                exact hother j (.whole b') b' s hlj' rfl hne ⟨rfl, Nat.le_refl _, by simp⟩)
      imm := himm
      disj := fun i j l1 l2 b' o h1 h2 o1 o2 => by
        obtain ⟨l1', h1', o1'⟩ := hback i l1 b' o h1 o1
        obtain ⟨l2', h2', o2'⟩ := hback j l2 b' o h2 o2
        exact hv.disj i j l1' l2' b' o h1' h2' o1' o2'
      immd := fun j l b' o hj hp => by
        unfold Imm.add
        rcases hset j l hj with ⟨rfl, rfl⟩ | ⟨hne, hj'⟩
        · rw [if_neg (by have := hp.2.1; omega)]
          exact hv.immd j _ b' o hl (hsub b' o hp)
        · rw [if_neg (hother j l b' o hj' hp hne)]
          exact hv.immd j l b' o hj' hp
      lt := fun j l b' o hj hp => by
        obtain ⟨l', h1, o1⟩ := hback j l b' o hj hp
        rw [size_setCells]; exact hv.lt j l' b' o h1 o1
      glob := fun g v hg m' => (hv.glob g v hg m').mono hle (.refl m') }
  · obtain ⟨e1, e2, e3⟩ := misc_setCells (b := b) (o := s) (vs := us) (w := w)
    exact
    { os := e1, tape := e2, output := e3, size := by rw [size_setCells]; exact Nat.le_refl _
      cell := fun b' o hb hn => cell?_setCells fun ⟨h1, h2, h3⟩ => hn t _ hl (h1 ▸ hown o h2 h3)
      froz := fun a ha => World.frozen?_setCells _ _ _ _ _
      blk := fun b' hb hn => by
        cases us with
        | nil => rfl
        | cons u us =>
          refine heap_setCells fun e => ?_
          subst e
          exact hn t _ s hl (hown _ (Nat.le_refl _) (by simp))
      imm := hle
      own := fun j l b' o h1 h2 _ => by obtain ⟨l', h3, h4⟩ := hback j l b' o h1 h2; exact ⟨j, l', h3, h4⟩
      immNew := fun b' o _ hx => by
        unfold Imm.add at hx
        split at hx
        · rename_i hc; obtain ⟨rfl, h2, h3⟩ := hc
          exact .inr ⟨t, _, hl, hown o h2 h3⟩
        · exact .inl hx
      loc := fun j l _ hj => hml j l hj }

end
end Go.Apx
