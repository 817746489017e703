/- ABSTRACT MACHINE, part 11: each operation does what the abstract one says (VI): append, copy, make, len, slice expressions. -/
import Derived.Test.YtbijnfhclfimeaaDoorAm10
namespace Go.Apx
set_option linter.unusedVariables false
set_option linter.unusedSimpArgs false

section
variable {P : Program} {G : Globs} {N S k : Nat} {D : Ro} {o : Oper} {a : Act} {I : Imm} {m : Locs} {w : World} {env : Env} {h : AHeap} {ann : List Nat}

theorem Inv.drew (hv : Inv G I m h w) : Inv G I m h w.drew := ⟨hv.len, hv.obj, hv.imm, hv.disj, hv.immd, hv.lt, hv.glob⟩
theorem Trans.drew (k : Nat) (I : Imm) (m : Locs) (w : World) : Trans k I m w I m w.drew :=
  { os := rfl, tape := rfl, output := rfl, size := Nat.le_refl _, cell := fun _ _ _ _ => rfl, froz := fun _ _ => rfl, blk := fun _ _ _ => rfl,
    imm := .refl I, own := fun i l b o h h' _ => ⟨i, l, h, h'⟩, immNew := fun _ _ _ h => .inl h, loc := fun i l _ h => ⟨l, h, .refl l⟩ }

/-- What a row of elements lies in. -/
theorem elems_rel {q : Nat} {u : AV} {xs : List AV} {x : Value} (he : elems h q u = some xs) (hu : AVRel I m u x) :
    ∃ base cap vs, x = .slice base xs.length cap ∧ xs.length ≤ cap ∧ AVRels I m (xs.flatMap AV.cells) vs ∧ (∀ e ∈ xs, e.cells.length = q) ∧ (∀ c ∈ xs.flatMap AV.cells, c.one = true) ∧
      (base = none → xs = []) ∧ (∀ ad, base = some ad → Lies I ad.block ad.off vs ∧ (xs ≠ [] → ad.spot = none)) := by
  unfold elems at he
  split at he
  · rename_i q' es c
    split at he
    · rename_i hq
      simp at he; subst he
      cases hu with
      | slnil => exact ⟨none, 0, [], rfl, by simp, by simpa using AVRels.nil, by simp, by simp, fun _ => rfl, fun ad h => by cases h⟩
      | sl _ _ _ ad cap vs hc hle hk hw h1 hl hrel hI hs hcap =>
        refine ⟨some ad, cap, vs, rfl, hle, ⟨hl, hrel⟩, ?_, h1, (fun h => by cases h), (fun ad' h => by cases h; exact ⟨hI, hs⟩)⟩
        rcases hq with rfl | rfl
        · exact hw
        · simp
    · cases he
  · cases he

theorem lies_cells (hv : Inv G I m h w) {ad : Addr} {vs : List Value} (hI : Lies I ad.block ad.off vs) (hs : vs ≠ [] → ad.spot = none) :
    ∀ (j : Nat) (x : Value), vs[j]? = some x → w.cell? (ad.add j) = some x := by
  intro j x hx
  have hne : vs ≠ [] := by intro e; subst e; simp at hx
  rw [addr_add (hs hne)]
  exact hv.imm _ _ _ (hI j x hx)

theorem flat_ne {q : Nat} {xs : List AV} (hq : 0 < q) (hw : ∀ e ∈ xs, e.cells.length = q) : xs.flatMap AV.cells = [] ↔ xs = [] := by
  constructor
  · intro hf
    cases xs with
    | nil => rfl
    | cons e es =>
      have := hw e (by simp)
      simp at hf
      simp [hf.1] at this
      omega
  · rintro rfl; rfl

theorem run_firstCells (hv : Inv G I m h w) {q : Nat} (hq : 0 < q) {xs : List AV} {base : Option Addr} {cap : Nat} {vs : List Value} (hrel : AVRels I m (xs.flatMap AV.cells) vs) (hw : ∀ e ∈ xs, e.cells.length = q)
    (hb : base = none → xs = []) (hI : ∀ ad, base = some ad → Lies I ad.block ad.off vs ∧ (xs ≠ [] → ad.spot = none)) :
    (Builtin.firstCells q xs.length (.slice base xs.length cap)).run P w = .ok vs.toArray w := by
  have hlen : vs.length = xs.length * q := by rw [← hrel.1, flat_length xs hw]
  cases base with
  | none =>
    have := hb rfl
    subst this
    have : vs = [] := by simpa using hlen
    subst this
    simp [Builtin.firstCells]
  | some ad =>
    obtain ⟨h1, h2⟩ := hI ad rfl
    have := run_loadCells_list (P := P) w ad vs (lies_cells hv h1 fun hne => h2 fun e => hne (by subst e; simpa using hlen))
    simp [Builtin.firstCells, ← hlen, this]

theorem growBy_le (newLen : Nat) : ∀ (r c : Nat), c < newLen → Builtin.growBy newLen r c ≤ 2 * newLen + 200
  | 0, c, hc => by simp [Builtin.growBy]; omega
  | r + 1, c, hc => by
    simp only [Builtin.growBy]
    split
    · omega
    · by_cases h' : c + (c + 768) / 4 < newLen
      · exact growBy_le newLen r _ h'
      · have : ∀ r c, newLen ≤ c → Builtin.growBy newLen r c = c := by
          intro r c hc
          cases r with
          | zero => rfl
          | succ r => simp [Builtin.growBy, hc]
        rw [this r _ (by omega)]
        omega
theorem nextslicecap_le {need old : Nat} (hlt : old < need) : Builtin.nextslicecap need old ≤ 2 * need + 200 := by
  unfold Builtin.nextslicecap
  split
  · omega
  · split
    · omega
    · exact growBy_le need 4 old hlt

/-- A slice moves on with its token into a new block. -/
theorem Inv.allocTok (hv : Inv G I m h w) {t n n' : Nat} {b s e : Nat} (cs : Array Value) (el : TypeId) (pre : List Value) (ho : h[t]? = some (.tok n)) (hl : m[t]? = some (.tok n b s e)) (hn : n < n')
    (hpre : ∀ (i : Nat) (x : Value), pre[i]? = some x → cs[i]? = some x) (hle : pre.length ≤ cs.size) :
    Inv G (I.row w.heap.size pre) (m.set t (.tok n' w.heap.size pre.length cs.size)) (h.set t (.tok n')) (w.alloc (.cells cs el)) ∧
    (∀ k, Trans k I m w (I.row w.heap.size pre) (m.set t (.tok n' w.heap.size pre.length cs.size)) (w.alloc (.cells cs el))) ∧
    LocsLe m (m.set t (.tok n' w.heap.size pre.length cs.size)) := by
  have htl : t < m.length := (List.getElem?_eq_some_iff.1 hl).1
  have hleI : ImmLe I (I.row w.heap.size pre) := Imm.row_le hv.imm_new
  have hold : ∀ b o, b < w.heap.size → I.row w.heap.size pre b o = I b o := fun b o hb => by
    unfold Imm.row; rw [if_neg (Nat.ne_of_lt hb)]
  have hml : LocsLe m (m.set t (.tok n' w.heap.size pre.length cs.size)) := by
    intro i l hi
    rw [List.getElem?_set]
    split
    · rename_i he; subst he
      rw [hl] at hi; simp at hi; subst hi
      exact ⟨_, rfl, .tok hn⟩
    · exact ⟨l, hi, .refl l⟩
  have hset : ∀ (j : Nat) (l : Loc), (m.set t (.tok n' w.heap.size pre.length cs.size))[j]? = some l → (j = t ∧ l = .tok n' w.heap.size pre.length cs.size) ∨ (j ≠ t ∧ m[j]? = some l) := by
    intro j l hj
    rw [List.getElem?_set] at hj
    split at hj
    · rename_i he; subst he; simp [htl] at hj; exact .inl ⟨rfl, hj.symm⟩
    · rename_i he; exact .inr ⟨Ne.symm he, hj⟩
  refine ⟨?_, fun k => ?_, hml⟩
  · exact
    { len := by simp [hv.len]
      obj := fun j ob l hj hlj => by
        rcases hset j l hlj with ⟨rfl, rfl⟩ | ⟨hne, hlj'⟩
        · have hjl : j < h.length := by have := hv.len; omega
          rw [List.getElem?_set] at hj
          simp [hjl] at hj; subst hj
          refine ⟨w.heap.size, pre.length, cs.size, rfl, hle, fun q h1 h2 => ?_⟩
          simp [h2]
        · rw [List.getElem?_set] at hj
          rw [if_neg (Ne.symm hne)] at hj
          exact (hv.obj j ob l hj hlj').mono hleI hml
            (fun b p hp => ⟨World.cell?_alloc_lt w _ _ (hv.lt j l b p hlj' hp), World.frozen?_alloc_old w _ _ (Nat.ne_of_lt (hv.lt j l b p hlj' hp))⟩)
            (fun b e => heap_alloc_lt (hv.lt j l b 0 hlj' (by subst e; exact rfl)))
      imm := fun b o v hx => by
        unfold Imm.row at hx
        split at hx
        · rename_i e; subst e; rw [World.cell?_alloc_new]; exact hpre o v hx
        · rw [World.cell?_alloc_lt w _ _ (hv.imm_lt hx)]; exact hv.imm b o v hx
      disj := fun i j l1 l2 b o h1 h2 o1 o2 => by
        rcases hset i l1 h1 with ⟨rfl, rfl⟩ | ⟨hn1, h1'⟩ <;> rcases hset j l2 h2 with ⟨rfl, rfl⟩ | ⟨hn2, h2'⟩
        · rfl
        · have := hv.lt j l2 b o h2' o2
          have := o1.1
          omega
        · have := hv.lt i l1 b o h1' o1
          have := o2.1
          omega
        · exact hv.disj i j l1 l2 b o h1' h2' o1 o2
      immd := fun j l b o hj hp => by
        rcases hset j l hj with ⟨rfl, rfl⟩ | ⟨hne, hj'⟩
        · obtain ⟨rfl, h2, h3⟩ := hp
          unfold Imm.row
          rw [if_pos rfl]
          simp [h2]
        · rw [hold b o (hv.lt j l b o hj' hp)]; exact hv.immd j l b o hj' hp
      lt := fun j l b o hj hp => by
        rcases hset j l hj with ⟨rfl, rfl⟩ | ⟨hne, hj'⟩
        · have := hp.1; simp; omega
        · have := hv.lt j l b o hj' hp; simp; omega
      glob := fun g v hg m' => (hv.glob g v hg m').mono hleI (.refl m') }
  · exact
    { os := rfl, tape := rfl, output := rfl, size := by simp, cell := fun b o hb _ => World.cell?_alloc_lt w _ _ hb,
      froz := fun a ha => World.frozen?_alloc_old w _ a (Nat.ne_of_lt ha), blk := fun b hb _ => heap_alloc_lt hb, imm := hleI,
      own := fun j l b o hj hp hb => by
        rcases hset j l hj with ⟨rfl, rfl⟩ | ⟨hne, hj'⟩
        · have := hp.1; omega
        · exact ⟨j, l, hj', hp⟩
      immNew := fun b o hb hx => .inl (by rw [hold b o hb] at hx; exact hx),
      loc := fun i l _ hi => hml i l hi }

theorem append_parts {c : Call} {t u : TypeId} {x y : Operand} {r : Value} {w' : World} (hc : c.callee = .builtin .append) (ha : c.args.toList = [x, y]) (hT : c.argTypes.toList = [t, u]) (ho : o.op = .call c)
    (hrun : (Builtin.append_ #[t, u] o.type #[a.eval x, a.eval y]).run P w = .ok r w') : Gives P o a w r w' := by
  have h1 : c.args.map a.eval = #[a.eval x, a.eval y] := by apply Array.ext'; simp [ha]
  have h2 : c.argTypes = #[t, u] := by apply Array.ext'; simp [hT]
  left
  simp [execOp, ho, resolve, hc, h1, h2, invoke, builtin, hrun]

section
variable {t u e f ty : TypeId} {inf : TypeInfo} {len cap n : Nat} {yv : Value} {vs : List Value}

theorem run_append_none (ht : P.underlying t = some (.slice e)) (hu : P.underlying u = some (.slice f)) (hinf : P.info? e = some inf) (hn : (Builtin.lenOf yv).run P w = .ok n w)
    (hnew : (Builtin.firstCells inf.size n yv).run P w = .ok vs.toArray w) (hfit : len + n ≤ cap) :
    (Builtin.append_ #[t, u] ty #[.slice none len cap, yv]).run P w = .ok (.slice none (len + n) cap) w := by
  simp [Builtin.append_, run_under ht, run_under hu, run_size hinf, hn, hfit, hnew]

theorem run_append_some {ad : Addr} {w' : World} (ht : P.underlying t = some (.slice e)) (hu : P.underlying u = some (.slice f)) (hinf : P.info? e = some inf) (hn : (Builtin.lenOf yv).run P w = .ok n w)
    (hnew : (Builtin.firstCells inf.size n yv).run P w = .ok vs.toArray w) (hfit : len + n ≤ cap) (hst : (storeCells (ad.add (len * inf.size)) vs).run P w = .ok () w') :
    (Builtin.append_ #[t, u] ty #[.slice (some ad) len cap, yv]).run P w = .ok (.slice (some ad) (len + n) cap) w' := by
  simp [Builtin.append_, run_under ht, run_under hu, run_size hinf, hn, hfit, hnew, hst]

theorem run_append_grow {base : Option Addr} {us : List Value} {zv : Value} (ht : P.underlying t = some (.slice e)) (hu : P.underlying u = some (.slice f)) (hinf : P.info? e = some inf) (hn : (Builtin.lenOf yv).run P w = .ok n w)
    (hold : (Builtin.firstCells inf.size len (.slice base len cap)).run P w.drew = .ok us.toArray w.drew)
    (hnew : (Builtin.firstCells inf.size n yv).run P w.drew = .ok vs.toArray w.drew) (hfit : ¬ len + n ≤ cap)
    (hb : Val.small inf.bytes = true) (hb0 : 0 < inf.bytes) (hneed : len + n ≤ maxLenA) (hz : inf.zero = some zv) :
    ∃ newCap rest, len + n ≤ newCap ∧ rest.length = (newCap - (len + n)) * zv.cells.size ∧
      (Builtin.append_ #[t, u] ty #[.slice base len cap, yv]).run P w = .ok (.slice (some ⟨w.heap.size, 0, none⟩) (len + n) newCap) (w.drew.alloc (.cells (us ++ vs ++ rest).toArray e)) := by
  have hcapb : Builtin.nextslicecap (len + n) cap ≤ 2 * (len + n) + 200 := nextslicecap_le (by omega)
  have hbytes : inf.bytes ≤ 4096 := by simpa [Val.small] using hb
  have hbound : ¬ Builtin.nextslicecap (len + n) cap * inf.bytes > 2 ^ 48 := by
    have h1 : Builtin.nextslicecap (len + n) cap ≤ 8589934792 := by unfold maxLenA at hneed; omega
    have h2 : Builtin.nextslicecap (len + n) cap * inf.bytes ≤ 8589934792 * 4096 := Nat.mul_le_mul h1 hbytes
    have h3 : 8589934792 * 4096 ≤ 2 ^ 48 := by decide
    omega
  have hcut : len + n ≤ (Question.appendCap (len + n) cap e).cut (w.tape w.drawn (.appendCap (len + n) cap e)) := by simp [Question.cut]
  generalize hnc : (Question.appendCap (len + n) cap e).cut (w.tape w.drawn (.appendCap (len + n) cap e)) = newCap at hcut
  refine ⟨newCap, (Builtin.zeroCells zv.cells (newCap - (len + n))).toList, hcut, by simp [Builtin.zeroCells], ?_⟩
  have hch : (choose (.appendCap (len + n) cap e)).run P w = .ok newCap w.drew := by
    rw [run_choose, hnc]; rfl
  have hzr : ∀ w' : World, (zeroValue e).run P w' = .ok zv w' := fun w' => by simp [zeroValue, run_typeInfo hinf, hz]
  have hbz : ¬ inf.bytes = 0 := by omega
  have hsum : us.toArray ++ vs.toArray ++ Builtin.zeroCells zv.cells (newCap - (len + n)) = (us ++ vs ++ (Builtin.zeroCells zv.cells (newCap - (len + n))).toList).toArray := by
    apply Array.ext'; simp
  unfold Builtin.append_
  simp only [show (#[t, u] : Array TypeId)[0]? = some t from rfl, show (#[t, u] : Array TypeId)[1]? = some u from rfl,
    show (#[Value.slice base len cap, yv] : Array Value)[0]? = some (.slice base len cap) from rfl, show (#[Value.slice base len cap, yv] : Array Value)[1]? = some yv from rfl,
    Sem.run_bind, run_under ht, run_under hu, Result.andThen_ok, run_size hinf, Sem.run_pure]
  simp only [Bool.false_eq_true, if_false, hn, Result.andThen_ok, hfit, run_typeInfo hinf, false_or, hbz, and_false, hbound, Sem.run_bind, Sem.run_pure, hch, run_askRoom, hold, hnew, hzr, Bool.not_false, if_true]
  rw [hsum]
  rfl
end

theorem Lies.append {b off : Nat} {us vs : List Value} (h : Lies I b off us) (h' : Lies I b (off + us.length) vs) : Lies I b off (us ++ vs) := by
  intro i x hx
  rw [List.getElem?_append] at hx
  split at hx
  · exact h i x hx
  · have := h' _ x hx
    rwa [show off + us.length + (i - us.length) = off + i by omega] at this

theorem storeCells_nil {ad : Addr} : (storeCells ad []).run P w = .ok () w := rfl

theorem snd_append {c : Call} {t u e f : TypeId} {x y : Operand} {x' y' : Opd} {ty : Ty} {inf : TypeInfo} {zv : Value} {v : AV} {h' : AHeap} (ho : o.op = .call c) (hc : c.callee = .builtin .append)
    (ha : c.args.toList = [x, y]) (hT : c.argTypes.toList = [t, u]) (ht : P.underlying t = some (.slice e)) (hu : P.underlying u = some (.slice f)) (hty : compTy P e = some ty)
    (hinf : P.info? e = some inf) (hzv : inf.zero = some zv) (hb : Val.small inf.bytes = true) (hb0 : 0 < inf.bytes) (hzs : zv.cells.size = ty.size) (hpos : 0 < ty.size)
    (hx : compOpd x = some x') (hy : compOpd y = some y') (hk : k ≤ m.length)
    (hr : Rel G N D S I m env h a w) (he : evalOp G env h (.append ty.size inf.bytes x' y') = some (v, h')) : Does P G k o a I m w v h' := by
  obtain ⟨inf', hinf', hsz, _⟩ := compTy_some (w := w) hty
  rw [hinf] at hinf'
  simp at hinf'; subst hinf'
  have hexec : ∀ {r : Value} {w' : World}, (Builtin.append_ #[t, u] o.type #[a.eval x, a.eval y]).run P w = .ok r w' → Gives P o a w r w' := append_parts hc ha hT ho
  simp only [evalOp] at he
  split at he
  · rename_i q es cp xs hu1 hu2
    simp only [Option.bind_eq_some_iff] at hu2
    obtain ⟨yv, hyv, hxs⟩ := hu2
    obtain ⟨base, cap, vs, hay, hlecap, hrel, hw, h1, hbase, hI⟩ := elems_rel hxs (opd_sound hy hr hyv)
    have hp := opd_sound hx hr hu1
    have hnew : (Builtin.firstCells inf.size xs.length (a.eval y)).run P w = .ok vs.toArray w := by
      rw [hay, hsz]; exact run_firstCells hr.inv hpos hrel hw hbase hI
    have hnew' : (Builtin.firstCells inf.size xs.length (a.eval y)).run P w.drew = .ok vs.toArray w.drew := by
      rw [hay, hsz]; exact run_firstCells hr.inv.drew hpos hrel hw hbase hI
    have hlenOf : (Builtin.lenOf (a.eval y)).run P w = .ok xs.length w := by rw [hay]; rfl
    have hvlen : vs.length = xs.length * ty.size := by rw [← hrel.1, flat_length xs hw]
    have hvone : ∀ z ∈ vs, z.oneCell' = true := by
      intro z hz
      obtain ⟨i, hi, rfl⟩ := List.getElem_of_mem hz
      have hi' : i < (xs.flatMap AV.cells).length := by rw [hrel.1]; exact hi
      exact (hrel.2 i _ vs[i] (by simp [hi']) (by simp [hi])).oneCell (h1 _ (List.getElem_mem hi'))
    split at he
    · rename_i hq
      obtain ⟨base', cap', us, hax, hle', hrel', hw', h1', hbase', hI'⟩ := elems_rel (h := h) (q := ty.size) (u := .sl q es cp) (xs := es) (by simp [elems, hq]) hp
      have hulen : us.length = es.length * ty.size := by rw [← hrel'.1, flat_length es hw']
      have hold' : (Builtin.firstCells inf.size es.length (.slice base' es.length cap')).run P w.drew = .ok us.toArray w.drew := by
        rw [hsz]; exact run_firstCells hr.inv.drew hpos hrel' hw' hbase' hI'
      split at he
      · -- nothing to add
        rename_i hxe
        simp at he; obtain ⟨rfl, rfl⟩ := he
        subst hxe
        have hv0 : vs = [] := by simpa using hvlen
        subst hv0
        refine .same hr.inv hp (hexec ?_)
        rw [hax]
        cases base' with
        | none => have := run_append_none (ty := o.type) ht hu hinf hlenOf hnew (len := es.length) (cap := cap') (by simpa using hle'); simpa using this
        | some ad => have := run_append_some (ty := o.type) (ad := ad) ht hu hinf hlenOf hnew (len := es.length) (cap := cap') (by simpa using hle') storeCells_nil; simpa using this
      · rename_i hxe
        have hxpos : 0 < xs.length := List.length_pos_iff.2 hxe
        split at he
        · rename_i hmax
          -- the new row, wherever it lies
          have hrow : ∀ {I' : Imm} {m' : Locs} {ad : Addr} {cp' : Cap} {cap2 : Nat}, ImmLe I I' → LocsLe m m' → Lies I' ad.block ad.off (us ++ vs) → ad.spot = none → cp' ≠ .nil → es.length + xs.length ≤ cap2 →
              CapRel m' ad (es ++ xs).length ty.size cap2 cp' → AVRel I' m' (.sl ty.size (es ++ xs) cp') (.slice (some ad) (es.length + xs.length) cap2) := by
            intro I' m' ad cp' cap2 g1 g2 g3 g4 g5 g6 g7
            have hlen : (es ++ xs).length = es.length + xs.length := by simp
            rw [← hlen]
            have hcat : AVRels I' m' ((es ++ xs).flatMap AV.cells) (us ++ vs) := by
              rw [List.flatMap_append]; exact (hrel'.mono g1 g2).append (hrel.mono g1 g2)
            refine .sl ty.size (es ++ xs) cp' ad cap2 (us ++ vs) g5 (by simpa using g6) hpos (fun e he => ?_) (fun c hc => ?_) hcat.1 hcat.2 g3 (fun _ => g4) g7
            · rcases List.mem_append.1 he with he | he
              · exact hw' e he
              · exact hw e he
            · rw [List.flatMap_append] at hc
              rcases List.mem_append.1 hc with hc | hc
              · exact h1' c hc
              · exact h1 c hc
          have hgrow := fun hfit => run_append_grow (ty := o.type) (base := base') (len := es.length) (cap := cap') ht hu hinf hlenOf hold' hnew' hfit hb hb0 hmax hzv
          have htot : ∀ {newCap : Nat} {rest : List Value}, es.length + xs.length ≤ newCap → rest.length = (newCap - (es.length + xs.length)) * zv.cells.size → (us ++ vs ++ rest).toArray.size = newCap * ty.size ∧ (us ++ vs).length = (es.length + xs.length) * ty.size := by
            intro newCap rest g1 g2
            have e2 : (us ++ vs).length = (es.length + xs.length) * ty.size := by simp [hulen, hvlen, Nat.add_mul]
            refine ⟨?_, e2⟩
            rw [List.size_toArray, List.length_append, e2, g2, hzs, ← Nat.add_mul]
            congr 1; omega
          have hpre : ∀ (rest : List Value) (i : Nat) (x : Value), (us ++ vs)[i]? = some x → (us ++ vs ++ rest).toArray[i]? = some x := by
            intro rest i x hx
            rw [List.getElem?_toArray, List.getElem?_append_left (List.getElem?_eq_some_iff.1 hx).1]
            exact hx
          -- the case of a token that comes up with a new block
          have hfresh : ¬ es.length + xs.length ≤ cap' → Does P G k o a I m w (.sl ty.size (es ++ xs) (.tok h.length)) (h ++ [.tok (es.length + xs.length)]) := by
            intro hfit
            obtain ⟨newCap, rest, g1, g2, g3⟩ := hgrow hfit
            obtain ⟨t1, t2⟩ := htot g1 g2
            obtain ⟨i1, i2, i3⟩ := hr.inv.drew.allocNew (.cells (us ++ vs ++ rest).toArray e) (us ++ vs) (.tok (es.length + xs.length) w.heap.size (us ++ vs).length (newCap * ty.size)) (.tok (es.length + xs.length))
              (fun i x hx => by rw [World.size_drew] ; have := World.cell?_alloc_new w.drew (us ++ vs ++ rest).toArray e i; rw [World.size_drew] at this; rw [this]; exact hpre rest i x hx)
              (fun b o hp => ⟨hp.1, hp.2.1⟩)
              ⟨w.heap.size, _, _, rfl, by rw [t2]; exact Nat.mul_le_mul_right _ g1, fun p p1 p2 => by
                have h1 := World.cell?_alloc_new w.drew (us ++ vs ++ rest).toArray e p
                have h2 := World.frozen?_alloc_new w.drew (us ++ vs ++ rest).toArray e p
                rw [World.size_drew] at h1 h2
                rw [h1, h2]
                refine ⟨?_, rfl⟩
                rw [Array.getElem?_eq_getElem (by rw [t1]; exact p2)]; rfl⟩
            rw [World.size_drew] at i1 i2
            refine ⟨_, _, _, _, hexec (by rw [hax]; exact g3), ?_, i1, ((Trans.drew m.length I m w).trans i2).mono hk, i3⟩
            refine hrow (Imm.row_le hr.inv.imm_new) i3 Lies.row rfl (by simp) g1 ?_
            refine ⟨by simp [hr.inv.len], fun n b s e' hm => ?_⟩
            rw [← hr.inv.len] at hm
            simp at hm
            obtain ⟨rfl, rfl, rfl, rfl⟩ := hm
            refine ⟨by simp, fun _ => ⟨rfl, ?_, ?_⟩⟩
            · have := t2; simp at this ⊢; omega
            · simp
          split at he
          · -- nil
            simp at he; obtain ⟨rfl, rfl⟩ := he
            refine hfresh ?_
            have hnil : cap' = 0 := by
              generalize hgx : a.eval x = ax at hp
              rw [hgx] at hax
              cases hp with
              | slnil => simp at hax; exact hax.2.symm
              | sl _ _ _ ad cap2 vs2 hc2 => exact absurd rfl hc2
            omega
          · -- full
            simp at he; obtain ⟨rfl, rfl⟩ := he
            refine hfresh ?_
            have hfull : cap' = es.length := by
              generalize hgx : a.eval x = ax at hp
              rw [hgx] at hax
              cases hp with
              | sl _ _ _ ad cap2 vs2 hc2 hle2 hk2 hw2 h12 hl2 hrel2 hI2 hs2 hcap2 => simp at hax; obtain ⟨_, rfl⟩ := hax; exact hcap2
            omega
          · -- a token
            rename_i tk
            split at he
            · rename_i n hn
              split at he
              · rename_i hne
                obtain ⟨rfl, hqk⟩ := hne
                subst hqk
                simp at he; obtain ⟨rfl, rfl⟩ := he
                have hlt : tk < m.length := by rw [hr.inv.len]; exact (List.getElem?_eq_some_iff.1 hn).1
                obtain ⟨b, s, e', hl, hse, hall⟩ := hr.inv.obj tk _ m[tk] hn (by simp [hlt])
                have hm : m[tk]? = some (.tok es.length b s e') := by rw [← hl]; simp [hlt]
                have hcapr : ∃ ad, base' = some ad ∧ ad = ⟨b, ad.off, none⟩ ∧ ad.off + es.length * ty.size = s ∧ ad.off + cap' * ty.size = e' := by
                  generalize hgx : a.eval x = ax at hp
                  rw [hgx] at hax
                  cases hp with
                  | sl _ _ _ ad cap2 vs2 hc2 hle2 hk2 hw2 h12 hl2 hrel2 hI2 hs2 hcap2 =>
                    simp at hax
                    obtain ⟨rfl, rfl⟩ := hax
                    obtain ⟨g1, g2, g3⟩ := (hcap2.2 _ b s e' hm).2 rfl
                    exact ⟨ad, rfl, g1, g2, g3⟩
                obtain ⟨ad, rfl, had, hs1, hs2⟩ := hcapr
                by_cases hfit : es.length + xs.length ≤ cap'
                · have hfit2 : s + vs.length ≤ e' := by
                    rw [← hs1, ← hs2, hvlen, Nat.add_assoc, ← Nat.add_mul]
                    exact Nat.add_le_add_left (Nat.mul_le_mul_right _ hfit) _
                  obtain ⟨i1, i2, i3⟩ := hr.inv.grow hn hm (us := vs) (n' := es.length + xs.length) hfit2 (by omega) hvone
                  have hadd : ad.add (es.length * inf.size) = ⟨b, s, none⟩ := by
                    rw [had, Addr.add_mk, hsz, hs1]
                  have hst := run_storeCells_cells (P := P) b s vs 0 w (by simpa using fun j hj => (hall (s + j) (by omega) (by omega)).1) (by simpa using fun j hj => (hall (s + j) (by omega) (by omega)).2) hvone
                  refine ⟨_, _, _, _, hexec (by rw [hax]; exact run_append_some ht hu hinf hlenOf hnew hfit (by rw [hadd]; exact hst)), ?_, ?_, i2 k, i3⟩
                  · have hle1 : ImmLe I (I.add b s vs) := i2 k |>.imm
                    refine hrow hle1 i3 (Lies.append ((hI' ad rfl).1.mono hle1) ?_) (by rw [had]) (by simp) hfit ?_
                    · rw [hulen, hs1]
                      rw [had]
                      exact Lies.add
                    · refine ⟨i3.lt hlt, fun n b2 s2 e2 hm2 => ?_⟩
                      rw [List.getElem?_set] at hm2
                      simp [hlt] at hm2
                      obtain ⟨rfl, rfl, rfl, rfl⟩ := hm2
                      refine ⟨by simp, fun _ => ⟨had, ?_, hs2⟩⟩
                      rw [← hs1, hvlen, List.length_append, Nat.add_mul, Nat.add_assoc]
                  · exact i1
                · obtain ⟨newCap, rest, g1, g2, g3⟩ := hgrow hfit
                  obtain ⟨t1, t2⟩ := htot g1 g2
                  obtain ⟨i1, i2, i3⟩ := hr.inv.drew.allocTok (n' := es.length + xs.length) (us ++ vs ++ rest).toArray e (us ++ vs) hn hm (by omega) (hpre rest) (by rw [t1, t2]; exact Nat.mul_le_mul_right _ g1)
                  rw [World.size_drew] at i1 i2 i3
                  refine ⟨_, _, _, _, hexec (by rw [hax]; exact g3), ?_, i1, (Trans.drew k I m w).trans (i2 k), i3⟩
                  refine hrow (Imm.row_le hr.inv.imm_new) i3 Lies.row rfl (by simp) g1 ?_
                  refine ⟨i3.lt hlt, fun n b2 s2 e2 hm2 => ?_⟩
                  rw [List.getElem?_set] at hm2
                  simp [hlt] at hm2
                  obtain ⟨rfl, rfl, rfl, rfl⟩ := hm2
                  refine ⟨by simp, fun _ => ⟨rfl, ?_, ?_⟩⟩
                  · have := t2; simp at this ⊢; omega
                  · have := t1; simp at this ⊢; omega
              · cases he
            · cases he
          · cases he
        · cases he
    · cases he
  · cases he

end
end Go.Apx
