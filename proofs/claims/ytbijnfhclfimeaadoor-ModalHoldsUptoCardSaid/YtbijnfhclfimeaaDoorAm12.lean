/- ABSTRACT MACHINE, part 12: make, copy, len, slice expressions; then all operations together. -/
import Derived.Test.YtbijnfhclfimeaaDoorAm11
import Derived.IntWalk
namespace Go.Apx
set_option linter.unusedVariables false
set_option linter.unusedSimpArgs false

section
variable {P : Program} {G : Globs} {N S k : Nat} {D : Ro} {o : Oper} {a : Act} {I : Imm} {m : Locs} {w : World} {env : Env} {h : AHeap} {ann : List Nat}

theorem builtin_gives {c : Call} {b : Builtin} {ts : List TypeId} {xs : List Operand} {r : Value} {w' : World} (ho : o.op = .call c) (hc : c.callee = .builtin b)
    (ha : c.args.toList = xs) (hT : c.argTypes.toList = ts)
    (hrun : (builtin b ts.toArray o.type (c.args.map fun | .const _ => true | _ => false) (xs.map a.eval).toArray).run P w = .ok (.value r) w') : Gives P o a w r w' := by
  have h1 : c.args.map a.eval = (xs.map a.eval).toArray := by apply Array.ext'; simp [ha]
  have h2 : c.argTypes = ts.toArray := by apply Array.ext'; simp [hT]
  left
  simp only [execOp, ho, resolve, hc, h1, h2, invoke, Sem.run_bind, Sem.run_pure, Result.andThen_ok]
  exact hrun

theorem flatten_len {z : List AV} : ∀ n, (List.replicate n z).flatten.length = n * z.length
  | 0 => by simp
  | n + 1 => by rw [List.replicate_succ, List.flatten_cons, List.length_append, flatten_len n, Nat.succ_mul]; omega

theorem replicate_rel' {z : List AV} {zl : List Value} (hz : AVRels I m z zl) : ∀ n, AVRels I m (List.replicate n z).flatten (List.replicate n zl).flatten
  | 0 => by simpa using AVRels.nil
  | n + 1 => by
    rw [List.replicate_succ, List.replicate_succ, List.flatten_cons, List.flatten_cons]
    exact hz.append (replicate_rel' hz n)

theorem snd_mkSlice {t e : TypeId} {x y : Operand} {x' y' : Opd} {ty : Ty} {inf : TypeInfo} {z : AV} {v : AV} {h' : AHeap} (ho : o.op = .makeSlice t x y) (ht : P.underlying t = some (.slice e))
    (hty : compTy P e = some ty) (hz : compZero P e = some z) (hinf : P.info? e = some inf) (hb : Val.small inf.bytes = true) (hzs : z.cells.length = ty.size) (hpos : 0 < ty.size)
    (hx : compOpd x = some x') (hy : compOpd y = some y') (hk : k ≤ m.length)
    (hr : Rel G N D S I m env h a w) (he : evalOp G env h (.mkSlice ty.size inf.bytes z.cells x' y') = some (v, h')) : Does P G k o a I m w v h' := by
  obtain ⟨inf', zv, hinf', hzv, hok, hzz, hzr⟩ := compZero_some (w := w) hz
  obtain ⟨inf2, hinf2, hsz, _⟩ := compTy_some (w := w) hty
  rw [hinf] at hinf' hinf2
  simp at hinf' hinf2; subst hinf'; subst hinf2
  simp only [evalOp] at he
  split at he
  · rename_i l c hl hc
    split at he
    · rename_i hb3
      obtain ⟨h0, hlc, hcm⟩ := hb3
      simp only [Option.some.injEq, Prod.mk.injEq] at he
      obtain ⟨rfl, rfl⟩ := he
      have e1 := rel_sc (opd_sound hx hr hl)
      have e2 := rel_sc (opd_sound hy hr hc)
      have hbytes : inf.bytes ≤ 4096 := by simpa [Val.small] using hb
      have hcm' : c ≤ 4294967296 := hcm
      have hwl : IntKind.i64.wrap l = l := IntWalk.i64_in _ (by omega)
      have hwc : IntKind.i64.wrap c = c := IntWalk.i64_in _ (by omega)
      have hlim : ∀ n : Int, 0 ≤ n → n ≤ 4294967296 → ¬ ((inf.bytes : Int) * n > 2 ^ 48) := by
        intro n h1 h2
        have : (inf.bytes : Int) * n ≤ 4096 * 4294967296 := Int.mul_le_mul (by omega) h2 h1 (by omega)
        have h3 : (4096 * 4294967296 : Int) ≤ 2 ^ 48 := by decide
        omega
      have hzrel : AVRels I m z.cells zv.cells.toList := by rw [hzz]; exact ofValue_cells hok
      have hzone : ∀ c ∈ z.cells, c.one = true := by rw [hzz]; exact ofValue_one hok
      have hzsize : zv.cells.size = ty.size := by have := hzrel.1; simp at this; omega
      have hzeros : ((Array.range (c.toNat * ty.size)).map fun i => zv.cells[i % zv.cells.size]!).toList = (List.replicate c.toNat zv.cells.toList).flatten := by
        rw [← hzsize]; exact zeros_eq zv.cells _ (by omega)
      have hrow : AVRels I m (List.replicate c.toNat z.cells).flatten ((Array.range (c.toNat * ty.size)).map fun i => zv.cells[i % zv.cells.size]!).toList := by
        rw [hzeros]; exact replicate_rel' hzrel _
      obtain ⟨i1, i2, i3⟩ := hr.inv.allocCells ((Array.range (c.toNat * ty.size)).map fun i => zv.cells[i % zv.cells.size]!) e _ hrow (by
        intro y hy
        obtain ⟨l', hl', hyl⟩ := List.mem_flatten.1 hy
        rw [(List.mem_replicate.1 hl').2] at hyl
        exact hzone y hyl)
      refine ⟨.slice (some ⟨w.heap.size, 0, none⟩) l.toNat c.toNat, _, _, _, .inl ?_, ?_, i1, i2.mono hk, i3⟩
      · have c1 : ¬ c < 0 := by omega
        have c2 : ¬ l < 0 := by omega
        have c3 : ¬ l > c := by omega
        have c4 := hlim c (by omega) hcm'
        have hr0 : Array.range 0 = #[] := rfl
        simp only [execOp, ho, e1, e2, Instr.makeSlice, Sem.run_bind, run_under ht, Result.andThen_ok, asInt, asIntOf, Sem.run_pure, run_typeInfo hinf, hwl, hwc, c1, c2, c3, c4]
        simp only [decide_false, Bool.or_false, Bool.false_eq_true, if_false, Sem.run_bind, run_askRoom, Result.andThen_ok, run_size hinf, hsz]
        by_cases hn : c.toNat * ty.size = 0
        · simp [newRow, hn, hr0]
        · simp [newRow, hn, hzr]
      · rw [← hr.inv.len]
        refine .rf m.length 0 0 l.toNat (l == c) ⟨w.heap.size, 0, none⟩ c.toNat (by simp) (by omega) (fun hf => by simp at hf; rw [hf]) ?_
        intro _ g' b lo n hm
        simp at hm
        obtain ⟨rfl, rfl, rfl, rfl⟩ := hm
        exact ⟨Nat.le_refl _, fun _ => rfl⟩
    · cases he
  · cases he

theorem run_firstCells_take (hv : Inv G I m h w) {q n : Nat} (hq : 0 < q) {xs : List AV} {base : Option Addr} {len cap : Nat} {vs : List Value} (hrel : AVRels I m (xs.flatMap AV.cells) vs) (hw : ∀ e ∈ xs, e.cells.length = q)
    (hb : base = none → xs = []) (hI : ∀ ad, base = some ad → Lies I ad.block ad.off vs ∧ (xs ≠ [] → ad.spot = none)) (hn : n ≤ xs.length) :
    (Builtin.firstCells q n (.slice base len cap)).run P w = .ok (vs.take (n * q)).toArray w := by
  have hlen : vs.length = xs.length * q := by rw [← hrel.1, flat_length xs hw]
  have h2 := run_firstCells (P := P) hv hq (xs := xs.take n) (base := base) (cap := cap) (vs := vs.take (n * q)) (by rw [flat_take xs n hw]; exact hrel.take _) (fun e he => hw e (List.mem_of_mem_take he))
    (fun h0 => by rw [hb h0]; simp) (fun ad h0 => ⟨fun i x hx => (hI ad h0).1 i x (by
      rw [List.getElem?_take] at hx
      split at hx
      · exact hx
      · cases hx), fun hne => (hI ad h0).2 fun e => hne (by rw [e]; simp)⟩)
  have h3 : (xs.take n).length = n := by simp; omega
  rw [h3] at h2
  cases base with
  | none => exact h2
  | some ad => exact h2

theorem snd_copy {c : Call} {t u e : TypeId} {x y : Operand} {x' y' : Opd} {ty : Ty} {v : AV} {h' : AHeap} (ho : o.op = .call c) (hc : c.callee = .builtin .copy)
    (ha : c.args.toList = [x, y]) (hT : c.argTypes.toList = [t, u]) (ht : P.underlying t = some (.slice e)) (hty : compTyP P e = some ty)
    (hx : compOpd x = some x') (hy : compOpd y = some y')
    (hr : Rel G N D S I m env h a w) (he : evalOp G env h (.copy ty.size x' y') = some (v, h')) : Does P G k o a I m w v h' := by
  obtain ⟨hty, hpos⟩ := compTyP_some hty
  obtain ⟨inf, hinf, hsz, _⟩ := compTy_some (w := w) hty
  simp only [evalOp] at he
  split at he
  · rename_i ob g off len full xs hu1 hu2
    simp only [Option.bind_eq_some_iff] at hu2
    obtain ⟨yv, hyv, hxs⟩ := hu2
    obtain ⟨base, cap, vs, hay, hlecap, hrel, hw, h1, hbase, hI⟩ := elems_rel hxs (opd_sound hy hr hyv)
    split at he
    · rename_i g' cs hob
      split at he
      · rename_i hg
        obtain ⟨rfl, hle, hne0⟩ := hg
        simp only [Option.some.injEq, Prod.mk.injEq] at he
        obtain ⟨rfl, rfl⟩ := he
        have hp := opd_sound hx hr hu1
        generalize hax : a.eval x = ax at hp
        have hlt : ob < m.length := by rw [hr.inv.len]; exact (List.getElem?_eq_some_iff.1 hob).1
        obtain ⟨b, lo, n, vs', hl, hle', hrels, hone', hcell, hall⟩ := hr.inv.obj ob _ m[ob] hob (by simp [hlt])
        have hm : m[ob]? = some (.cells g' b lo n) := by rw [← hl]; simp [hlt]
        cases hp with
        | rf _ _ _ _ _ ad cap' _ hlc hf hpr =>
          have := (hpr hne0 _ b lo n hm).2 rfl
          subst this
          generalize hn : min xs.length len = cnt at *
          have hcnt : cnt ≤ xs.length := by omega
          have hvlen : vs.length = xs.length * ty.size := by rw [← hrel.1, flat_length xs hw]
          have htl : (vs.take (cnt * ty.size)).length = cnt * ty.size := by
            rw [List.length_take, hvlen]
            exact Nat.min_eq_left (Nat.mul_le_mul_right _ hcnt)
          have hrt : AVRels I m ((xs.take cnt).flatMap AV.cells) (vs.take (cnt * ty.size)) := by rw [flat_take xs cnt hw]; exact hrel.take _
          have hot : ∀ c ∈ (xs.take cnt).flatMap AV.cells, c.one = true := by
            intro c hc
            rw [flat_take xs cnt hw] at hc
            exact h1 c (List.mem_of_mem_take hc)
          have hvone : ∀ z ∈ vs.take (cnt * ty.size), z.oneCell' = true := by
            intro z hz
            obtain ⟨i, hi, rfl⟩ := List.getElem_of_mem hz
            have hi' : i < ((xs.take cnt).flatMap AV.cells).length := by rw [hrt.1]; exact hi
            exact (hrt.2 i _ _ (by simp only [List.getElem?_eq_getElem hi']) (by simp only [List.getElem?_eq_getElem hi])).oneCell (hot _ (List.getElem_mem hi'))
          obtain ⟨s1, s2⟩ := hr.inv.store hob hm (us' := (xs.take cnt).flatMap AV.cells) (us := vs.take (cnt * ty.size)) (off := off) (by rw [htl]; exact hle) hrt hot
          rw [htl] at s1
          refine ⟨.int .i64 cnt, _, I, m, builtin_gives ho hc ha hT ?_, .sc _, s1, s2 k, .refl m⟩
          have hst := run_storeCells_cells (P := P) b (lo + off) (vs.take (cnt * ty.size)) 0 w
            (by intro j hj; rw [htl] at hj; have := (hall (off + j) (by omega)).1; rw [← Nat.add_assoc] at this; simpa using this)
            (by intro j hj; rw [htl] at hj; have := (hall (off + j) (by omega)).2; rw [← Nat.add_assoc] at this; simpa using this) hvone
          have hfc := run_firstCells_take (P := P) hr.inv hpos hrel hw hbase hI hcnt (len := xs.length) (cap := cap)
          have hmin : Nat.min xs.length len = cnt := hn
          simp [builtin, Builtin.copy_, run_under ht, hax, hay, Builtin.lenOf, hmin, run_size hinf, hsz, hfc, goInt] 
          simp at hst
          simp [hst]
      · cases he
    · cases he
  · cases he

def LenK.under : LenK → TypeDesc → Prop
  | .str, d => d = .string
  | .sl, d => ∃ e, d = .slice e
  | .map, d => ∃ e f, d = .map e f
  | .arr n, d => ∃ e, d = .array n e

theorem snd_len {c : Call} {t : TypeId} {d : TypeDesc} {q : LenK} {x : Operand} {x' : Opd} {v : AV} {h' : AHeap} (ho : o.op = .call c) (hc : c.callee = .builtin .len)
    (ha : c.args.toList = [x]) (hT : c.argTypes.toList = [t]) (hd : P.underlying t = some d) (hq : q.under d) (hx : compOpd x = some x')
    (hr : Rel G N D S I m env h a w) (he : evalOp G env h (.len q x') = some (v, h')) : Does P G k o a I m w v h' := by
  have key : ∀ n : Nat, (Builtin.len_ #[t] o.type #[a.eval x]).run P w = .ok (.int .i64 n) w → v = .sc (.int .i64 n) → h' = h → Does P G k o a I m w v h' := by
    rintro n hn rfl rfl
    refine .same hr.inv (.sc _) (builtin_gives ho hc ha hT ?_)
    simp [builtin, hn]
  simp only [evalOp] at he
  split at he
  · rename_i s hu
    simp at he; obtain ⟨rfl, rfl⟩ := he
    cases hq
    have h1 := rel_sc (opd_sound hx hr hu)
    exact key s.size (by simp [Builtin.len_, run_under hd, h1, goInt]) rfl rfl
  · rename_i q' es cp hu
    simp at he; obtain ⟨rfl, rfl⟩ := he
    obtain ⟨e, rfl⟩ := hq
    have hp := opd_sound hx hr hu
    generalize hax : a.eval x = ax at hp key
    refine key es.length ?_ rfl rfl
    cases hp <;> simp [Builtin.len_, run_under hd, goInt]
  · rename_i ob g off len full hu
    simp at he; obtain ⟨rfl, rfl⟩ := he
    obtain ⟨e, rfl⟩ := hq
    have hp := opd_sound hx hr hu
    generalize hax : a.eval x = ax at hp key
    refine key len ?_ rfl rfl
    cases hp <;> simp [Builtin.len_, run_under hd, goInt]
  · rename_i hu
    simp at he; obtain ⟨rfl, rfl⟩ := he
    obtain ⟨e, f, rfl⟩ := hq
    have h1 := rel_sc (opd_sound hx hr hu)
    exact key 0 (by simp [Builtin.len_, run_under hd, h1, goInt]) rfl rfl
  · rename_i ob hu
    split at he
    · rename_i es hob
      simp at he; obtain ⟨rfl, rfl⟩ := he
      obtain ⟨e, f, rfl⟩ := hq
      have hp := opd_sound hx hr hu
      have hlt : ob < m.length := by rw [hr.inv.len]; exact (List.getElem?_eq_some_iff.1 hob).1
      obtain ⟨b, ents, clock, hl, hb, hrel⟩ := hr.inv.obj ob _ m[ob] hob (by simp [hlt])
      have hm : m[ob]? = some (.whole b) := by rw [← hl]; simp [hlt]
      generalize hax : a.eval x = ax at hp key
      cases hp with
      | mp _ rr _ hrr =>
        have := hrr b hm
        subst this
        have hes : es.length = ents.size := by simpa using hrel.1
        exact key es.length (by simp [Builtin.len_, run_under hd, goInt, getObj, Sem.run, hb, hes]) rfl rfl
    · cases he
  · rename_i n u hu
    simp at he; obtain ⟨rfl, rfl⟩ := he
    obtain ⟨e, rfl⟩ := hq
    exact key n (by simp [Builtin.len_, run_under hd, goInt]) rfl rfl
  · cases he

end
end Go.Apx
