/- ABSTRACT MACHINE, part 13: slice expressions; all operations together. -/
import Derived.Test.YtbijnfhclfimeaaDoorAm12
namespace Go.Apx
set_option linter.unusedVariables false
set_option linter.unusedSimpArgs false

def OptOpd (lo : Option Operand) (lo' : Option Opd) : Prop := (lo = none ∧ lo' = none) ∨ ∃ y y', lo = some y ∧ lo' = some y' ∧ compOpd y = some y'

theorem optOpd_of {lo : Option Operand} {lo' : Option Opd} (h : optC lo = some lo') : OptOpd lo lo' := by
  cases lo with
  | none => simp [optC] at h; exact .inl ⟨rfl, h.symm⟩
  | some y =>
    simp only [optC, Option.map_eq_some_iff] at h
    obtain ⟨y', hy, rfl⟩ := h
    exact .inr ⟨y, y', rfl, rfl, hy⟩

section
variable {P : Program} {G : Globs} {N S k : Nat} {D : Ro} {o : Oper} {a : Act} {I : Imm} {m : Locs} {w : World} {env : Env} {h : AHeap} {ann : List Nat}

theorem optNat_run {lo : Option Operand} {lo' : Option Opd} {d l : Nat} (hlo : OptOpd lo lo') (hr : Rel G N D S I m env h a w) (hn : optNat d (lo'.map (evalOpd G env)) = some l) :
    (lo.map a.eval = none ∧ l = d) ∨ ∃ q z, lo.map a.eval = some (.int q z) ∧ 0 ≤ z ∧ z.toNat = l := by
  rcases hlo with ⟨rfl, rfl⟩ | ⟨y, y', rfl, rfl, hy⟩
  · simp [optNat] at hn; exact .inl ⟨rfl, hn.symm⟩
  · simp only [Option.map_some, optNat] at hn
    split at hn
    · rename_i hh; cases hh
    · rename_i v hv
      simp at hv
      obtain ⟨q, z, rfl, hz, hzn⟩ := asNat_int hn
      exact .inr ⟨q, z, by simp [rel_sc (opd_sound hy hr hv)], hz, hzn⟩
    · cases hn

theorem run_sliceBound {q : IntKind} {z : Int} {y : Nat} {code : BoundsCode} (h0 : 0 ≤ z) (h1 : z.toNat ≤ y) : (Instr.sliceBound (.int q z) y code).run P w = .ok z.toNat w := by
  have : 0 ≤ z ∧ z ≤ (y : Int) := ⟨h0, by omega⟩
  simp [Instr.sliceBound, asIntOf, this]

theorem run_sliceBounds {isSl : Bool} {len cap l r : Nat} {lo hi : Option Value} (hl : (lo = none ∧ l = 0) ∨ ∃ q z, lo = some (.int q z) ∧ 0 ≤ z ∧ z.toNat = l)
    (hh : (hi = none ∧ r = len) ∨ ∃ q z, hi = some (.int q z) ∧ 0 ≤ z ∧ z.toNat = r) (hlr : l ≤ r) (hrc : r ≤ cap) : (Instr.sliceBounds isSl len cap lo hi none).run P w = .ok (l, r, cap) w := by
  rcases hh with ⟨rfl, rfl⟩ | ⟨q, z, rfl, hz, rfl⟩ <;> rcases hl with ⟨rfl, rfl⟩ | ⟨q', z', rfl, hz', rfl⟩
  · simp [Instr.sliceBounds]
  · simp [Instr.sliceBounds, run_sliceBound hz' hlr]
  · simp [Instr.sliceBounds, run_sliceBound hz hrc]
  · simp [Instr.sliceBounds, run_sliceBound hz hrc, run_sliceBound hz' hlr]

theorem run_sliceBounds3 {len cap l r : Nat} {lo : Option Value} {q q' : IntKind} {z z' : Int} (hl : (lo = none ∧ l = 0) ∨ ∃ q z, lo = some (.int q z) ∧ 0 ≤ z ∧ z.toNat = l)
    (hz : 0 ≤ z) (hzr : z.toNat = r) (hz' : 0 ≤ z') (hzm : z'.toNat = r) (hlr : l ≤ r) (hrc : r ≤ cap) :
    (Instr.sliceBounds true len cap lo (some (.int q z)) (some (.int q' z'))).run P w = .ok (l, r, r) w := by
  subst hzr
  rcases hl with ⟨rfl, rfl⟩ | ⟨q2, z2, rfl, hz2, rfl⟩
  · simp [Instr.sliceBounds, run_sliceBound hz' (show z'.toNat ≤ cap by omega), hzm, run_sliceBound hz (Nat.le_refl _)]
  · simp [Instr.sliceBounds, run_sliceBound hz' (show z'.toNat ≤ cap by omega), hzm, run_sliceBound hz (Nat.le_refl _), run_sliceBound hz2 hlr]

/-- A cut of a row. -/
theorem cut_rel {q : Nat} {es : List AV} {ad : Addr} {vs : List Value} {l r cap' : Nat} {c' : Cap} {ad' : Addr} (hq : 0 < q) (hw : ∀ e ∈ es, e.cells.length = q) (h1 : ∀ c ∈ es.flatMap AV.cells, c.one = true)
    (hrel : AVRels I m (es.flatMap AV.cells) vs) (hI : Lies I ad.block ad.off vs) (hs : es ≠ [] → ad.spot = none) (hlr : l ≤ r) (hre : r ≤ es.length)
    (had : l < r → ad' = ad.add (l * q)) (hc' : c' ≠ .nil) (hcap : r - l ≤ cap') (hcr : CapRel m ad' (r - l) q cap' c') :
    AVRel I m (.sl q (cut es l (r - l)) c') (.slice (some ad') (r - l) cap') := by
  have hlen : (cut es l (r - l)).length = r - l := by simp [cut]; omega
  have hflat : (cut es l (r - l)).flatMap AV.cells = ((es.flatMap AV.cells).drop (l * q)).take ((r - l) * q) := by
    unfold cut
    rw [flat_take _ _ (fun e he => hw e (List.mem_of_mem_drop he)), flat_drop es l hw]
  have hr2 : AVRels I m ((cut es l (r - l)).flatMap AV.cells) ((vs.drop (l * q)).take ((r - l) * q)) := by rw [hflat]; exact (hrel.drop _).take _
  have := AVRel.sl (I := I) (m := m) q (cut es l (r - l)) c' ad' cap' ((vs.drop (l * q)).take ((r - l) * q)) hc' (by rw [hlen]; exact hcap) hq
    (fun e he => hw e (List.mem_of_mem_drop (List.mem_of_mem_take he))) (fun c hc => by rw [hflat] at hc; exact h1 c (List.mem_of_mem_drop (List.mem_of_mem_take hc))) hr2.1 hr2.2 ?_ ?_ (by rw [hlen]; exact hcr)
  · rw [hlen] at this; exact this
  · by_cases hlt : l < r
    · have hne : es ≠ [] := by intro e; subst e; simp at hre; omega
      rw [had hlt, addr_add (hs hne)]
      exact hI.sub _ _
    · have : r - l = 0 := by omega
      rw [this]
      intro i x hx
      simp at hx
  · intro hne
    have hlt : l < r := by
      by_cases hlt : l < r
      · exact hlt
      · exact absurd (List.length_eq_zero_iff.1 (by rw [hlen]; omega)) hne
    have hne : es ≠ [] := by intro e; subst e; simp at hre; omega
    rw [had hlt, addr_add (hs hne)]

theorem snd_slice_str {t : TypeId} {x : Operand} {lo hi mx : Option Operand} {x' : Opd} {lo' hi' mx' : Option Opd} {v : AV} {h' : AHeap} (ho : o.op = .slice t x lo hi mx) (ht : P.underlying t = some .string)
    (hx : compOpd x = some x') (hlo : OptOpd lo lo') (hhi : OptOpd hi hi') (hmx : OptOpd mx mx')
    (hr : Rel G N D S I m env h a w) (he : evalOp G env h (.slice .str x' lo' hi' mx') = some (v, h')) : Does P G k o a I m w v h' := by
  simp only [evalOp] at he
  split at he
  · rename_i s _ hu
    split at he
    · rename_i l r hl hrr
      split at he
      · rename_i hb
        obtain ⟨hlr, hrs⟩ := hb
        simp at he; obtain ⟨rfl, rfl⟩ := he
        have h1 := rel_sc (opd_sound hx hr hu)
        have hm : mx = none := by rcases hmx with ⟨h, _⟩ | ⟨_, _, _, h, _⟩
                                  · exact h
                                  · cases h
        have hb := run_sliceBounds (P := P) (w := w) (isSl := false) (len := s.size) (cap := s.size) (optNat_run hlo hr hl) (optNat_run hhi hr hrr) hlr hrs
        subst hm
        refine .same hr.inv (.sc _) (.inl ?_)
        simp [execOp, ho, h1, Instr.sliceAt, run_under ht, Instr.slice, hb]
      · cases he
    · cases he
  · rename_i heq _ ; cases heq
  · rename_i heq _ ; cases heq
  · rename_i heq _ ; cases heq
  · cases he

theorem snd_slice_sl {t e : TypeId} {ty : Ty} {x : Operand} {lo hi mx : Option Operand} {x' : Opd} {lo' hi' mx' : Option Opd} {v : AV} {h' : AHeap} (ho : o.op = .slice t x lo hi mx) (ht : P.underlying t = some (.slice e))
    (hty : compTyP P e = some ty) (hx : compOpd x = some x') (hlo : OptOpd lo lo') (hhi : OptOpd hi hi') (hmx : OptOpd mx mx')
    (hr : Rel G N D S I m env h a w) (he : evalOp G env h (.slice (.sl ty.size) x' lo' hi' mx') = some (v, h')) : Does P G k o a I m w v h' := by
  obtain ⟨hty, hpos⟩ := compTyP_some hty
  obtain ⟨inf, hinf, hsz, _⟩ := compTy_some (w := w) hty
  simp only [evalOp] at he
  split at he
  · rename_i heq _; cases heq
  · rename_i q q' es cp heq hu
    cases heq
    split at he
    · rename_i hq
      split at he
      · rename_i l r hl hrr
        split at he
        · rename_i hb
          obtain ⟨hlr, hre⟩ := hb
          have hp := opd_sound hx hr hu
          obtain ⟨base, cap, vs, hax, hlecap, hrel, hw, h1, hbase, hI⟩ := elems_rel (h := h) (q := ty.size) (u := .sl q' es cp) (xs := es) (by simp [elems, hq]) hp
          split at he
          · -- two indexes
            simp at he; obtain ⟨rfl, rfl⟩ := he
            have hm : mx = none := by rcases hmx with ⟨h, _⟩ | ⟨_, _, _, h, _⟩
                                      · exact h
                                      · cases h
            subst hm
            have hb := run_sliceBounds (P := P) (w := w) (isSl := true) (len := es.length) (cap := cap) (optNat_run hlo hr hl) (optNat_run hhi hr hrr) hlr (by omega)
            have hrun : Gives P o a w (.slice (if cap = l then base else base.map (·.add (l * ty.size))) (r - l) (cap - l)) w := .inl (by
              simp [execOp, ho, hax, Instr.sliceAt, run_under ht, Instr.slice, hb, run_size hinf, hsz])
            cases base with
            | none =>
              have := hbase rfl
              subst this
              have hr0 : r = 0 := by simpa using hre
              subst hr0
              have hl0 : l = 0 := by omega
              subst hl0
              generalize hgx : a.eval x = ax at hp
              rw [hgx] at hax; subst hax
              refine .same (x := .slice none 0 0) hr.inv ?_ ?_
              · cases hp
                simpa [cut] using AVRel.slnil ty.size
              · cases hp
                simpa using hrun
            | some ad =>
              have hcpn : cp ≠ .nil := by
                rintro rfl
                generalize hgx : a.eval x = ax at hp
                rw [hgx] at hax; subst hax
                cases hp <;> simp_all
              refine .same hr.inv ?_ hrun
              have hmain : ∀ (c' : Cap), c' ≠ .nil → CapRel m (if cap = l then ad else ad.add (l * ty.size)) (r - l) ty.size (cap - l) c' →
                  AVRel I m (.sl ty.size (cut es l (r - l)) c') (.slice (if cap = l then some ad else (some ad).map (·.add (l * ty.size))) (r - l) (cap - l)) := by
                intro c' g1 g2
                have := cut_rel (ad' := if cap = l then ad else ad.add (l * ty.size)) (cap' := cap - l) hpos hw h1 hrel (hI ad rfl).1 (hI ad rfl).2 hlr hre (fun hlt => by rw [if_neg (by omega)]) g1 (by omega) g2
                have e1 : (if cap = l then some ad else (some ad).map (·.add (l * ty.size))) = some (if cap = l then ad else ad.add (l * ty.size)) := by split <;> rfl
                rw [e1]; exact this
              split
              · rename_i hfull
                obtain ⟨rfl, rfl, hq2⟩ := hfull
                refine hmain cp hcpn ?_
                have e1 : (if cap = 0 then ad else ad.add (0 * ty.size)) = ad := by
                  split
                  · rfl
                  · simp [Addr.add]
                rw [e1]
                generalize hgx : a.eval x = ax at hp
                rw [hgx] at hax; subst hax
                cases hp with
                | sl _ _ _ ad2 cap2 vs2 hc2 hle2 hk2 hw2 h12 hl2 hrel2 hI2 hs2 hcap2 =>
                  rcases hq2 with rfl | rfl
                  · simpa using hcap2
                  · exact absurd rfl hcpn
              · split
                · rename_i hfull
                  obtain ⟨rfl, rfl⟩ := hfull
                  refine hmain .full (by simp) ?_
                  generalize hgx : a.eval x = ax at hp
                  rw [hgx] at hax; subst hax
                  cases hp with
                  | sl _ _ _ ad2 cap2 vs2 hc2 hle2 hk2 hw2 h12 hl2 hrel2 hI2 hs2 hcap2 =>
                    have : cap = es.length := hcap2
                    simp [CapRel, this]
                · exact hmain .any (by simp) trivial
          · -- three indexes
            rename_i mo
            split at he
            · rename_i mm hmm
              split at he
              · rename_i hc
                obtain ⟨rfl, hhs, hcpn⟩ := hc
                simp at he; obtain ⟨rfl, rfl⟩ := he
                obtain ⟨yh, yh', rfl, rfl, hyh⟩ : ∃ y y', hi = some y ∧ hi' = some y' ∧ compOpd y = some y' := by
                  rcases hhi with ⟨_, h⟩ | h
                  · rw [h] at hhs; cases hhs
                  · exact h
                obtain ⟨ym, ym', rfl, hym1, hym⟩ : ∃ y y', mx = some y ∧ some mo = some y' ∧ compOpd y = some y' := by
                  rcases hmx with ⟨_, h⟩ | h
                  · cases h
                  · exact h
                obtain ⟨q1, z1, e1, hz1, hzr⟩ : ∃ q z, (some yh).map a.eval = some (.int q z) ∧ 0 ≤ z ∧ z.toNat = mm := by
                  rcases optNat_run (.inr ⟨yh, yh', rfl, rfl, hyh⟩) hr hrr with ⟨h, _⟩ | h
                  · cases h
                  · exact h
                obtain ⟨q2, z2, e2, hz2, hzm⟩ : ∃ q z, (some ym).map a.eval = some (.int q z) ∧ 0 ≤ z ∧ z.toNat = mm := by
                  rcases optNat_run (.inr ⟨ym, mo, rfl, rfl, by cases hym1; exact hym⟩) hr hmm with ⟨h, _⟩ | h
                  · cases h
                  · exact h
                have hb := run_sliceBounds3 (P := P) (w := w) (len := es.length) (cap := cap) (q := q1) (q' := q2) (optNat_run hlo hr hl) hz1 hzr hz2 hzm hlr (by omega)
                cases base with
                | none =>
                  have := hbase rfl
                  subst this
                  generalize hgx : a.eval x = ax at hp
                  rw [hgx] at hax; subst hax
                  cases hp
                  exact absurd rfl hcpn
                | some ad =>
                  refine .same hr.inv (x := .slice (some (if mm = l then ad else ad.add (l * ty.size))) (mm - l) (mm - l)) ?_ (.inl ?_)
                  · exact cut_rel hpos hw h1 hrel (hI ad rfl).1 (hI ad rfl).2 hlr hre (fun hlt => by rw [if_neg (by omega)]) (by simp) (Nat.le_refl _) rfl
                  · simp only [execOp, ho, hax, Instr.sliceAt, Sem.run_bind, run_under ht, Result.andThen_ok, Instr.slice, e1, e2, hb, run_size hinf, hsz, Sem.run_pure]
                    split <;> simp_all
              · cases he
            · cases he
        · cases he
      · cases he
    · cases he
  · rename_i q ob g off len full heq hu
    cases heq
    split at he
    · rename_i l r hl hrr
      split at he
      · rename_i hb
        obtain ⟨hlr, hre⟩ := hb
        simp at he; obtain ⟨rfl, rfl⟩ := he
        have hm : mx = none := by rcases hmx with ⟨h, _⟩ | ⟨_, _, _, h, _⟩
                                  · exact h
                                  · cases h
        subst hm
        have hp := opd_sound hx hr hu
        generalize hax : a.eval x = ax at hp
        cases hp with
        | rf _ _ _ _ _ ad cap hob hle hf hpr =>
          have hb := run_sliceBounds (P := P) (w := w) (isSl := true) (len := len) (cap := cap) (optNat_run hlo hr hl) (optNat_run hhi hr hrr) hlr (by omega)
          refine .same hr.inv (x := .slice (some (if cap = l then ad else ad.add (l * ty.size))) (r - l) (cap - l)) ?_ (.inl ?_)
          · refine .rf ob g _ (r - l) _ _ (cap - l) hob (by omega) (fun hff => ?_) (fun hne => ?_)
            · simp at hff
              have := hf hff.1
              omega
            · rw [if_neg (by omega)]
              intro g' b lo n' hm
              have hpr := hpr (by omega)
              refine ⟨(hpr g' b lo n' hm).1, fun hg => ?_⟩
              rw [(hpr g' b lo n' hm).2 hg, Addr.add_mk, Nat.add_assoc]
          · simp only [execOp, ho, hax, Instr.sliceAt, Sem.run_bind, run_under ht, Result.andThen_ok, Instr.slice, Option.map_none, hb, run_size hinf, hsz, Sem.run_pure]
            split <;> simp_all
      · cases he
    · cases he
  · rename_i heq _; cases heq
  · cases he

theorem snd_slice_arr {t e : TypeId} {n : Nat} {ty : Ty} {x : Operand} {lo hi mx : Option Operand} {x' : Opd} {lo' hi' mx' : Option Opd} {v : AV} {h' : AHeap} (ho : o.op = .slice t x lo hi mx) (ht : P.underlying t = some (.array n e))
    (hty : compTyP P e = some ty) (hx : compOpd x = some x') (hlo : OptOpd lo lo') (hhi : OptOpd hi hi') (hmx : OptOpd mx mx')
    (hr : Rel G N D S I m env h a w) (he : evalOp G env h (.slice (.arr n ty.size) x' lo' hi' mx') = some (v, h')) : Does P G k o a I m w v h' := by
  obtain ⟨hty, hpos⟩ := compTyP_some hty
  obtain ⟨inf, hinf, hsz, _⟩ := compTy_some (w := w) hty
  simp only [evalOp] at he
  split at he
  · rename_i heq _; cases heq
  · rename_i heq _; cases heq
  · rename_i heq _; cases heq
  · rename_i nn q ob g off heq hu
    cases heq
    split at he
    · rename_i l r hl hrr
      split at he
      · rename_i hb
        obtain ⟨hlr, hre⟩ := hb
        simp at he; obtain ⟨rfl, rfl⟩ := he
        have hm : mx = none := by rcases hmx with ⟨h, _⟩ | ⟨_, _, _, h, _⟩
                                  · exact h
                                  · cases h
        subst hm
        have hp := opd_sound hx hr hu
        generalize hax : a.eval x = ax at hp
        cases hp with
        | ptr _ _ _ ad hob hpr =>
          have hb := run_sliceBounds (P := P) (w := w) (isSl := false) (len := n) (cap := n) (optNat_run hlo hr hl) (optNat_run hhi hr hrr) hlr hre
          refine .same hr.inv (x := .slice (some (if n = l then ad else ad.add (l * ty.size))) (r - l) (n - l)) ?_ (.inl ?_)
          · refine .rf ob g _ (r - l) _ _ (n - l) hob (by omega) (fun hff => by simp at hff; omega) (fun hne => ?_)
            rw [if_neg (by omega)]
            intro g' b lo n' hm
            refine ⟨(hpr g' b lo n' hm).1, fun hg => ?_⟩
            rw [(hpr g' b lo n' hm).2 hg, Addr.add_mk, Nat.add_assoc]
          · simp only [execOp, ho, hax, Instr.sliceAt, Instr.sureAddr, Sem.run_bind, run_under ht, Result.andThen_ok, Option.map_none, hb, run_size hinf, hsz, Sem.run_pure]
      · cases he
    · cases he
  · cases he

end
end Go.Apx
