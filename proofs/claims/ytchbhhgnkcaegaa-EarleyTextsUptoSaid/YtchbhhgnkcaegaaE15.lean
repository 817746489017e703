/- Walks: a grammar of the reference. -/
import Derived.Test.YtchbhhgnkcaegaaE14
namespace Go.Apx
open Go.Proofs
set_option linter.unusedVariables false
set_option linter.unusedSimpArgs false
set_option linter.unnecessarySimpa false
set_option maxRecDepth 4000

theorem appNil {C : Cx} {k b : Nat} {x y : Opd} {d : Option Nat} {env : Env} {H : AHeap} {K : Env → AHeap → Prop} (v : AV) (hx : evalOpd C.G env x = some (.sl 0 [] .nil)) (hy : (evalOpd C.G env y).bind (elems H k) = some [v])
    (hK : K (putD env d (.sl k [v] (.tok H.length))) (H ++ [.tok 1])) : appW C k b x y d env H K := by
  have := appkL (C := C) (k := k) (b := b) (x := x) (y := y) (d := d) (env := env) (H := H) (K := K) [] [v] H (by simpa using hx) hy (by simp) (len_tok (by simp)) (by simpa using hK)
  exact this
theorem appTok {C : Cx} {k b : Nat} {x y : Opd} {d : Option Nat} {env : Env} {H : AHeap} {K : Env → AHeap → Prop} (es : List AV) (v : AV) (T : Nat) (hx : evalOpd C.G env x = some (.sl k es (.tok T))) (hy : (evalOpd C.G env y).bind (elems H k) = some [v])
    (hT : H[T]? = some (.tok es.length)) (hm : es.length + 1 ≤ maxLenA) (hK : K (putD env d (.sl k (es ++ [v]) (.tok T))) (H.set T (.tok (es.length + 1)))) : appW C k b x y d env H K := by
  unfold appW
  have he : evalOp C.G env H (.append k b x y) = some (.sl k (es ++ [v]) (.tok T), H.set T (.tok (es.length + 1))) := by
    simp only [evalOp, hx, hy]
    simp [hT, hm]
  rw [he]
  exact hK

/-- The parts of a rule as they grow: their room has the name t. -/
abbrev gpl (l : List Pt) (t : Nat) : AV := .sl (apdK 3 (l.map encP)) (l.map encP) (apdC (l.map encP) t)
/-- A rule of the reference, as it is seen. -/
def convV (r : Rl) : AV := .agg [.sc (.string r.label), .sc (.string r.sort), .sl (apdK 3 (r.parts.map encP)) (r.parts.map encP) (if r.parts = [] then .nil else .any), .sc (.bool r.var)]
theorem strip_gpl (l : List Pt) (t : Nat) : (gpl l t).strip = .sl (apdK 3 (l.map encP)) (l.map encP) (if l = [] then .nil else .any) := by
  cases l with
  | nil => rfl
  | cons a l => simp only [gpl, AV.strip, strip_parts, apdC, Cap.strip]; simp [Cap.strip]
def convS (g : Gr) : AV := .agg [.sl 1 (g.sorts.map sv) g.sc, .sl (if g.rules = [] then 0 else 4) (g.rules.map convV) (if g.rules = [] then .nil else .any)]

/-- Where the reference's grammar stands: rules that are done, their room, the heap. -/
structure GSt where
  i : Nat
  es : List AV
  c : Cap
  B : AHeap
def GOk (g : Gr) (h : AHeap) (s : GSt) : Prop :=
  s.i ≤ g.rules.length ∧ h.length < s.B.length ∧ (∀ j, j < h.length → s.B[j]? = h[j]?) ∧ s.es.map AV.strip = (g.rules.take s.i).map convV ∧
    s.B[h.length]? = some (.cells 0 [.sl 1 (g.sorts.map sv) g.sc, .sl (if s.es = [] then 0 else 4) s.es s.c]) ∧
    ((s.es = [] ∧ s.c = .nil) ∨ (s.es ≠ [] ∧ ∃ T, s.c = .tok T ∧ h.length < T ∧ s.B[T]? = some (.tok s.es.length)))
theorem GOk.len {g : Gr} {h : AHeap} {s : GSt} (hs : GOk g h s) : s.es.length = s.i := by
  have := congrArg List.length hs.2.2.2.1
  simp at this
  have := hs.1
  omega

theorem conv_c (g : Gr) (hr : g.rules.length ≤ 2 ^ 31) (hp : ∀ r ∈ g.rules, r.parts.length ≤ 2 ^ 31) (hsc : g.sc.strip = g.sc) {h : AHeap} : AEx PP Gl 7 [encG g] h (.ret (convS g)) h := by
  refine enter_law13_Grammar (by simp) ?_
  simp -implicitDefEqProofs [code_law13_Grammar, res_law13_Grammar, ann_law13_Grammar, encG]
  refine AWp.till (S := GSt) ⟨0, [], .nil, h ++ [.cells 0 [.sl 1 (g.sorts.map sv) g.sc, .sl 0 [] .nil]]⟩ (fun s => g.rules.length - s.i) [1, 2, 3] (fun s => [(4, i64 s.i)]) (fun s => s.B) (GOk g h) mixed ?_ (le_of (by simp [dslot])) (by simp) ?_
  · refine ⟨by simp, by simp, fun j hj => ?_, by simp, by simp, .inl ⟨rfl, rfl⟩⟩
    show (h ++ _)[j]? = _
    rw [List.getElem?_append_left hj]
  rintro ⟨i, es, c, B⟩ hs
  have hlen := hs.len
  obtain ⟨z1, z2, z3, z4, z5, z6⟩ := hs
  simp only at z1 z2 z3 z4 z5 z6 hlen
  by_cases hi : i < g.rules.length
  · obtain ⟨r, hri⟩ : ∃ k, g.rules[i]? = some k := ⟨g.rules[i], by simp [hi]⟩
    have hlt : (i : Int) < g.rules.length := by omega
    have hne : g.rules ≠ [] := by intro e; rw [e] at hi; simp at hi
    have hrm := List.mem_of_getElem? hri
    have hrp := hp r hrm
    have hB0 : ∀ x, (B ++ x)[h.length]? = some (.cells 0 [.sl 1 (g.sorts.map sv) g.sc, .sl (if es = [] then 0 else 4) es c]) := fun x => by rw [List.getElem?_append_left z2]; exact z5
    have hBs : ∀ x v, (B ++ x).set h.length v = B.set h.length v ++ x := fun x v => by rw [List.set_append_left _ _ z2]
    simp -implicitDefEqProofs [lp0_law13_Grammar, hlt, hri, encR]
    refine AWp.cnt r.parts.length [1, 2, 3, 4, 5] (fun j => [(6, i64 j)]) (fun j => B ++ ([.cells 0 [.sc (.string r.label), .sc (.string r.sort), gpl (r.parts.take j) (B.length + 1), .sc (.bool r.var)]] ++ apdH j)) (fun _ => True) mixed trivial (le_of (by simp [dslot])) (by simp [apdK, apdC]) ?_ ?_
    · intro j hj _
      obtain ⟨p, hpj⟩ : ∃ k, r.parts[j]? = some k := ⟨r.parts[j], by simp [hj]⟩
      have hltj : (j : Int) < r.parts.length := by omega
      have hnej : r.parts ≠ [] := by intro e; rw [e] at hj; simp at hj
      simp -implicitDefEqProofs [lp1_law13_Grammar, hlt, hri, encR, hltj, hpj, encP]
      have htl : (r.parts.take j).length = j := by rw [List.length_take]; omega
      have hmin : min j r.parts.length = j := by omega
      have htk : r.parts.take (j + 1) = r.parts.take j ++ [p] := by rw [List.take_add_one, hpj]; rfl
      refine appkL ((r.parts.take j).map encP) [encP p] (B ++ [.cells 0 [.sc (.string r.label), .sc (.string r.sort), gpl (r.parts.take j) (B.length + 1), .sc (.bool r.var)]]) (by simp [apd_sl]) (by simp [encP]) (by simp [hmin]) (len_tok (by simp; omega)) ?_
      simp -implicitDefEqProofs [htl, hmin, apd_sl]
      rw [IntWalk.i64_in ((j : Int) + 1) (by omega)]
      have hmk : List.take (j + 1) (List.map encP r.parts) = List.take j (List.map encP r.parts) ++ [encP p] := by rw [← List.map_take, htk, List.map_append, List.map_take]; rfl
      exact ⟨le_of (by simp [dslot]), by simp [hmin, hmk]⟩
    · intro _
      simp -implicitDefEqProofs [lp1_law13_Grammar, hlt, hri, encR, hB0]
      have hconv : (AV.agg [.sc (.string r.label), .sc (.string r.sort), gpl r.parts (B.length + 1), .sc (.bool r.var)]).strip = convV r := by
        simp only [AV.strip, stripL, convV]
        have := strip_gpl r.parts (B.length + 1)
        simp only [gpl, AV.strip] at this
        rw [this]
      have htk : g.rules.take (i + 1) = g.rules.take i ++ [r] := by rw [List.take_add_one, hri]; rfl
      generalize hval : AV.agg [.sc (.string r.label), .sc (.string r.sort), gpl r.parts (B.length + 1), .sc (.bool r.var)] = val at hconv
      have hvc : val.cells.length = 4 := by rw [← hval]; rfl
      rcases z6 with ⟨rfl, rfl⟩ | ⟨hes, T, rfl, hT1, hT2⟩
      · refine appNil val (by simp) (by simp [← hval]) ?_
        simp -implicitDefEqProofs [hB0, hBs]
        rw [IntWalk.i64_in ((i : Int) + 1) (by omega)]
        refine ⟨⟨i + 1, [val], .tok (B.length + ((apdH r.parts.length).length + 1)), _⟩, ?_, ?_, le_of (by simp [dslot]), rfl⟩
        · simp; omega
        · refine ⟨by simp; omega, by simp; omega, fun j hj => ?_, ?_, ?_, .inr ⟨by simp, _, rfl, by omega, ?_⟩⟩
          · simp only
            rw [List.getElem?_append_left (by simp; omega), List.getElem?_set_ne (by omega)]
            exact z3 j hj
          · simp only
            rw [htk, List.map_append, ← z4]
            simp [hconv]
          · simp only
            rw [List.getElem?_append_left (by simp; omega), List.getElem?_set_self z2]
            simp
          · simp only
            rw [List.getElem?_append_right (by simp)]
            simp
      · have hTB := (List.getElem?_eq_some_iff.1 hT2).1
        have hBt : ∀ x v, (B ++ x).set T v = B.set T v ++ x := fun x v => by rw [List.set_append_left _ _ hTB]
        have hB1 : ∀ x v, (B.set T v ++ x)[h.length]? = some (.cells 0 [.sl 1 (g.sorts.map sv) g.sc, .sl (if es = [] then 0 else 4) es (.tok T)]) := fun x v => by
          rw [List.getElem?_append_left (by simp; omega), List.getElem?_set_ne (by omega)]; exact z5
        have hBs1 : ∀ x v u, (B.set T v ++ x).set h.length u = (B.set T v).set h.length u ++ x := fun x v u => by rw [List.set_append_left _ _ (by simp; omega)]
        refine appTok es val T (by simp [hes]) (by simp [← hval]) (by rw [List.getElem?_append_left hTB]; exact hT2) (len_tok (by omega)) ?_
        simp -implicitDefEqProofs [hBt, hB1, hBs1]
        rw [IntWalk.i64_in ((i : Int) + 1) (by omega)]
        refine ⟨⟨i + 1, es ++ [val], .tok T, _⟩, ?_, ?_, le_of (by simp [dslot]), rfl⟩
        · simp; omega
        · refine ⟨by simp; omega, by simp; omega, fun j hj => ?_, ?_, ?_, .inr ⟨by simp, T, rfl, hT1, ?_⟩⟩
          · simp only
            rw [List.getElem?_append_left (by simp; omega), List.getElem?_set_ne (by omega), List.getElem?_set_ne (by omega)]
            exact z3 j hj
          · simp only
            rw [htk, List.map_append, List.map_append, ← z4]
            simp [hconv]
          · simp only
            rw [List.getElem?_append_left (by simp; omega), List.getElem?_set_self (by simp; omega)]
            simp
          · simp only
            rw [List.getElem?_append_left (by simp; omega), List.getElem?_set_ne (by omega), List.getElem?_set_self hTB]
            simp
  · have hil : i = g.rules.length := by omega
    have hnl : ¬ (i : Int) < g.rules.length := by omega
    simp -implicitDefEqProofs [lp0_law13_Grammar, hnl, z5]
    rw [hil, List.take_length] at z4
    have hbt : B.take h.length = h := by
      apply List.ext_getElem?
      intro j
      rw [List.getElem?_take]
      split
      · rename_i hj; exact z3 j hj
      · rename_i hj; rw [List.getElem?_eq_none (by omega)]
    have hsl : stripL es = g.rules.map convV := by rw [stripL_eq]; exact z4
    have hem : es = [] ↔ g.rules = [] := by
      rw [← List.length_eq_zero_iff, ← List.length_eq_zero_iff, hlen, hil]
    have hcs : c.strip = if g.rules = [] then .nil else .any := by
      rcases z6 with ⟨h1, rfl⟩ | ⟨h1, T, rfl, _⟩
      · rw [if_pos (hem.1 h1)]; rfl
      · rw [if_neg (fun e => h1 (hem.2 e))]; rfl
    have hki : (if es = [] then 0 else 4) = (if g.rules = [] then 0 else 4) := by
      by_cases he : es = []
      · rw [if_pos he, if_pos (hem.1 he)]
      · rw [if_neg he, if_neg (fun e => he (hem.2 e))]
    have hstr : (AV.agg [.sl 1 (g.sorts.map sv) g.sc, .sl (if es = [] then 0 else 4) es c]).strip = convS g := by
      simp only [AV.strip, stripL, convS, strip_sv, hsc, hsl, hcs, hki]
    refine retG h.length (by simp [deferred, dslot]) rfl (Nat.le_refl _) (by omega) ?_ (fun j o hj ho => .inl (by rw [← z3 j hj]; exact ho)) ?_ hbt
    · rw [hstr]
      simp only [convS, AV.inb, inbL, inb_sv, cap_inb hsc, Bool.and_true, Bool.true_and, Bool.and_eq_true]
      refine ⟨?_, by split <;> rfl⟩
      rw [inbL_eq, List.all_eq_true]
      intro v hv
      obtain ⟨r, _, rfl⟩ := List.mem_map.1 hv
      simp only [convV, AV.inb, inbL, inb_parts, Bool.true_and, Bool.and_true]
      split <;> rfl
    · rw [hstr]
end Go.Apx
