/- ABSTRACT MACHINE, part 14: all operations together. -/
import Derived.Test.YtbijnfhclfimeaaDoorAm13
namespace Go.Apx
set_option linter.unusedVariables false
set_option linter.unusedSimpArgs false

section
variable {P : Program} {G : Globs} {N S k : Nat} {D : Ro} {o : Oper} {a : Act} {I : Imm} {m : Locs} {w : World} {env : Env} {h : AHeap} {ann : List Nat}

theorem bin_sound {op : BinOp} {t t' : TypeId} {x y : Operand} {ao : AOp} {v : AV} {h' : AHeap} (ho : o.op = .binOp op t x y t') (hc : compBin P op t x y = some ao)
    (hr : Rel G N D S I m env h a w) (he : evalOp G env h ao = some (v, h')) : Does P G k o a I m w v h' := by
  unfold compBin at hc
  split at hc
  · rename_i x' y' hx hy
    split at hc
    · rename_i hop
      have hop' : BinOp.eql = .eql ∨ BinOp.eql = .neq := .inl rfl
      split at hc
      · simp at hc; subst hc; exact snd_bin ho hx hy hr he
      · rename_i hk
        simp at hc; subst hc
        refine snd_eqb ho hop' ?_ hx hy hr he
        rw [show 10 = 9 + 1 from rfl] at hk
        unfold eqKind at hk
        split at hk <;> first | assumption | (simp at hk; done) | (split at hk <;> first | (cases hk; done) | (split at hk <;> cases hk))
      · rename_i q hk
        split at hc
        · rename_i hn
          simp at hc; subst hc
          exact snd_eqnil ho hop' hk hn hx hy hr he
        · cases hc
      · simp only [Option.map_eq_some_iff] at hc
        obtain ⟨ks, hks, rfl⟩ := hc
        exact snd_eqagg ho hop' hks hx hy hr he
      · cases hc
    · rename_i hop
      have hop' : BinOp.neq = .eql ∨ BinOp.neq = .neq := .inr rfl
      split at hc
      · simp at hc; subst hc; exact snd_bin ho hx hy hr he
      · rename_i hk
        simp at hc; subst hc
        refine snd_eqb ho hop' ?_ hx hy hr he
        rw [show 10 = 9 + 1 from rfl] at hk
        unfold eqKind at hk
        split at hk <;> first | assumption | (simp at hk; done) | (split at hk <;> first | (cases hk; done) | (split at hk <;> cases hk))
      · rename_i q hk
        split at hc
        · rename_i hn
          simp at hc; subst hc
          exact snd_eqnil ho hop' hk hn hx hy hr he
        · cases hc
      · simp only [Option.map_eq_some_iff] at hc
        obtain ⟨ks, hks, rfl⟩ := hc
        exact snd_eqagg ho hop' hks hx hy hr he
      · cases hc
    · simp at hc; subst hc; exact snd_bin ho hx hy hr he
  · cases hc

theorem list_two {α : Type} {l : List Operand} {f : Operand → Option α} {a b : α} (h : l.map f = [some a, some b]) : ∃ x y, l = [x, y] ∧ f x = some a ∧ f y = some b := by
  cases l with
  | nil => simp at h
  | cons x l => cases l with
    | nil => simp at h
    | cons y l => cases l with
      | nil => simp at h; exact ⟨x, y, rfl, h.1, h.2⟩
      | cons z l => simp at h
theorem list_one {α : Type} {l : List Operand} {f : Operand → Option α} {a : α} (h : l.map f = [some a]) : ∃ x, l = [x] ∧ f x = some a := by
  cases l with
  | nil => simp at h
  | cons x l => cases l with
    | nil => simp at h; exact ⟨x, rfl, h⟩
    | cons y l => simp at h

theorem op_sound {ao : AOp} {v : AV} {h' : AHeap} (hc : compOp P ann o = some ao) (hk : k ≤ m.length) (hr : Rel G N D S I m env h a w) (he : evalOp G env h ao = some (v, h')) :
    Does P G k o a I m w v h' := by
  cases hop : o.op with
  | move x =>
    simp only [compOp, hop, Option.map_eq_some_iff] at hc
    obtain ⟨x', hx, rfl⟩ := hc
    simp only [evalOp, Option.map_eq_some_iff, Prod.mk.injEq] at he
    obtain ⟨u, hu, rfl, rfl⟩ := he
    exact snd_move (.inl hop) hx hr hu
  | assign x =>
    simp only [compOp, hop, Option.map_eq_some_iff] at hc
    obtain ⟨x', hx, rfl⟩ := hc
    simp only [evalOp, Option.map_eq_some_iff, Prod.mk.injEq] at he
    obtain ⟨u, hu, rfl, rfl⟩ := he
    exact snd_move (.inr hop) hx hr hu
  | pick c x y =>
    simp only [compOp, hop] at hc
    split at hc
    · simp at hc; subst hc; exact snd_pick hop (by assumption) (by assumption) (by assumption) hr he
    · cases hc
  | alloc e =>
    simp only [compOp, hop] at hc
    split at hc
    · split at hc
      · simp at hc; subst hc; simp [evalOp] at he
      · simp at hc; subst hc; exact snd_new hop (by assumption) hk hr he
    · cases hc
  | box e x =>
    simp only [compOp, hop] at hc
    split at hc
    · split at hc
      · simp at hc; subst hc; exact snd_box hop (by assumption) hr he
      · simp at hc; subst hc; exact snd_boxm hop (by assumption) hk hr he
    · cases hc
  | build t parts =>
    simp only [compOp, hop] at hc
    split at hc
    · rename_i fields z ht hz
      split at hc
      · cases hc
      · rename_i hall
        simp only [Option.map_eq_some_iff] at hc
        obtain ⟨ps, hps, rfl⟩ := hc
        exact snd_build_struct hop ht (by cases hh : fields.toList.all (fun f => (P.info? f.type).isSome) <;> simp_all) hz hps hr he
    · rename_i n elem z ht hz
      split at hc
      · simp only [Option.map_eq_some_iff] at hc
        obtain ⟨ps, hps, rfl⟩ := hc
        exact snd_build_array hop ht (by assumption) hz hps hr he
      · cases hc
    · cases hc
  | buildSlice t len parts =>
    simp only [compOp, hop] at hc
    split at hc
    · rename_i elem ht
      split at hc
      · split at hc
        · cases hc
        · simp only [Option.map_eq_some_iff] at hc
          obtain ⟨ps, hps, rfl⟩ := hc
          exact snd_bslice hop ht (by assumption) (by assumption) (by assumption) hps hr he
      · cases hc
    · cases hc
  | load t x =>
    simp only [compOp, hop] at hc
    split at hc
    · simp at hc; subst hc; exact snd_load hop (by assumption) (by assumption) hr he
    · cases hc
  | store t ad x =>
    simp only [compOp, hop] at hc
    split at hc
    · split at hc
      · split at hc
        · simp at hc; subst hc; simp [evalOp] at he
        · simp at hc; subst hc; exact snd_store hop (by assumption) (by assumption) (by assumption) hr he
      · cases hc
    · cases hc
  | binOp op t x y t' =>
    simp only [compOp, hop] at hc
    exact bin_sound hop hc hr he
  | unOp op t x =>
    simp only [compOp, hop, Option.map_eq_some_iff] at hc
    obtain ⟨x', hx, rfl⟩ := hc
    exact snd_un hop hx hr he
  | convert s d x =>
    simp only [compOp, hop] at hc
    split at hc
    · simp at hc; subst hc; exact snd_conv hop (by assumption) (by assumption) (by assumption) hr he
    · simp at hc; subst hc; exact snd_same hop (by assumption) (by assumption) (by assumption) hr he
    · cases hc
  | makeInterface t x =>
    simp only [compOp, hop] at hc
    split at hc
    · cases hc
    · rename_i d x' hni hd hx
      simp at hc; subst hc
      exact snd_mkIface hop hd (fun e he => hni e he) hx hr he
    · cases hc
  | makeFunc f xs ys =>
    simp only [compOp, hop] at hc
    split at hc
    · simp at hc; subst hc; exact snd_mkFunc hop (by assumption) (by assumption) hr he
    · cases hc
  | makeMap t r =>
    cases r with
    | none => simp [compOp, hop] at hc; subst hc; exact snd_mkMap hop hk hr he
    | some r => simp [compOp, hop] at hc
  | makeSlice t l c =>
    simp only [compOp, hop] at hc
    split at hc
    · rename_i elem ht
      split at hc
      · split at hc
        · rename_i hcond
          obtain ⟨h1, h2, h3⟩ := hcond
          simp at hc; subst hc
          exact snd_mkSlice hop ht (by assumption) (by assumption) (by assumption) h1 h2 h3 (by assumption) (by assumption) hk hr he
        · cases hc
      · cases hc
    · cases hc
  | slice t x lo hi mx =>
    simp only [compOp, hop] at hc
    split at hc
    · rename_i x' lo' hi' mx' hx h1 h2 h3
      have o1 := optOpd_of h1
      have o2 := optOpd_of h2
      have o3 := optOpd_of h3
      split at hc
      · simp only [Option.some.injEq] at hc; subst hc; exact snd_slice_str hop (by assumption) hx o1 o2 o3 hr he
      · simp only [Option.map_eq_some_iff] at hc
        obtain ⟨ty, hty, rfl⟩ := hc
        exact snd_slice_sl hop (by assumption) hty hx o1 o2 o3 hr he
      · simp only [Option.map_eq_some_iff] at hc
        obtain ⟨ty, hty, rfl⟩ := hc
        exact snd_slice_arr hop (by assumption) hty hx o1 o2 o3 hr he
      · cases hc
    · cases hc
  | fieldAddr t x f =>
    simp only [compOp, hop] at hc
    split at hc
    · simp at hc; subst hc; exact snd_faddr hop (by assumption) (by assumption) hr he
    · cases hc
  | field t x f =>
    simp only [compOp, hop] at hc
    split at hc
    · simp at hc; subst hc; exact snd_field hop (by assumption) (by assumption) hr he
    · cases hc
  | indexAddr t x i =>
    simp only [compOp, hop] at hc
    split at hc
    · simp only [Option.map_eq_some_iff] at hc
      obtain ⟨ty, hty, rfl⟩ := hc
      exact snd_iaddr hop (by assumption) hty (by assumption) (by assumption) hr he
    · simp only [Option.map_eq_some_iff] at hc
      obtain ⟨ty, hty, rfl⟩ := hc
      exact snd_iaddrA hop (by assumption) hty (by assumption) (by assumption) hr he
    · cases hc
  | index t x i =>
    simp only [compOp, hop] at hc
    split at hc
    · simp at hc; subst hc; exact snd_indexS hop (by assumption) (by assumption) (by assumption) hr he
    · simp only [Option.map_eq_some_iff] at hc
      obtain ⟨ty, hty, rfl⟩ := hc
      exact snd_index hop (by assumption) hty (by assumption) (by assumption) hr he
    · cases hc
  | lookup t x y ok =>
    simp only [compOp, hop] at hc
    split at hc
    · split at hc
      · simp at hc; subst hc
        exact snd_lookup hop (by assumption) (by assumption) (by assumption) (by assumption) (by assumption) hr he
      · cases hc
    · cases hc
  | mapUpdate t x y z =>
    simp only [compOp, hop] at hc
    split at hc
    · split at hc
      · simp at hc; subst hc
        exact snd_mapUpd hop (by assumption) (by assumption) (by assumption) (by assumption) (by assumption) hr he
      · cases hc
    · cases hc
  | typeAssert x xt t ok =>
    simp only [compOp, hop] at hc
    split at hc
    · cases hc
    · rename_i d z x' hni hd hz hx
      simp at hc; subst hc
      exact snd_tassert hop hd (fun e he => hni e he) hz hx hr he
    · cases hc
  | extract x i =>
    simp only [compOp, hop, Option.map_eq_some_iff] at hc
    obtain ⟨x', hx, rfl⟩ := hc
    exact snd_extract hop hx hr he
  | panic x =>
    simp only [compOp, hop, Option.map_eq_some_iff] at hc
    obtain ⟨x', hx, rfl⟩ := hc
    simp [evalOp] at he
  | defer c =>
    simp only [compOp, hop] at hc
    split at hc
    · split at hc
      · simp at hc; subst hc; simp [evalOp] at he
      · cases hc
    · cases hc
  | call c =>
    simp only [compOp, hop] at hc
    split at hc
    · split at hc
      · simp at hc; subst hc; simp [evalOp] at he
      · cases hc
    · rename_i hcal
      split at hc
      · rename_i x' t ha hT
        obtain ⟨x, ha', hx⟩ := list_one ha
        split at hc
        · simp at hc; subst hc; exact snd_len (q := .str) hop hcal ha' hT (by assumption) rfl hx hr he
        · simp at hc; subst hc; exact snd_len (q := .sl) hop hcal ha' hT (by assumption) ⟨_, rfl⟩ hx hr he
        · simp at hc; subst hc; exact snd_len (q := .map) hop hcal ha' hT (by assumption) ⟨_, _, rfl⟩ hx hr he
        · simp at hc; subst hc; exact snd_len (q := .arr _) hop hcal ha' hT (by assumption) ⟨_, rfl⟩ hx hr he
        · cases hc
      · cases hc
    · rename_i hcal
      split at hc
      · rename_i x' y' t u ha hT
        obtain ⟨x, y, ha', hx, hy⟩ := list_two ha
        split at hc
        · split at hc
          · split at hc
            · split at hc
              · rename_i hcond
                obtain ⟨h1, h2, h3, h4⟩ := hcond
                simp at hc; subst hc
                exact snd_append hop hcal ha' hT (by assumption) (by assumption) (by assumption) (by assumption) (by assumption) h1 h2 h3 h4 hx hy hk hr he
              · cases hc
            · cases hc
          · cases hc
        · cases hc
      · cases hc
    · rename_i hcal
      split at hc
      · rename_i x' y' t u ha hT
        obtain ⟨x, y, ha', hx, hy⟩ := list_two ha
        split at hc
        · simp only [Option.map_eq_some_iff] at hc
          obtain ⟨ty, hty, rfl⟩ := hc
          exact snd_copy hop hcal ha' hT (by assumption) hty hx hy hr he
        · cases hc
      · cases hc
    · rename_i hcal
      split at hc
      · rename_i x' y' ha
        obtain ⟨x, y, ha', hx, hy⟩ := list_two ha
        simp at hc; subst hc
        exact snd_mx (isMax := true) hop hcal ha' hx hy hr he
      · cases hc
    · rename_i hcal
      split at hc
      · rename_i x' y' ha
        obtain ⟨x, y, ha', hx, hy⟩ := list_two ha
        simp at hc; subst hc
        exact snd_mx (isMax := false) hop hcal ha' hx hy hr he
      · cases hc
    · simp at hc; subst hc; simp [evalOp] at he
    · cases hc
  | _ => simp [compOp, hop] at hc

end
end Go.Apx
