/- ABSTRACT MACHINE, part 27: from an exact contract of a law to its row. -/
import Derived.Test.YtbijnfhclfimeaaDoorAm26
import Derived.WalkKit
import Derived.ProofKit
import Derived.OpenShut
import Derived.Deep.DeepHandedRow
import Derived.Lib.LaidTab
import Derived.LaidSub
import Derived.WideKeyArgs
namespace Go.Apx
open Go.ChangeShapes Go.WideShapes Go.ChangeAt Go.RowKit
set_option linter.unusedVariables false
set_option linter.unusedSimpArgs false

section
variable {P : Program} {W : World} {fuel : Nat} {t e : TypeId}

/-- The same reading under another name. -/
theorem Rd.map {α β : Type} {g : α → AV} {sz : α → Nat} {ok : α → Prop} {g' : β → AV} {sz' : β → Nat} {ok' : β → Prop} (φ : α → β) (h : Rd P W fuel t g sz ok) (hc : ∀ a, (g' (φ a)).cells = (g a).cells) (hs : ∀ a, sz' (φ a) ≤ sz a) (ho : ∀ a, ok a → ok' (φ a)) :
    Rd P W fuel t g' sz' ok' := by
  intro H enc cs d ps hd
  obtain ⟨a, a1, a2, a3⟩ := h H enc cs d ps hd
  exact ⟨φ a, ho a a1, by rw [hc]; exact a2, Nat.le_trans (hs a) a3⟩

/-- An argument that is a structure. -/
theorem arg_agg {α H : Type} {enc : TypeId × Value → H} {g : α → AV} {sz : α → Nat} {ok : α → Prop} {v : Value} {d : DataW H} {ps : List MemPlace} (rd : ∀ fuel, Rd P W fuel t g sz ok) (h : DataW.Trod enc P W 0 (fun _ => true) true t v d ps)
    (h1 : ∀ a, ∀ c ∈ (g a).cells, c.one = true) (hg : ∀ a, ∃ cs, g a = .agg cs) (hv : ∃ cs, v = .agg cs) : ∃ a, ok a ∧ AVRel (I0 W) [] (g a) v ∧ sz a ≤ bulk d := by
  obtain ⟨fuel, hf⟩ := h
  obtain ⟨a, a1, a2, a3⟩ := rd fuel H enc _ d ps hf
  exact ⟨a, a1, rel_of_cells a2 (h1 a) (fun _ => hv) (fun _ => hg a), a3⟩
/-- An argument that is none. -/
theorem arg_one {α H : Type} {enc : TypeId × Value → H} {g : α → AV} {sz : α → Nat} {ok : α → Prop} {v : Value} {d : DataW H} {ps : List MemPlace} (rd : ∀ fuel, Rd P W fuel t g sz ok) (h : DataW.Trod enc P W 0 (fun _ => true) true t v d ps)
    (h1 : ∀ a, ∀ c ∈ (g a).cells, c.one = true) (hg : ∀ a cs, g a ≠ .agg cs) (hv : ∀ cs, v ≠ .agg cs) : ∃ a, ok a ∧ AVRel (I0 W) [] (g a) v ∧ sz a ≤ bulk d := by
  obtain ⟨fuel, hf⟩ := h
  obtain ⟨a, a1, a2, a3⟩ := rd fuel H enc _ d ps hf
  exact ⟨a, a1, rel_of_cells a2 (h1 a) (fun ⟨cs, e⟩ => absurd e (hg a cs)) (fun ⟨cs, e⟩ => absurd e (hv cs)), a3⟩
end

theorem agg_of_okWide {P : Program} {W : World} {r : Reach} {base : Nat} {t : TypeId} {v : Value} {fs : Array Field} (ht : P.underlying t = some (.struct fs)) (h : Value.okWide P W r base t v) : ∃ cs, v = .agg cs := by
  unfold Value.okWide at h
  rw [ht] at h
  obtain ⟨cs, h, _⟩ := h
  exact ⟨cs, h⟩
theorem slice_of_okWide {P : Program} {W : World} {r : Reach} {base : Nat} {t e : TypeId} {v : Value} (ht : P.underlying t = some (.slice e)) (h : Value.okWide P W r base t v) : ∀ cs, v ≠ .agg cs := by
  rintro cs rfl
  unfold Value.okWide at h
  rw [ht] at h
  simp [Cell.okWide, Cell.ok, ht] at h
theorem int_of_okWide {P : Program} {W : World} {r : Reach} {base : Nat} {t : TypeId} {k : IntKind} {v : Value} (ht : P.underlying t = some (.int k)) (h : Value.okWide P W r base t v) : ∀ cs, v ≠ .agg cs := by
  rintro cs rfl
  unfold Value.okWide at h
  rw [ht] at h
  simp [Cell.okWide, Cell.ok, ht] at h
theorem string_of_okWide {P : Program} {W : World} {r : Reach} {base : Nat} {t : TypeId} {v : Value} (ht : P.underlying t = some .string) (h : Value.okWide P W r base t v) : ∀ cs, v ≠ .agg cs := by
  rintro cs rfl
  unfold Value.okWide at h
  rw [ht] at h
  simp [Cell.okWide, Cell.ok, ht] at h
theorem bool_of_okWide {P : Program} {W : World} {r : Reach} {base : Nat} {t : TypeId} {v : Value} (ht : P.underlying t = some .bool) (h : Value.okWide P W r base t v) : ∀ cs, v ≠ .agg cs := by
  rintro cs rfl
  unfold Value.okWide at h
  rw [ht] at h
  simp [Cell.okWide, Cell.ok, ht] at h

/-- The arguments read as they did. -/
theorem all_stays {H : Type} {enc : TypeId × Value → H} {P : Program} (hl : laidOutB P = true) {W W' : World} {sp : Nat → Bool} : ∀ {ts : List TypeId} {vs : List Value} {ds : List (DataW H)} {ps : List MemPlace}, (∀ t ∈ ts, P.readableRec t = true ∧ t < P.types.size) →
    DataW.TrodAll enc P W 0 (fun _ => true) true ts vs ds ps → (∀ p ∈ ps, W.sameAt W' p) → (∀ p ∈ ps, sp p.block = true) → DataW.TrodAll enc P W' 0 sp true ts vs ds ps
  | [], _, _, _, _, h, _, _ => by
    obtain ⟨rfl, rfl, rfl⟩ := trodAll_nil h
    exact trodAll_mk0
  | t :: ts, _, _, _, hr, h, h1, h2 => by
    obtain ⟨v, vs1, d, ds1, a, b, rfl, rfl, rfl, g1, g2⟩ := trodAll_cons h
    have ht := hr t (by simp)
    exact ⟨a, b, WideElems.Trod_stays hl ht.1 ht.2 g1 (fun p hp => h1 p (by simp [hp])) (fun p hp => h2 p (by simp [hp])), all_stays hl (fun t' h' => hr t' (by simp [h'])) g2 (fun p hp => h1 p (by simp [hp])) (fun p hp => h2 p (by simp [hp])), rfl⟩

/-- What a law's row asks of its end: true; the arguments read as they did. -/
theorem law_post {H : Type} {enc : TypeId × Value → H} {P : Program} {f : Func} {s : ChangeSpec} {apart fresh handsOn again : Bool} {W W' : World} {args : Array Value} {ds gs : List (DataW H)} {before : List MemPlace} {tb : TypeId}
    (hl : laidOutB P = true) (hr : ∀ t ∈ f.params.toList, P.readableRec t = true ∧ t < P.types.size) (hv : s.vars = []) (hres : f.resultTypes = #[tb]) (hb : P.underlying tb = some .bool) (hs : s.fn H (ds ++ gs) = { results := [.lit (.bool true)], args := ds })
    (hW : DataW.Whole enc P f.params.toList s.vars apart W args.toList ds gs before) (hB : Below W.heap.size W W') (hfz : ∀ a : Addr, a.block < W.heap.size → W'.frozen? a = W.frozen? a) :
    s.post enc P f apart fresh handsOn again W args (.bool true) W' := by
  have hW' := hW
  obtain ⟨p, q, hA, hV, rfl, hz, hn⟩ := hW
  rw [hv] at hV
  obtain ⟨rfl, rfl⟩ := trodVars_none hV
  simp only [List.append_nil] at hW' hs hz hn
  have hold : ∀ x ∈ p, x.block < W.heap.size := fun x hx => hW'.lt x hx
  have hargs : ∀ sp : Nat → Bool, (∀ x ∈ p, sp x.block = true) → DataW.TrodAll enc P W' 0 sp true f.params.toList args.toList ds p := fun sp hsp => all_stays hl hr hA (fun x hx => hB.same (hold x hx)) hsp
  have hrt : ∀ (b : Nat) (sp : Nat → Bool) (hd : Bool), DataW.TrodAll enc P W' b sp hd f.resultTypes.toList (Value.resultList f.resultTypes.size (.bool true)) [.lit (.bool true)] [] := by
    intro b sp hd
    rw [hres]
    exact trodAll_cons_mk (shut_bool hb true) trodAll_mk0
  have hok := ok_one (P := P) (W' := W') (f := f) (v := .bool true) hres rfl (okWide_bool_mk hb true)
  have e0 : s.fn H (ds ++ ([] : List (DataW H))) = { results := [.lit (.bool true)], args := ds } := by simpa using hs
  have hv0 : ∀ (w : World) (sp : Nat → Bool), DataW.TrodVars enc P w sp s.vars ([] : List (DataW H)) [] := by intro w sp; rw [hv]; exact rfl
  refine ⟨ds, [], p, [], p, [], hW', ?_, ?_, ?_, World.keptBut_mono (fun x hx => ⟨hx, .inr (.inl hx)⟩) (hB.frame (· ∈ p)), fun _ => ⟨hok, [.lit (.bool true)] ++ ds, [], [] ++ p, ⟨[] ++ p, [], trodAll_append (hargs _ (fun _ _ => rfl)) (hrt 0 _ _), hv0 _ _, by simp, ?_, by simpa using hn⟩, fun x hx _ => by simpa using hx⟩⟩
  · rw [e0]; exact hrt _ _ _
  · rw [e0]; exact hargs _ (fun x hx => by simpa using hold x hx)
  · rw [e0]; exact hv0 _ _
  · intro b off hp
    have hp' : MemPlace.cell b off ∈ p := by simpa using hp
    rw [hfz _ (hold _ hp')]
    exact hz b off hp'

/-- From a law's exact contract to its row's end. -/
theorem law_calls {H : Type} {enc : TypeId × Value → H} {P : Program} {G : Globs} {fid : FuncId} {f : Func} {s : ChangeSpec} {apart fresh handsOn again : Bool} {W : World} {args : Array Value} {ds gs : List (DataW H)} {before : List MemPlace} {tb : TypeId} {avs : List AV}
    (hl : laidOutB P = true) (hr : ∀ t ∈ f.params.toList, P.readableRec t = true ∧ t < P.types.size) (hv : s.vars = []) (hres : f.resultTypes = #[tb]) (hb : P.underlying tb = some .bool) (hs : s.fn H (ds ++ gs) = { results := [.lit (.bool true)], args := ds })
    (hW : DataW.Whole enc P f.params.toList s.vars apart W args.toList ds gs before) (hG : ∀ g v, G g = some v → ∀ m', AVRel (I0 W) m' v (.pointer (some ⟨g, 0, none⟩))) (hargs : AVRels (I0 W) [] avs args.toList)
    (hc : AEx P G fid avs [] (.ret (.sc (.bool true))) []) :
    Calls P fid args W fun e W' => ∃ v, e = .returned v ∧ s.post enc P f apart fresh handsOn again W args v W' := by
  have := hc.2 (I0 W) [] W args.toList (inv0 hG) hargs
  rw [show args.toList.toArray = args by simp] at this
  refine this.mono fun e W' ⟨r, h', I', m', ⟨hr1, hh⟩, he, hi, ht⟩ => ?_
  subst hr1
  have hev : e = .returned (.bool true) := by
    cases e with
    | returned x =>
      have he' : AVRel I' m' (.sc (.bool true)) x := he
      cases he'
      rfl
    | panicked ch =>
      obtain ⟨_, _, hx⟩ := he
    | _ => exact absurd he (by simp [EndRel])
  exact ⟨_, hev, law_post hl hr hv hres hb hs hW (below_of_trans ht) (frozen_of_trans ht)⟩
end Go.Apx
