/- ABSTRACT MACHINE, part 19: operations whose order is drawn. -/
import Derived.Test.YtbijnfhclfimeaaDoorAm18
namespace Go.Apx
set_option linter.unusedVariables false
set_option linter.unusedSimpArgs false

/-! ## what an operation looks at -/
theorem mapM'_congr {α β : Type} {f g : α → Option β} : ∀ (l : List α), (∀ x ∈ l, f x = g x) → mapM' f l = mapM' g l
  | [], _ => rfl
  | x :: r, h => by simp only [mapM', h x (by simp), mapM'_congr r fun y hy => h y (by simp [hy])]

theorem opd_congr {G : Globs} {env env' : Env} {x : Opd} (h : ∀ t ∈ x.slots, env.get t = env'.get t) : evalOpd G env x = evalOpd G env' x := by
  cases x with
  | t n => simp only [evalOpd, h n (by simp [Opd.slots])]
  | _ => rfl

theorem evalOp_congr {G : Globs} {env env' : Env} {hp : AHeap} {op : AOp} (h : ∀ x ∈ op.opds, evalOpd G env x = evalOpd G env' x) : evalOp G env hp op = evalOp G env' hp op := by
  have one : ∀ x, evalOpd G env x = evalOpd G env' x → oneOpd G env x = oneOpd G env' x := fun x hx => by simp only [oneOpd, hx]
  cases op with
  | build z ps =>
    simp only [AOp.opds] at h
    simp only [evalOp]
    rw [mapM'_congr ps (g := fun p => (oneOpd G env' p.2.2).map fun v => (p.1, p.2.1, v)) fun p hp => by rw [one _ (h _ (List.mem_map_of_mem hp))]]
  | bslice k n z ps =>
    simp only [AOp.opds] at h
    simp only [evalOp]
    rw [mapM'_congr ps (g := fun p => (oneOpd G env' p.2).map fun v => (p.1, v)) fun p hp => by rw [one _ (h _ (List.mem_map_of_mem hp))]]
  | mkFunc f a b =>
    simp only [AOp.opds, List.mem_append] at h
    simp only [evalOp]
    rw [mapM'_congr a fun x hx => h x (.inl hx), mapM'_congr b fun x hx => h x (.inr hx)]
  | slice k x lo hi mx =>
    simp only [AOp.opds, List.mem_cons, List.mem_append] at h
    have h0 := h x (.inl rfl)
    have h1 : lo.map (evalOpd G env) = lo.map (evalOpd G env') := by cases lo with | none => rfl | some y => simp [h y (by simp)]
    have h2 : hi.map (evalOpd G env) = hi.map (evalOpd G env') := by cases hi with | none => rfl | some y => simp [h y (by simp)]
    have h3 : mx.map (evalOpd G env) = mx.map (evalOpd G env') := by cases mx with | none => rfl | some y => simp [h y (by simp)]
    simp only [evalOp, h0, h1, h2, h3]
  | pick c a b =>
    simp only [AOp.opds, List.mem_cons, List.not_mem_nil, or_false, forall_eq_or_imp, forall_eq] at h
    obtain ⟨h1, h2, h3⟩ := h
    simp only [evalOp, h1]
    split
    · rename_i t _
      cases t <;> simp [h2, h3]
    · rfl
  | _ =>
    simp only [AOp.opds, List.mem_cons, List.not_mem_nil, or_false, forall_eq_or_imp, forall_eq, false_implies, implies_true] at h
    first
      | (obtain ⟨h1, h2, h3⟩ := h; simp only [evalOp, h1, h2, h3]; done)
      | (obtain ⟨h1, h2⟩ := h; simp only [evalOp, h1, h2]; done)
      | (simp only [evalOp, h]; done)
      | (simp only [evalOp]; done)

theorem evalOp_quiet {G : Globs} {env : Env} {op : AOp} {v : AV} (hl : op.loud = false) (he : evalOp G env [] op = some (v, [])) (h : AHeap) : evalOp G env h op = some (v, h) := by
  cases op
  case lookup ks z ok m k =>
    simp only [evalOp] at he ⊢
    split at he
    · rename_i m' k' h1 h2
      split at he
      · rename_i h3
        rw [if_pos h3]
        cases m' with
        | sc x =>
          cases x with
          | map r => cases r with
            | none => simpa [amapFind] using he
            | some r => simp at he
          | _ => simp at he
        | mp o => simp at he
        | _ => simp at he
      · cases he
    · cases he
  case mx b x y =>
    simp only [evalOp] at he ⊢
    split at he
    · rename_i h1 h2
      split at he
      · rename_i h3; rw [if_pos h3]; simpa using he
      · cases he
    · cases he
  case slice k x lo hi mx =>
    simp only [evalOp] at he ⊢
    generalize lo.map (evalOpd G env) = lo' at he ⊢
    generalize hi.map (evalOpd G env) = hi' at he ⊢
    generalize mx.map (evalOpd G env) = mx' at he ⊢
    generalize evalOpd G env x = x' at he ⊢
    have fin : ∀ (a b : Option (AV × AHeap)), True := fun _ _ => trivial
    split at he
    · split at he
      · rename_i h1 h2
        split at he
        · rename_i h3; simp only [h1, h2, if_pos h3]; simpa using he
        · cases he
      · cases he
    · split at he
      · rename_i h0
        rw [if_pos h0]
        split at he
        · rename_i h1 h2
          split at he
          · rename_i h3
            rw [if_pos h3]
            split at he
            · simpa using he
            · split at he
              · rename_i h4
                split at he
                · rename_i h5; rw [if_pos h5]; simpa using he
                · cases he
              · cases he
          · cases he
        · cases he
      · cases he
    · split at he
      · rename_i h1 h2
        split at he
        · rename_i h3; rw [if_pos h3]; simpa using he
        · cases he
      · cases he
    · split at he
      · rename_i h1 h2
        split at he
        · rename_i h3; rw [if_pos h3]; simpa using he
        · cases he
      · cases he
    · cases he
  all_goals simp only [AOp.loud, reduceCtorEq] at hl
  all_goals simp only [evalOp] at he ⊢
  all_goals first
    | (simp at he; done)
    | ((repeat' split at he) <;> simp_all; done)
    | skip

/-! ## environments up to what they give -/
def EnvEq (env env' : Env) : Prop := ∀ t, env.get t = env'.get t
theorem EnvEq.refl (env : Env) : EnvEq env env := fun _ => rfl
theorem EnvEq.symm {env env' : Env} (h : EnvEq env env') : EnvEq env' env := fun t => (h t).symm
theorem EnvEq.trans {a b c : Env} (h : EnvEq a b) (h' : EnvEq b c) : EnvEq a c := fun t => (h t).trans (h' t)

theorem putD_get {env : Env} {d : Option Nat} {v : AV} {t : Nat} : (putD env d v).get t = if d = some t then some v else env.get t := by
  cases d with
  | none => simp [putD]
  | some e =>
    simp only [putD, Env.get_put, Option.some.injEq]
    by_cases h : t = e
    · subst h; simp
    · rw [if_neg h, if_neg (fun e => h e.symm)]

theorem EnvEq.put {env env' : Env} (h : EnvEq env env') (d : Option Nat) (v : AV) : EnvEq (putD env d v) (putD env' d v) := fun t => by
  rw [putD_get, putD_get, h t]

theorem EnvEq.comm {env : Env} {d e : Option Nat} {v u : AV} (h : ∀ t, d = some t → e ≠ some t) : EnvEq (putD (putD env d v) e u) (putD (putD env e u) d v) := fun t => by
  simp only [putD_get]
  by_cases h1 : d = some t
  · rw [if_pos h1, if_neg (h t h1)]
    rw [if_pos h1]
  · rw [if_neg h1]
    by_cases h2 : e = some t
    · simp [h2, h1]
    · simp [h2, h1]

def Agree (l : List Nat) (env env' : Env) : Prop := ∀ t ∈ l, env.get t = env'.get t

theorem Agree.opds {it : AItem} {env env' : Env} {G : Globs} (h : Agree it.reads env env') : ∀ x ∈ it.op.opds, evalOpd G env x = evalOpd G env' x := fun x hx =>
  opd_congr fun t ht => h t (by simp only [AItem.reads, List.mem_append, List.mem_flatMap]; exact .inr ⟨x, hx, ht⟩)

theorem Agree.guard {it : AItem} {env env' : Env} (h : Agree it.reads env env') : guardOf env it.guard = guardOf env' it.guard := by
  unfold guardOf
  cases hg : it.guard with
  | none => rfl
  | some p => simp only [h p.1 (by simp [AItem.reads, hg])]

theorem Agree.dfr {it : AItem} {env env' : Env} {f : Opd} {args : List Opd} (h : Agree it.reads env env') (hop : it.op = .defer f args) : deferred env = deferred env' := by
  have := h dslot (by simp [AItem.reads, hop, AOp.extra])
  unfold deferred; rw [this]
theorem Agree.pst {it : AItem} {env env' : Env} {n d : Nat} {x : Opd} (h : Agree it.reads env env') (hop : it.op = .pstore n d x) : env.get d = env'.get d := h d (by simp [AItem.reads, hop, AOp.extra])

/-! ## quiet operations -/
def quietOp (C : Cx) (it : AItem) (env : Env) : Option (Option Nat × AV) :=
  match it.op with
  | .pnew n => it.dst.map fun d => (some d, .pend n)
  | .pstore n d x => match env.get d, oneOpd C.G env x with
    | some (.pend n'), some v => if n' = n ∧ v.cells.length = n ∧ it.dst = none then some (some d, .ip v) else none
    | _, _ => none
  | op => if op.loud = false then match evalOp C.G env [] op with
    | some (v, []) => some (it.dst, v)
    | _ => none
    else none

def quietItem (C : Cx) (it : AItem) (env : Env) : Option (Option Nat × AV) :=
  match guardOf env it.guard with
  | some true => quietOp C it env
  | some false => some (it.dst, .tup [])
  | none => none

section
variable {C : Cx} {it x y : AItem} {env env' : Env} {h : AHeap} {K : Env → AHeap → Prop} {Q : APost} {d : Option Nat} {v : AV}

theorem quietItem_congr (ha : Agree it.reads env env') : quietItem C it env = quietItem C it env' := by
  unfold quietItem
  rw [ha.guard]
  have h1 : quietOp C it env = quietOp C it env' := by
    have ho := ha.opds (G := C.G)
    unfold quietOp
    cases hop : it.op with
    | pnew n => rfl
    | pstore n d x =>
      have h2 := ha.pst hop
      rw [hop] at ho
      have h3 := ho x (by simp [AOp.opds])
      simp only [h2, oneOpd, h3]
    | _ => simp only [hop] at ho; simp only [evalOp_congr ho]
  rw [h1]

theorem quietItem_writes (hq : quietItem C it env = some (d, v)) : ∀ t, d = some t → t ∈ it.writes := by
  intro t ht
  subst ht
  unfold quietItem at hq
  have hdst : it.dst = some t → t ∈ it.writes := fun h => by simp [AItem.writes, h]
  split at hq
  · unfold quietOp at hq
    split at hq
    · rename_i n hop
      simp only [Option.map_eq_some_iff, Prod.mk.injEq, Option.some.injEq] at hq
      obtain ⟨d', h1, rfl, _⟩ := hq
      exact hdst h1
    · rename_i n d' x hop
      split at hq
      · split at hq
        · simp only [Option.some.injEq, Prod.mk.injEq] at hq
          obtain ⟨rfl, _⟩ := hq
          simp [AItem.writes, hop, AOp.extra]
        · cases hq
      · cases hq
    · split at hq
      · split at hq
        · simp only [Option.some.injEq, Prod.mk.injEq] at hq
          exact hdst hq.1
        · cases hq
      · cases hq
  · simp only [Option.some.injEq, Prod.mk.injEq] at hq
    exact hdst hq.1
  · cases hq

theorem quietItem_wp (hq : quietItem C it env = some (d, v)) (hK : K (putD env d v) h) : itemWp C it env h K Q := by
  unfold quietItem at hq
  unfold itemWp
  split at hq
  · rename_i hg
    rw [hg]
    simp only
    unfold quietOp at hq
    unfold opWp
    split at hq
    · rename_i n hop
      simp only [Option.map_eq_some_iff, Prod.mk.injEq] at hq
      obtain ⟨d', h1, h2, h3⟩ := hq
      subst h2 h3
      simp only [hop, h1]
      exact hK
    · rename_i n d' x hop
      split at hq
      · rename_i n' v' h1 h2
        split at hq
        · rename_i h3
          simp only [Option.some.injEq, Prod.mk.injEq] at hq
          obtain ⟨h4, h5⟩ := hq
          subst h4 h5
          simp only [hop, h1, h2]
          exact ⟨h3.1, h3.2.1, h3.2.2, hK⟩
        · cases hq
      · cases hq
    · rename_i n1 n2
      split at hq
      · rename_i hl
        split at hq
        · rename_i v' he
          simp only [Option.some.injEq, Prod.mk.injEq] at hq
          obtain ⟨h4, h5⟩ := hq
          subst h4 h5
          have := evalOp_quiet hl he h
          split
          · rename_i n hop; exact (n1 _ hop).elim
          · rename_i n d x hop; exact (n2 _ _ _ hop).elim
          · rename_i f args hop; rw [hop] at hl; cases hl
          · rename_i f args hop; rw [hop] at hl; cases hl
          · rename_i x hop; rw [hop] at hl; cases hl
          · simp only [this]; exact hK
        · cases hq
      · cases hq
  · rename_i hg
    simp only [Option.some.injEq, Prod.mk.injEq] at hq
    obtain ⟨h4, h5⟩ := hq
    subst h4 h5
    rw [hg]
    exact hK
  · cases hq

/-- The same operation from an environment that agrees on what it reads. -/
theorem itemWp_agree (ha : Agree it.reads env env') (hQ : ∀ v h, Q (.pan v) env' h → Q (.pan v) env h) (hw : itemWp C it env' h K Q) :
    itemWp C it env h (fun e h1 => ∃ d v, e = putD env d v ∧ (∀ t, d = some t → t ∈ it.writes) ∧ K (putD env' d v) h1) Q := by
  have hdst : ∀ t, it.dst = some t → t ∈ it.writes := fun t h => by simp [AItem.writes, h]
  unfold itemWp at hw ⊢
  rw [ha.guard]
  split at hw
  · rename_i hg
    unfold opWp at hw ⊢
    have ho := ha.opds (G := C.G)
    split at hw
    · rename_i n hop
      split at hw
      · rename_i d hd
        simp only [hop, hd]
        exact ⟨some d, _, rfl, fun t ht => hdst t (hd.trans ht), hw⟩
      · exact hw.elim
    · rename_i n d x hop
      have h2 := ha.pst hop
      rw [hop] at ho
      have h3 := ho x (by simp [AOp.opds])
      simp only [hop, h2, oneOpd, h3]
      simp only [oneOpd] at hw
      split at hw
      · rename_i n' v hv1 hv2
        obtain ⟨g1, g2, g3, g4⟩ := hw
        exact ⟨g1, g2, g3, some d, _, rfl, fun t ht => by simp at ht; subst ht; simp [AItem.writes, hop, AOp.extra], g4⟩
      · exact hw.elim
    · rename_i f args hop
      rw [hop] at ho
      have h3 := ho f (by simp [AOp.opds])
      have h4 : mapM' (evalOpd C.G env) args = mapM' (evalOpd C.G env') args := mapM'_congr args fun x hx => ho x (by simp [AOp.opds, hx])
      simp only [hop, h3, h4]
      split at hw
      · rename_i fid a b vs hf hvs
        obtain ⟨R, hR, hp⟩ := hw
        refine ⟨R, hR, fun r h' hr => ?_⟩
        have := hp r h' hr
        cases r with
        | ret v => exact ⟨it.dst, v, rfl, hdst, this⟩
        | pan v => exact hQ v h' this
      · rename_i ob vs hf hvs
        obtain ⟨hlp, R, hR, hp⟩ := hw
        refine ⟨hlp, R, hR, fun r h' hr => ?_⟩
        have := hp r h' hr
        cases r with
        | ret v => exact ⟨it.dst, v, rfl, hdst, this⟩
        | pan v => exact hQ v h' this
      · exact hw.elim
    · rename_i f args hop
      have hdf := ha.dfr hop
      rw [hop] at ho
      have h3 := ho f (by simp [AOp.opds])
      have h4 : mapM' (evalOpd C.G env) args = mapM' (evalOpd C.G env') args := mapM'_congr args fun x hx => ho x (by simp [AOp.opds, hx])
      simp only [hop, h3, h4, hdf]
      split at hw
      · rename_i fid a b vs l hf hvs hl
        obtain ⟨g1, g2, g3⟩ := hw
        exact ⟨g1, g2, some dslot, _, rfl, fun t ht => by simp at ht; subst ht; simp [AItem.writes, hop, AOp.extra], g3⟩
      · exact hw.elim
    · rename_i x hop
      rw [hop] at ho
      have h3 := ho x (by simp [AOp.opds])
      simp only [hop, h3]
      split at hw
      · rename_i t v hx
        exact hQ _ _ hw
      · exact hw.elim
    · rename_i n1 n2 n3 n4 n5
      split at hw
      · rename_i v h' he
        rw [← evalOp_congr ho] at he
        simp only [he]
        exact ⟨it.dst, v, rfl, hdst, hw⟩
      · exact hw.elim
  · exact ⟨it.dst, _, rfl, hdst, hw⟩
  · exact hw.elim

theorem itemWp_mono {K' : Env → AHeap → Prop} {Q' : APost} (hk : ∀ e h, K e h → K' e h) (hq : ∀ v e h, Q (.pan v) e h → Q' (.pan v) e h) (hw : itemWp C it env h K Q) : itemWp C it env h K' Q' := by
  unfold itemWp at hw ⊢
  split at hw
  · rename_i hg
    unfold opWp at hw ⊢
    split at hw
    · split at hw
      · exact hk _ _ hw
      · exact hw.elim
    · split at hw
      · obtain ⟨g1, g2, g3, g4⟩ := hw
        exact ⟨g1, g2, g3, hk _ _ g4⟩
      · exact hw.elim
    · split at hw
      · obtain ⟨R, hR, hp⟩ := hw
        refine ⟨R, hR, fun r h' hr => ?_⟩
        have := hp r h' hr
        cases r with
        | ret v => exact hk _ _ this
        | pan v => exact hq _ _ _ this
      · obtain ⟨hl, R, hR, hp⟩ := hw
        refine ⟨hl, R, hR, fun r h' hr => ?_⟩
        have := hp r h' hr
        cases r with
        | ret v => exact hk _ _ this
        | pan v => exact hq _ _ _ this
      · exact hw.elim
    · split at hw
      · obtain ⟨g1, g2, g3⟩ := hw
        exact ⟨g1, g2, hk _ _ g3⟩
      · exact hw.elim
    · split at hw
      · exact hq _ _ _ hw
      · exact hw.elim
    · split at hw
      · exact hk _ _ hw
      · exact hw.elim
  · exact hk _ _ hw
  · exact hw.elim
end

/-! ## a plan's run -/
/-- The plan, item by item: what may be overtaken is quiet. -/
def drawWp (C : Cx) : List (Bool × AItem) → APost → Env → AHeap → Prop
  | [], Q, env, h => Q .normal env h
  | (true, it) :: r, Q, env, h => match quietItem C it env with
    | some (d, v) => drawWp C r Q (putD env d v) h
    | none => False
  | (false, it) :: r, Q, env, h => itemWp C it env h (fun env h => drawWp C r Q env h) (fun e _ h => ∀ env, Q e env h)

/-- The post, up to the form of environments. -/
def upEq (Q : APost) : APost
  | .pan v, _, h => ∀ env, Q (.pan v) env h
  | e, env, h => ∃ env0, EnvEq env0 env ∧ Q e env0 h

theorem drawWp_up {C : Cx} {Q : APost} : ∀ {pl : List (Bool × AItem)} {env : Env} {h : AHeap}, drawWp C pl Q env h → drawWp C pl (upEq Q) env h
  | [], env, h, hw => ⟨env, .refl env, hw⟩
  | (true, it) :: r, env, h, hw => by
    simp only [drawWp] at hw ⊢
    split at hw
    · exact drawWp_up hw
    · exact hw.elim
  | (false, it) :: r, env, h, hw => by
    simp only [drawWp] at hw ⊢
    exact itemWp_mono (fun e h he => drawWp_up he) (fun v e h he env => he) hw

theorem drawWp_eq {C : Cx} {Q : APost} : ∀ {pl : List (Bool × AItem)} {env env' : Env} {h : AHeap}, EnvEq env env' → drawWp C pl (upEq Q) env h → drawWp C pl (upEq Q) env' h
  | [], env, env', h, he, ⟨env0, h1, h2⟩ => ⟨env0, h1.trans he, h2⟩
  | (true, it) :: r, env, env', h, he, hw => by
    simp only [drawWp] at hw ⊢
    rw [← quietItem_congr (C := C) (it := it) (fun t _ => he t)]
    split at hw
    · rename_i d v hq
      exact drawWp_eq (he.put d v) hw
    · exact hw.elim
  | (false, it) :: r, env, env', h, he, hw => by
    simp only [drawWp] at hw ⊢
    refine itemWp_mono ?_ (fun v e h he => he) (itemWp_agree (env := env') (env' := env) (fun t _ => (he t).symm) (fun v h hv => hv) hw)
    rintro e h1 ⟨d, v, rfl, _, hK⟩
    exact drawWp_eq (he.put d v) hK

theorem AItem.apart_spec {x y : AItem} (h : x.apart y = true) : (∀ t ∈ x.writes, t ∉ y.reads ∧ t ∉ y.writes) ∧ ∀ t ∈ y.writes, t ∉ x.reads := by
  simp only [AItem.apart, Bool.and_eq_true, List.all_eq_true, Bool.not_eq_true', List.contains_eq_mem, decide_eq_false_iff_not] at h
  exact ⟨fun t ht => h.1 t ht, fun t ht => h.2 t ht⟩

/-- Any item may overtake a quiet one that it has nothing to do with. -/
theorem drawWp_swap {C : Cx} {Q : APost} {x y : AItem} {b : Bool} {r : List (Bool × AItem)} {env : Env} {h : AHeap} (ha : x.apart y = true) (hw : drawWp C ((true, x) :: (b, y) :: r) (upEq Q) env h) :
    drawWp C ((b, y) :: (true, x) :: r) (upEq Q) env h := by
  obtain ⟨h1, h2⟩ := AItem.apart_spec ha
  rw [drawWp] at hw
  split at hw
  · rename_i dx vx hq
    have hwx := quietItem_writes hq
    have hag : Agree y.reads env (putD env dx vx) := fun t ht => by
      rw [putD_get, if_neg]
      intro e
      exact (h1 t (hwx t e)).1 ht
    have hback : ∀ (d : Option Nat) (v : AV), (∀ t, d = some t → t ∈ y.writes) → quietItem C x (putD env d v) = some (dx, vx) := fun d v hd => by
      rw [← hq]
      refine quietItem_congr fun t ht => ?_
      rw [putD_get, if_neg]
      intro e
      exact h2 t (hd t e) ht
    have hcomm : ∀ (d : Option Nat) (v : AV), (∀ t, d = some t → t ∈ y.writes) → EnvEq (putD (putD env dx vx) d v) (putD (putD env d v) dx vx) := fun d v hd =>
      EnvEq.comm fun t e e' => (h1 t (hwx t e)).2 (hd t e')
    cases b with
    | true =>
      rw [drawWp] at hw ⊢
      rw [quietItem_congr hag]
      split at hw
      · rename_i dy vy hy
        have hwy := quietItem_writes hy
        rw [drawWp, hback dy vy hwy]
        exact drawWp_eq (hcomm dy vy hwy) hw
      · exact hw.elim
    | false =>
      rw [drawWp] at hw ⊢
      refine itemWp_mono ?_ (fun v e h he => he) (itemWp_agree hag (fun v h hv => hv) hw)
      rintro e h1 ⟨d, v, rfl, hd, hK⟩
      rw [drawWp, hback d v hd]
      exact drawWp_eq (hcomm d v hd) hK
  · exact hw.elim

theorem drawWp_bubble {C : Cx} {Q : APost} {y : AItem} {b : Bool} {r : List (Bool × AItem)} : ∀ {l : List (Bool × AItem)} {env : Env} {h : AHeap}, (∀ p ∈ l, p.1 = true ∧ p.2.apart y = true) → drawWp C (l ++ (b, y) :: r) (upEq Q) env h →
    drawWp C ((b, y) :: (l ++ r)) (upEq Q) env h
  | [], env, h, _, hw => hw
  | (c, x) :: l, env, h, hl, hw => by
    obtain ⟨rfl, ha⟩ : c = true ∧ x.apart y = true := hl (c, x) (by simp)
    rw [List.cons_append]
    refine drawWp_swap ha ?_
    rw [List.cons_append, drawWp] at hw
    rw [drawWp]
    split at hw
    · exact drawWp_bubble (fun p hp => hl p (by simp [hp])) hw
    · exact hw.elim

/-! ## every order -/
section
variable {l : List AItem} {an : List (List Nat)}

def anc (an : List (List Nat)) (i : Nat) : List Nat := an[i]?.getD []

/-- What a rest of a plan keeps: each item's forebears stand before it; what is not among a later one's forebears is quiet and apart from it. -/
def Good (l : List AItem) (an : List (List Nat)) : List (Bool × Nat) → Prop
  | [] => True
  | (b, i) :: r => (∃ it, l[i]? = some it ∧ (∀ x ∈ it.after, x < l.length ∧ x ≠ i ∧ x ∉ r.map (·.2)) ∧
      ∀ p ∈ r, p.2 ≠ i ∧ (i ∈ anc an p.2 ∨ (b = true ∧ ∃ jt, l[p.2]? = some jt ∧ it.apart jt = true))) ∧ Good l an r

theorem good_of_plan : ∀ (p done : List Nat), planOk l an done p = true → (∀ x ∈ done, x < l.length ∧ x ∉ p) → Good l an (planMarks l an p)
  | [], _, _, _ => trivial
  | i :: r, done, h, hd => by
    simp only [planOk, Bool.and_eq_true] at h
    obtain ⟨h1, h2⟩ := h
    have hnc : ∀ x, x ∈ done → x < l.length ∧ x ≠ i ∧ x ∉ r := fun x hx => by
      have := hd x hx
      simp only [List.mem_cons, not_or] at this
      exact this
    have hm : ∀ r, (planMarks l an r).map (·.2) = r := by
      intro r; induction r with
      | nil => rfl
      | cons x r ih => simp [planMarks, ih]
    cases hi : l[i]? with
    | none => rw [hi] at h1; cases h1
    | some it =>
      rw [hi] at h1
      simp only [Bool.and_eq_true, List.all_eq_true, bne_iff_ne, Bool.or_eq_true, List.contains_eq_mem, decide_eq_true_eq] at h1
      obtain ⟨g1, g2⟩ := h1
      refine ⟨⟨it, hi, fun x hx => ?_, fun q hq => ?_⟩, good_of_plan r (i :: done) h2 ?_⟩
      · rw [hm]
        exact hnc x (by simpa using g1 x hx)
      · have hq2 : q.2 ∈ r := by have := List.mem_map_of_mem (f := (·.2)) hq; rwa [hm] at this
        obtain ⟨k1, k2⟩ := g2 q.2 hq2
        refine ⟨k1, ?_⟩
        by_cases hin : i ∈ anc an q.2
        · exact .inl hin
        · right
          refine ⟨?_, ?_⟩
          · simp only [List.any_eq_true, Bool.not_eq_true', List.contains_eq_mem, decide_eq_false_iff_not]
            exact ⟨q.2, hq2, hin⟩
          · rcases k2 with k2 | k2
            · exact (hin k2).elim
            · split at k2
              · rename_i jt hj; exact ⟨jt, hj, k2⟩
              · cases k2
      · intro x hx
        simp only [List.mem_cons] at hx
        rcases hx with rfl | hx
        · refine ⟨(List.getElem?_eq_some_iff.1 hi).1, fun hr => (g2 x hr).1 rfl⟩
        · exact ⟨(hnc x hx).1, (hnc x hx).2.2⟩

theorem Good.drop {b : Bool} {i : Nat} {r : List (Bool × Nat)} : ∀ {a : List (Bool × Nat)}, Good l an (a ++ (b, i) :: r) → Good l an (a ++ r)
  | [], h => h.2
  | (c, j) :: a, ⟨⟨it, h1, h2, h3⟩, h4⟩ => by
    refine ⟨⟨it, h1, fun x hx => ?_, fun p hp => ?_⟩, Good.drop h4⟩
    · obtain ⟨g1, g2, g3⟩ := h2 x hx
      refine ⟨g1, g2, fun hm => g3 ?_⟩
      have hm : x ∈ (a ++ r).map (·.2) := hm
      show x ∈ (a ++ (b, i) :: r).map (·.2)
      simp only [List.map_append, List.map_cons, List.mem_append, List.mem_cons] at hm ⊢
      exact hm.elim .inl (fun h => .inr (.inr h))
    · refine h3 p ?_
      have hp : p ∈ a ++ r := hp
      show p ∈ a ++ (b, i) :: r
      simp only [List.mem_append, List.mem_cons] at hp ⊢
      exact hp.elim .inl (fun h => .inr (.inr h))

theorem Good.nodup {b : Bool} {i : Nat} {r : List (Bool × Nat)} : ∀ {a : List (Bool × Nat)}, Good l an (a ++ (b, i) :: r) → i ∉ (a ++ r).map (·.2)
  | [], ⟨⟨it, _, _, h3⟩, _⟩ => by
    intro h
    simp only [List.nil_append, List.mem_map] at h
    obtain ⟨p, hp, e⟩ := h
    exact (h3 p hp).1 e
  | (c, j) :: a, ⟨⟨it, _, _, h3⟩, h4⟩ => by
    have := Good.nodup h4
    simp only [List.cons_append, List.map_cons, List.mem_cons, not_or]
    exact ⟨(h3 (b, i) (by simp)).1, this⟩

theorem Good.front {b : Bool} {i : Nat} {r : List (Bool × Nat)} : ∀ {a : List (Bool × Nat)}, Good l an (a ++ (b, i) :: r) →
    ∀ p ∈ a, p.2 ∈ anc an i ∨ (p.1 = true ∧ ∃ it jt, l[p.2]? = some it ∧ l[i]? = some jt ∧ it.apart jt = true)
  | [], _, p, hp => by cases hp
  | (c, j) :: a, ⟨⟨it, h1, _, h3⟩, h4⟩, p, hp => by
    simp only [List.mem_cons] at hp
    rcases hp with rfl | hp
    · rcases (h3 (b, i) (by simp)).2 with h | ⟨h, jt, h', h''⟩
      · exact .inl h
      · exact .inr ⟨h, it, jt, h1, h', h''⟩
    · exact Good.front h4 p hp

theorem anc_spec (h : ancOk l an = true) {i x : Nat} (hi : i < l.length) (hx : x ∈ anc an i) : ∃ it, l[i]? = some it ∧ ∃ j ∈ it.after, j = x ∨ x ∈ anc an j := by
  simp only [ancOk, List.all_eq_true, List.mem_range] at h
  have := h i hi x hx
  split at this
  · rename_i it hit
    simp only [List.any_eq_true, Bool.or_eq_true, beq_iff_eq, List.contains_eq_mem, decide_eq_true_eq] at this
    exact ⟨it, hit, this⟩
  · cases this

def look (l : List AItem) (R : List (Bool × Nat)) : Option (List (Bool × AItem)) := mapM' (fun (q : Bool × Nat) => (l[q.2]?).map fun it => (q.1, it)) R

theorem mapM'_app {α β : Type} {f : α → Option β} : ∀ {a b : List α} {c : List β}, mapM' f (a ++ b) = some c → ∃ a' b', mapM' f a = some a' ∧ mapM' f b = some b' ∧ c = a' ++ b'
  | [], b, c, h => ⟨[], c, rfl, h, rfl⟩
  | x :: a, b, c, h => by
    rw [List.cons_append] at h
    simp only [mapM'] at h
    split at h
    · rename_i y ys h1 h2
      simp at h; subst h
      obtain ⟨a', b', h3, h4, rfl⟩ := mapM'_app h2
      exact ⟨y :: a', b', by simp [mapM', h1, h3], h4, rfl⟩
    · cases h

theorem mapM'_app_of {α β : Type} {f : α → Option β} : ∀ {a b : List α} {a' b' : List β}, mapM' f a = some a' → mapM' f b = some b' → mapM' f (a ++ b) = some (a' ++ b')
  | [], b, a', b', h, h' => by simp [mapM'] at h; subst h; exact h'
  | x :: a, b, a', b', h, h' => by
    simp only [mapM'] at h
    split at h
    · rename_i y ys h1 h2
      simp at h; subst h
      simp [mapM', h1, mapM'_app_of h2 h']
    · cases h

theorem look_mem {R : List (Bool × Nat)} {pl : List (Bool × AItem)} (h : look l R = some pl) : ∀ p ∈ pl, ∃ q ∈ R, q.1 = p.1 ∧ l[q.2]? = some p.2 := by
  induction R generalizing pl with
  | nil => simp [look, mapM'] at h; subst h; intro p hp; cases hp
  | cons q R ih =>
    simp only [look, mapM'] at h
    split at h
    · rename_i y ys h1 h2
      simp at h; subst h
      intro p hp
      simp only [List.mem_cons] at hp
      rcases hp with rfl | hp
      · simp only [Option.map_eq_some_iff] at h1
        obtain ⟨it, h3, rfl⟩ := h1
        exact ⟨q, by simp, rfl, h3⟩
      · obtain ⟨q', h4, h5⟩ := ih h2 p hp
        exact ⟨q', by simp [h4], h5⟩
    · cases h

end

section
variable {C : Cx} {rc : Option Nat} {I0 : Imm} {m0 : Locs} {w0 : World} {ops : Array Oper} {l : List AItem} {an : List (List Nat)} {Q : APost}

theorem any_sound (hl : mapM' (compItem C.P C.ann C.N ops) ops.toList = some l) (han : ancOk l an = true) : ∀ (R : List (Bool × Nat)) (pl : List (Bool × AItem)) (n : Nat), R.length = n → look l R = some pl → Good l an R →
    ∀ (listed : Array Bool), listed.size = ops.size → (∀ i, i < ops.size → (listed[i]? = some true ↔ i ∉ R.map (·.2))) → (∀ i, i < ops.size → i ∉ R.map (·.2) → ∀ x ∈ anc an i, x ∉ R.map (·.2)) →
    ∀ (env : Env) (h : AHeap) (I : Imm) (m : Locs) (a : Act) (w : World), drawWp C pl (upEq Q) env h → Rel C.G C.N (C.ro, rc) w0.heap.size I m env h a w → Trans C.k I0 m0 w0 I m w → C.k ≤ m.length →
    wpAnyIn (fen rc) 0 C.P .any ops (CPost C rc I0 m0 w0 (upEq Q)) n listed a w := by
  intro R
  obtain ⟨hlen, hcomp⟩ := mapM'_some hl
  have hlen' : ops.size = l.length := by simpa using hlen
  have hitem : ∀ i it, l[i]? = some it → ∃ o, ops[i]? = some o ∧ compItem C.P C.ann C.N ops o = some it := fun i it hi => by
    obtain ⟨o, ho⟩ := get_of_lt hlen hi
    exact ⟨o, by rw [← Array.getElem?_toList]; exact ho, hcomp i o it ho hi⟩
  suffices ∀ (n : Nat) (R : List (Bool × Nat)) (pl : List (Bool × AItem)), R.length = n → look l R = some pl → Good l an R →
    ∀ (listed : Array Bool), listed.size = ops.size → (∀ i, i < ops.size → (listed[i]? = some true ↔ i ∉ R.map (·.2))) → (∀ i, i < ops.size → i ∉ R.map (·.2) → ∀ x ∈ anc an i, x ∉ R.map (·.2)) →
    ∀ (env : Env) (h : AHeap) (I : Imm) (m : Locs) (a : Act) (w : World), drawWp C pl (upEq Q) env h → Rel C.G C.N (C.ro, rc) w0.heap.size I m env h a w → Trans C.k I0 m0 w0 I m w → C.k ≤ m.length →
    wpAnyIn (fen rc) 0 C.P .any ops (CPost C rc I0 m0 w0 (upEq Q)) n listed a w by
    intro pl n h1 h2 h3; exact this n R pl h1 h2 h3
  clear R
  -- what a ready item is
  have hready : ∀ (R : List (Bool × Nat)) (listed : Array Bool), listed.size = ops.size → (∀ i, i < ops.size → (listed[i]? = some true ↔ i ∉ R.map (·.2))) →
      ∀ i, i ∈ Region.ready .any ops listed ↔ i < ops.size ∧ i ∈ R.map (·.2) ∧ ∃ it, l[i]? = some it ∧ ∀ x ∈ it.after, x < ops.size ∧ x ∉ R.map (·.2) := by
    intro R listed hsz hls i
    have hb : ∀ x, listed.getD x false = true ↔ x < ops.size ∧ x ∉ R.map (·.2) := by
      intro x
      rw [Array.getD_eq_getD_getElem?]
      by_cases hx : x < ops.size
      · rw [← hls x hx, Array.getElem?_eq_getElem (by omega)]
        simp [hx]
      · rw [Array.getElem?_eq_none (by omega)]
        simp [hx]
    unfold Region.ready
    simp only [List.mem_filter, List.mem_range, Bool.and_eq_true, Bool.not_eq_true']
    constructor
    · rintro ⟨h1, h2, h3⟩
      have hi : i ∈ R.map (·.2) := by
        apply Classical.byContradiction
        intro hn
        have := (hls i h1).2 hn
        rw [Array.getD_eq_getD_getElem?, this] at h2
        cases h2
      refine ⟨h1, hi, ?_⟩
      obtain ⟨it, hit⟩ : ∃ it, l[i]? = some it := ⟨l[i]'(by omega), by simp [show i < l.length by omega]⟩
      obtain ⟨o, ho, hc⟩ := hitem i it hit
      obtain ⟨_, _, _, _, haft⟩ := compItem_some hc
      refine ⟨it, hit, fun x hx => ?_⟩
      rw [haft, List.mem_map] at hx
      obtain ⟨e, he, rfl⟩ := hx
      rw [List.mem_filter] at he
      rw [ho] at h3
      simp only [Option.map_some, Option.getD_some, Array.all_eq_true_iff_forall_mem] at h3
      have := h3 e (by simpa using he.1)
      rw [he.2] at this
      exact (hb e.on).1 (by simpa using this)
    · rintro ⟨h1, h2, it, hit, h3⟩
      obtain ⟨o, ho, hc⟩ := hitem i it hit
      obtain ⟨_, _, _, _, haft⟩ := compItem_some hc
      refine ⟨h1, ?_, ?_⟩
      · rw [Array.getD_eq_getD_getElem?, Array.getElem?_eq_getElem (by omega)]
        have := mt (hls i h1).1 (fun h => h h2)
        rw [Array.getElem?_eq_getElem (by omega)] at this
        simpa using this
      · rw [ho]
        simp only [Option.map_some, Option.getD_some, Array.all_eq_true_iff_forall_mem]
        intro e he
        by_cases hbd : Region.binds .any e = true
        · have := h3 e.on (by rw [haft]; exact List.mem_map_of_mem (List.mem_filter.2 ⟨by simpa using he, hbd⟩))
          simp [(hb e.on).2 this]
        · simp [hbd]
  intro n
  induction n with
  | zero =>
    intro R pl hRl hpl hgood listed hsz hls hcl env h I m a w hw hr ht hk
    have : R = [] := List.eq_nil_of_length_eq_zero hRl
    subst this
    simp [look, mapM'] at hpl; subst hpl
    refine ⟨?_, .normal, env, h, I, m, hw, trivial, hr, ht, hk⟩
    apply List.eq_nil_iff_forall_not_mem.2
    intro i hi
    have := ((hready [] listed hsz hls i).1 hi).2.1
    simp at this
  | succ n ih =>
    intro R pl hRl hpl hgood listed hsz hls hcl env h I m a w hw hr ht hk
    refine ⟨fun hemp => ?_, fun i hi => ?_⟩
    · -- the head of the plan is ready
      exfalso
      cases R with
      | nil => simp at hRl
      | cons q R =>
        obtain ⟨b, i⟩ := q
        obtain ⟨⟨it, h1, h2, h3⟩, h4⟩ := hgood
        have : i ∈ Region.ready .any ops listed := (hready _ listed hsz hls i).2 ⟨by rw [hlen']; exact (List.getElem?_eq_some_iff.1 h1).1, by simp, it, h1, fun x hx => by
          obtain ⟨g1, g2, g3⟩ := h2 x hx
          exact ⟨by omega, by simp only [List.map_cons, List.mem_cons, not_or]; exact ⟨g2, g3⟩⟩⟩
        rw [hemp] at this
        cases this
    · obtain ⟨hi1, hi2, it, hit, haft⟩ := (hready R listed hsz hls i).1 hi
      obtain ⟨o, ho, hc⟩ := hitem i it hit
      rw [List.mem_map] at hi2
      obtain ⟨⟨b, i'⟩, hmem, e⟩ := hi2
      simp only at e; subst e
      obtain ⟨L1, L2, rfl⟩ := List.append_of_mem hmem
      have hnot := hgood.nodup
      -- its forebears are listed
      have hanc : ∀ x ∈ anc an i', x ∉ (L1 ++ (b, i') :: L2).map (·.2) := by
        intro x hx
        obtain ⟨it', hit', j, hj, hjx⟩ := anc_spec han (by omega) hx
        rw [hit] at hit'; cases hit'
        obtain ⟨g1, g2⟩ := haft j hj
        rcases hjx with rfl | hjx
        · exact g2
        · exact hcl j g1 g2 x hjx
      -- it may overtake
      obtain ⟨p1, p2, hp1, hp2, rfl⟩ := mapM'_app hpl
      simp only [mapM', hit, Option.map_some] at hp2
      split at hp2
      · rename_i y p3 hy hp3
        simp only [Option.some.injEq] at hy hp2
        subst hy hp2
        have hov : ∀ p ∈ p1, p.1 = true ∧ p.2.apart it = true := by
          intro p hp
          obtain ⟨q, hq, hq1, hq2⟩ := look_mem (l := l) hp1 p hp
          rcases hgood.front q hq with hin | ⟨h1, xt, jt, h2, h3, h4⟩
          · exact (hanc _ hin (by simp only [List.map_append, List.mem_append]; exact .inl (List.mem_map_of_mem hq))).elim
          · rw [hq2] at h2; cases h2
            rw [hit] at h3; cases h3
            exact ⟨hq1 ▸ h1, h4⟩
        have hw' := drawWp_bubble hov hw
        have hlook : look l (L1 ++ L2) = some (p1 ++ p3) := mapM'_app_of hp1 hp3
        have hrest : Goes C rc I0 m0 w0 (fun env h => drawWp C (p1 ++ p3) (upEq Q) env h) (wpAnyIn (fen rc) 0 C.P .any ops (CPost C rc I0 m0 w0 (upEq Q)) n (listed.setIfInBounds i' true)) := by
          intro env' h' I' m' a' w' hK hr' ht' hk'
          refine ih (L1 ++ L2) (p1 ++ p3) (by simp at hRl ⊢; omega) hlook hgood.drop _ (by simpa using hsz) ?_ ?_ env' h' I' m' a' w' hK hr' ht' hk'
          · intro j hj
            by_cases hji : i' = j
            · subst hji
              rw [Array.getElem?_setIfInBounds_self_of_lt (by omega)]
              simp only [true_iff]
              exact hnot
            · rw [Array.getElem?_setIfInBounds_ne hji, hls j hj]
              simp only [List.map_append, List.map_cons, List.mem_append, List.mem_cons, not_or]
              exact ⟨fun ⟨x1, _, x3⟩ => ⟨x1, x3⟩, fun ⟨x1, x3⟩ => ⟨x1, Ne.symm hji, x3⟩⟩
          · intro j hj hjn x hx hxm
            have hxm' : x ∈ (L1 ++ (b, i') :: L2).map (·.2) := by
              simp only [List.map_append, List.map_cons, List.mem_append, List.mem_cons] at hxm ⊢
              exact hxm.elim .inl (fun h => .inr (.inr h))
            by_cases hji : j = i'
            · subst hji; exact hanc x hx hxm'
            · refine hcl j hj ?_ x hx hxm'
              simp only [List.map_append, List.map_cons, List.mem_append, List.mem_cons, not_or] at hjn ⊢
              exact ⟨hjn.1, hji, hjn.2⟩
        have hitw : itemWp C it env h (fun env h => drawWp C (p1 ++ p3) (upEq Q) env h) (upEq Q) := by
          cases b with
          | true =>
            rw [drawWp] at hw'
            split at hw'
            · rename_i d v hq
              exact quietItem_wp hq hw'
            · exact hw'.elim
          | false =>
            rw [drawWp] at hw'
            refine itemWp_mono (fun e h he => he) (fun v e h he => ?_) hw'
            intro env1; exact he env1 env1
        exact itemWp_sound ho hc hr ht hk hitw hrest
      · cases hp2

end

theorem rel_eq {G : Globs} {N S : Nat} {D : Ro} {I : Imm} {m : Locs} {env env' : Env} {h : AHeap} {a : Act} {w : World} (he : EnvEq env' env) (hr : Rel G N D S I m env h a w) : Rel G N D S I m env' h a w :=
  hr.weaken ⟨fun t v hv => by rw [← he t]; exact hv, he dslot⟩

theorem upEq_post {C : Cx} {rc : Option Nat} {I0 : Imm} {m0 : Locs} {w0 : World} {Q : APost} {e : Exit} {a : Act} {w : World} (h : CPost C rc I0 m0 w0 (upEq Q) e a w) : CPost C rc I0 m0 w0 Q e a w := by
  obtain ⟨x, env, h, I, m, h1, h2, h3, h4, h5⟩ := h
  cases x with
  | pan v => exact ⟨.pan v, env, h, I, m, h1 env, h2, h3, h4, h5⟩
  | _ => obtain ⟨env0, he, hq⟩ := h1; exact ⟨_, env0, h, I, m, hq, h2, rel_eq he h3, h4, h5⟩

theorem AWp.dreg {C : Cx} {pl : List (Bool × AItem)} {Q : APost} {env : Env} {h : AHeap} (hm : C.P.follows .mixedOrders = true) (hw : drawWp C pl Q env h) : AWp C (.dreg pl) Q env h := by
  intro c hc rc I0 m0 w0 I m a w ht hk hr
  cases c with
  | region id ops draw =>
    obtain ⟨l, hl, he⟩ := region_comp hc
    cases draw with
    | false => cases he
    | true =>
      obtain ⟨pl', hpl, e⟩ := he
      cases e
      unfold planOf at hpl
      simp only at hpl
      split at hpl
      · rename_i hc'
        obtain ⟨h1, h2, h3, h4⟩ := hc'
        have hall : ∀ i, i < l.length → i ∈ planIdx l := by simpa using h4
        have hgood := good_of_plan (planIdx l) [] h3 (fun x hx => by cases hx)
        have hmarks : (planMarks l (ancs l []) (planIdx l)).map (·.2) = planIdx l := by
          generalize planIdx l = r
          induction r with
          | nil => rfl
          | cons x r ih => simp [planMarks, ih]
        have hsize : ops.size = l.length := by simpa using (mapM'_some hl).1
        have hlen : (planMarks l (ancs l []) (planIdx l)).length = ops.size := by
          have := congrArg List.length hmarks
          rw [List.length_map] at this
          omega
        refine wpIn_mono (wpIn_region_any hm ?_) fun e a w => upEq_post
        have hi : Inv C.G I m h { w with drawn := w.drawn + 1 } := { len := hr.inv.len, obj := hr.inv.obj, imm := hr.inv.imm, disj := hr.inv.disj, immd := hr.inv.immd, lt := hr.inv.lt, glob := hr.inv.glob }
        have ht' : Trans C.k I0 m0 w0 I m { w with drawn := w.drawn + 1 } := { os := ht.os, tape := ht.tape, output := ht.output, size := ht.size, cell := ht.cell, froz := ht.froz, blk := ht.blk, imm := ht.imm, own := ht.own, immNew := ht.immNew, loc := ht.loc }
        have hr' : Rel C.G C.N (C.ro, rc) w0.heap.size I m env h a { w with drawn := w.drawn + 1 } := ⟨hi, ⟨hr.env.get, hr.env.apart⟩, hr.size, hr.defers, hr.ro⟩
        refine any_sound (an := ancs l []) hl h2 _ pl ops.size hlen hpl hgood _ (by simp) ?_ ?_ env h I m a _ (drawWp_up hw) hr' ht' hk
        · intro i hi
          rw [hmarks]
          simp [hi, hall i (by omega)]
        · intro i hi hn
          rw [hmarks] at hn
          exact (hn (hall i (by omega))).elim
      · cases hpl
  | _ => simp only [compCode] at hc <;> first | (simp at hc; done) | ((repeat' split at hc) <;> simp at hc; done)

end Go.Apx
