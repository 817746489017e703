/- ABSTRACT MACHINE, part 24: rules for walks: loops by their live slots, calls by exact contracts. -/
import Derived.Test.YtbijnfhclfimeaaDoorAm23
namespace Go.Apx
set_option linter.unusedVariables false
set_option linter.unusedSimpArgs false

/-- The slots of a list, as they stand. -/
def Env.pick (e : Env) : List Nat → Env
  | [] => []
  | k :: r => match e.get k with
    | some v => (k, v) :: Env.pick e r
    | none => Env.pick e r
attribute [simp] Env.pick

/-- A loop that goes through 0, 1, .. n: slots 'ks' stay, slots 'V i' are known at the i-th head, the heap is 'H i', and 'Z i' holds. -/
theorem AWp.cnt {C : Cx} {x : ACode} {Q : APost} {env : Env} {h : AHeap} (n : Nat) (ks : List Nat) (V : Nat → Env) (H : Nat → AHeap) (Z : Nat → Prop) (hm : C.P.follows .mixedOrders = true)
    (z0 : Z 0) (h0 : EnvLe (V 0 ++ env.pick ks) env) (hH : h = H 0)
    (round : ∀ i, i < n → Z i → codeWp C x (thenP (fun env' h' => Z (i + 1) ∧ EnvLe (V (i + 1) ++ env.pick ks) env' ∧ h' = H (i + 1)) Q) (V i ++ env.pick ks) (H i))
    (last : Z n → codeWp C x (thenP (fun _ _ => False) Q) (V n ++ env.pick ks) (H n)) : AWp C (.loop x) Q env h :=
  AWp.scan n (fun i => V i ++ env.pick ks) H Z hm z0 h0 hH round last

/-- Slots that are not needed any more. -/
theorem AWp.keep {C : Cx} {x : ACode} {Q : APost} {env : Env} {h : AHeap} (ks : List Nat) (hle : EnvLe (env.pick ks) env) (hw : AWp C x Q (env.pick ks) h) : AWp C x Q env h := hw.weaken hle
theorem iterk {P : Program} {G : Globs} {f : FuncId} {args args' : List AV} {h h' : AHeap} {K K' : AEnd → AHeap → Prop} (hw : ∃ R, ACalls P G f args' h' R ∧ ∀ r h', R r h' → K' r h') (ha : args = args') (hh : h = h') (hk : ∀ r h', K' r h' → K r h') :
    ∃ R, ACalls P G f args h R ∧ ∀ r h', R r h' → K r h' := by
  subst ha hh
  obtain ⟨R, h1, h2⟩ := hw
  exact ⟨R, h1, fun r h' hr => hk r h' (h2 r h' hr)⟩

/-- A loop with a measure: its heads are known by a state s. -/
theorem AWp.till {C : Cx} {x : ACode} {Q : APost} {env : Env} {h : AHeap} {S : Type} (s0 : S) (m : S → Nat) (ks : List Nat) (V : S → Env) (H : S → AHeap) (Z : S → Prop) (hm : C.P.follows .mixedOrders = true)
    (z0 : Z s0) (h0 : EnvLe (V s0 ++ env.pick ks) env) (hH : h = H s0)
    (round : ∀ s, Z s → codeWp C x (thenP (fun env' h' => ∃ s', m s' < m s ∧ Z s' ∧ EnvLe (V s' ++ env.pick ks) env' ∧ h' = H s') Q) (V s ++ env.pick ks) (H s)) : AWp C (.loop x) Q env h := by
  refine .loop (fun k env' h' => ∃ s, k = m s ∧ Z s ∧ EnvLe (V s ++ env.pick ks) env' ∧ h' = H s) (n0 := m s0) ⟨s0, rfl, z0, h0, hH⟩ ?_
  rintro k env' h' ⟨s, rfl, hz, he, rfl⟩
  refine AWp.weaken ?_ he
  refine (codeWp_sound hm (round s hz)).mono fun e env' h' hp => ?_
  cases e with
  | normal => obtain ⟨s', h1, h2, h3, h4⟩ := hp; exact ⟨m s', h1, s', rfl, h2, h3, h4⟩
  | _ => exact hp

/-- A call by an exact contract. -/
theorem callk {C : Cx} {f : FuncId} {args args' : List AV} {h h1 h0 : AHeap} {r0 : AEnd} {dst : Option Nat} {env : Env} {K : Env → AHeap → Prop} {Q : APost} (hc : ACalls C.P C.G f args' h1 (fun r h' => r = r0 ∧ h' = h0)) (ha : args = args') (hh : h = h1)
    (hk : goOn dst env K Q r0 h0) : callW C f args dst env h K Q := by
  subst ha hh
  exact ⟨_, hc, fun r h' ⟨e, e'⟩ => by subst e e'; exact hk⟩
/-- A call by any contract. -/
theorem callr {C : Cx} {f : FuncId} {args args' : List AV} {h h1 : AHeap} {R : AEnd → AHeap → Prop} {dst : Option Nat} {env : Env} {K : Env → AHeap → Prop} {Q : APost} (hc : ACalls C.P C.G f args' h1 R) (ha : args = args') (hh : h = h1)
    (hk : ∀ r h', R r h' → goOn dst env K Q r h') : callW C f args dst env h K Q := by
  subst ha hh
  exact ⟨R, hc, hk⟩
theorem yieldk {C : Cx} {o : Nat} {args : List AV} {h : AHeap} {R : AEnd → AHeap → Prop} {dst : Option Nat} {env : Env} {K : Env → AHeap → Prop} {Q : APost} (hc : AYields C.P C.G o args h R)
    (hk : ∀ r h', R r h' → goOn dst env K Q r h') : yieldW C o args dst env h K Q := ⟨R, hc, hk⟩

/-- Exact contract: result r0, heap h0. -/
abbrev AEx (P : Program) (G : Globs) (f : FuncId) (args : List AV) (h : AHeap) (r0 : AEnd) (h0 : AHeap) : Prop := ACalls P G f args h (fun r h' => r = r0 ∧ h' = h0)

theorem le_of {e e' : Env} (h : leOk e e' ∧ e.get dslot = e'.get dslot) : EnvLe e e' := EnvLe.of h.1 h.2

/-- The end of a function without deferred calls: its result is v. -/
theorem retE {P : Program} {G : Globs} {hh0 : AHeap} {rs : List ResA} {env : Env} {h h0 : AHeap} {v : AV} {r0 : AEnd} (hd : deferred env = some []) (hv : evalRes G env h rs = some v) (hr : AEnd.ret v = r0) (hh : h = h0) :
    retPost P G hh0 rs (fun r h' => r = r0 ∧ h' = h0) .ret env h := ret1 hd hv ⟨hr, hh⟩

theorem strip_of_caps {v : AV} : v.strip.one = v.one := strip_one v
end Go.Apx
