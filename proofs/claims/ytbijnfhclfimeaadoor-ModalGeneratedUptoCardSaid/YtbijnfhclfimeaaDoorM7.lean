/- Walks: follows: one round. -/
import Derived.Test.YtbijnfhclfimeaaDoorM6
namespace Go.Apx
open Go.Proofs
set_option linter.unusedVariables false
set_option linter.unusedSimpArgs false
set_option linter.unnecessarySimpa false
set_option maxRecDepth 4000

def failsF (S : List U) (m : Means) (V : Model) (t : Tr) : Bool := !decide (holdsF S m V t = full S.length)
theorem fails_c (S : List U) (c : Cap) (m : Means) (V : Model) (om ov : Nat) (t : Tr) {h : AHeap} (hS : S.length < 2 ^ 40) (hm : okM m) (hn : t.nodes ≤ 2 ^ 31) (hf : formed m t = true)
    (ho : h[om]? = some (.amap (smap iv m))) (hv : h[ov]? = some (.amap (smap uv V))) :
    AEx PP Gl 57 [encT t, .ip (plc S c om ov), .ip (.agg [.sl 1 (S.map u64) c])] h (.ret (bool (failsF S m V t))) h := by
  refine enter_modal_follows_1 (by simp) ?_
  simp [code_modal_follows_1, res_modal_follows_1, ann_modal_follows_1, encT_eq t, plc]
  refine callk (holds_c S c m V om ov t hS hm hn hf ho hv) (by simp [encT_eq t, plc]) rfl ?_
  simp
  refine callk worlds_c rfl rfl ?_
  simp
  exact retE (by simp [deferred, dslot]) rfl (by simp [failsF]) rfl

/-- A model with another laid over it. -/
def upd (V l : Model) : Model := l.foldl (fun V p => sset V p.1 p.2) V
theorem upd_get (V : Model) {l : Model} {i : Nat} {p : ByteArray × U} (h : l[i]? = some p) : upd V (l.take (i + 1)) = sset (upd V (l.take i)) p.1 p.2 := by
  rw [take_succ_of h]; simp [upd]

def badF (S : List U) (m : Means) (prem : List Tr) (concl : Tr) (V : Model) : Bool := !(prem.any (failsF S m V)) && failsF S m V concl

/-- The objects of a search for a countermodel. -/
def fH (h : AHeap) (ok : Bool) (mv : AV) (w e : Int) (np : Nat) (V : Model) (E : Env) (X : LoopX) (st : LoopState) (pd : Option Code) : AHeap :=
  h ++ [.cells 0 [.sc (.bool ok)], .cells 0 [mv], .cells 0 [.sc (.int .i64 w)], .cells 0 [.sc (.int .i64 e)], .tok (np + 1), .amap (smap uv V), .queue, .loop E X st pd]

theorem fRound (S : List U) (c : Cap) (m : Means) (om : Nat) (prem : List Tr) (cp : Cap) (concl : Tr) (l : Model) (t : Nat) (V : Model) (E : Env) (X : LoopX) (np : Nat) (Y : AHeap) {h : AHeap} (hS : S.length < 2 ^ 40) (hm : okM m) (hl : l.length ≤ 2 ^ 31)
    (hp : prem.length < 2 ^ 31) (hn : ∀ p ∈ prem, p.nodes ≤ 2 ^ 31 ∧ formed m p = true) (hn' : concl.nodes ≤ 2 ^ 31 ∧ formed m concl = true) (ho : h[om]? = some (.amap (smap iv m)))
    (hX : XOk ⟨PP, Gl, 71, ann_modal_follows, 0, none⟩ [40] ra0_modal_follows rb0_modal_follows X)
    (e4 : E.get 4 = some (.ip (.agg [.sl 1 (S.map u64) c]))) (e6 : E.get 6 = some (.ip (.sl 2 (prem.map encT) cp))) (e7 : E.get 7 = some (.ip (encT concl))) (e8 : E.get 8 = some (.ptr h.length 0 0)) (e9 : E.get 9 = some (.ptr (h.length + 1) 0 0))
    (e10 : E.get 10 = some (.ptr (h.length + 2) 0 0)) (e11 : E.get 11 = some (.ptr (h.length + 3) 0 0)) (e13 : E.get 13 = some (.ip (plc S c om (h.length + 5)))) (e14 : E.get 14 = some (.ip (.fn (.func 57) [] [.ip (plc S c om (h.length + 5)), .ip (.agg [.sl 1 (S.map u64) c])]))) (ed : E.get dslot = none) :
    AYields PP Gl (h.length + 7) [apd 2 (l.map encM) t] (fH h false (.sl 0 [] .nil) 0 0 np V E X .ready none ++ Y) (fun r h' => ∃ X', if badF S m prem concl (upd V l) = true
      then r = .ret (bool false) ∧ h' = fH h false (apd 2 (l.map encM) t) (tzF (full S.length &&& ~~~ (holdsF S m (upd V l) concl))) 0 np (upd V l) E X .done (some .ret) ++ X'
      else r = .ret (bool true) ∧ h' = fH h false (.sl 0 [] .nil) 0 0 np (upd V l) E X .ready none ++ X') := by
  have hom : om < h.length := (List.getElem?_eq_some_iff.1 ho).1
  have ho1 : ∀ x, (h ++ x)[om]? = some (.amap (smap iv m)) := fun x => by rw [List.getElem?_append_left hom, ho]
  refine ayields_of_code (C := ⟨PP, Gl, 71, ann_modal_follows, (fH h false (.sl 0 [] .nil) 0 0 np V E X .ready none ++ Y).length, some (h.length + 7)⟩) (env := E) (X := X) (st := .ready) (pd := none) (ps := [40]) (by simp [fH]) hX rfl ed rfl rfl (codeWp_sound mixed ?_)
  simp [ra0_modal_follows, beginP, fH]
  refine codeWp_sound mixed ?_
  simp [rb0_modal_follows, apd, e4, e6, e7, e8, e9, e10, e11, e13, e14]
  refine AWp.cnt l.length [4, 6, 7, 8, 9, 10, 11, 13, 14, 15, 41, 42] (fun j => [(43, i64 j)]) (fun j => h ++ ([.cells 0 [.sc (.bool false)], .cells 0 [.sl 0 [] .nil], .cells 0 [.sc (.int .i64 0)], .cells 0 [.sc (.int .i64 0)], .tok (np + 1), .amap (smap uv (upd V (l.take j))), .queue, .loop E X .busy none] ++ Y))
    (fun _ => True) mixed trivial (le_of (by simp [dslot, e4, e6, e7, e8, e9, e10, e11, e13, e14]; exact ed.symm)) (by simp [upd]) ?_ ?_
  · intro j hj _
    obtain ⟨p, hpj⟩ : ∃ p, l[j]? = some p := ⟨l[j], by simp [hj]⟩
    have hlt : (j : Int) < l.length := by omega
    have hne : l ≠ [] := by intro e; rw [e] at hj; simp at hj
    simp [lp0_modal_follows, e4, e6, e7, e8, e9, e10, e11, e13, e14, hlt, hpj, hne, encM, plc]
    rw [IntWalk.i64_in ((j : Int) + 1) (by omega)]
    exact ⟨le_of (by simp [dslot, e4, e6, e7, e8, e9, e10, e11, e13, e14, plc]), by simp [upd_get _ hpj]⟩
  · intro _
    simp [lp0_modal_follows, e4, e6, e7, e8, e9, e10, e11, e13, e14]
    refine callk (containsFuncT_c prem cp 57 [] [.ip (plc S c om (h.length + 5)), .ip (.agg [.sl 1 (S.map u64) c])] (failsF S m (upd V l)) (by omega) (fun e he => by
      simpa using fails_c S c m (upd V l) om (h.length + 5) e hS hm (hn e he).1 (hn e he).2 (ho1 _) (by simp))) (by simp) rfl ?_
    generalize hb1 : prem.any (failsF S m (upd V l)) = b1
    cases b1 with
    | true =>
      have hb : ¬ (badF S m prem concl (upd V l) = true) := by simp [badF, hb1]
      simp [e4, e6, e7, e8, e9, e10, e11, e13, e14, roundP]
      simpa using hb
    | false =>
      simp [e4, e6, e7, e8, e9, e10, e11, e13, e14, encT_eq concl]
      refine callk (fails_c S c m (upd V l) om (h.length + 5) concl hS hm hn'.1 hn'.2 (ho1 _) (by simp)) (by simp [encT_eq concl]) rfl ?_
      generalize hb2 : failsF S m (upd V l) concl = b2
      cases b2 with
      | false =>
        have hb : ¬ (badF S m prem concl (upd V l) = true) := by simp [badF, hb1, hb2]
        simp [e4, e6, e7, e8, e9, e10, e11, e13, e14, roundP]
        simpa using hb
      | true =>
        have hb : badF S m prem concl (upd V l) = true := by simp [badF, hb1, hb2]
        simp [e4, e6, e7, e8, e9, e10, e11, e13, e14, plc]
        refine callk worlds_c rfl rfl ?_
        simp
        refine callk (holds_c S c m (upd V l) om (h.length + 5) concl hS hm hn'.1 hn'.2 (ho1 _) (by simp)) (by simp [encT_eq concl, plc]) rfl ?_
        simp
        refine callk (tz_c _) rfl rfl ?_
        simp [roundP]
        simpa using hb
end Go.Apx
