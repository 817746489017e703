/- Walks: Clone, ContainsFunc, TrailingZeros, models. -/
import Derived.Test.YtbijnfhclfimeaaDoorM4
namespace Go.Apx
open Go.Proofs
set_option linter.unusedVariables false
set_option linter.unusedSimpArgs false
set_option linter.unnecessarySimpa false
set_option maxRecDepth 4000

/-- What Clone hands back: its room is new. -/
def cloneV (k : Nat) (es : List AV) (c : Cap) (t : Nat) : AV := if c = .nil then .sl 0 [] .nil else match es with | [] => .sl k [] .full | _ => .sl k es (.tok t)
theorem clone_c (es : List AV) (c : Cap) {h : AHeap} (hc : c = .nil → es = []) (hl : es.length ≤ maxLenA) : AEx PP Gl 33 [.sl 2 es c] h (.ret (cloneV 2 es c h.length)) (h ++ apdH es.length) := by
  refine enter_slices_Clone_api_Tree_api_Tree (by simp) ?_
  by_cases h0 : c = .nil
  · have he := hc h0
    subst h0 he
    simp [code_slices_Clone_api_Tree_api_Tree, res_slices_Clone_api_Tree_api_Tree, ann_slices_Clone_api_Tree_api_Tree]
    exact retE (by simp [deferred, dslot]) rfl (by simp [cloneV]) (by simp)
  · have h1 : (c == Cap.nil) = false := by simpa using h0
    cases es with
    | nil =>
      simp [code_slices_Clone_api_Tree_api_Tree, res_slices_Clone_api_Tree_api_Tree, ann_slices_Clone_api_Tree_api_Tree, h1, appW, h0]
      exact retE (by simp [deferred, dslot]) rfl (by simp [cloneV, h0]) (by simp)
    | cons x es =>
      simp at hl
      simp [code_slices_Clone_api_Tree_api_Tree, res_slices_Clone_api_Tree_api_Tree, ann_slices_Clone_api_Tree_api_Tree, h1, appW, h0, hl]
      exact retE (by simp [deferred, dslot]) rfl (by simp [cloneV, h0]) (by simp)

@[simp] theorem isPend_cloneV (k : Nat) (es : List AV) (c : Cap) (t : Nat) : (cloneV k es c t).isPend = false := by unfold cloneV; split <;> (try split) <;> rfl
@[simp] theorem cells_cloneV (k : Nat) (es : List AV) (c : Cap) (t : Nat) : (cloneV k es c t).cells = [cloneV k es c t] := by unfold cloneV; split <;> (try split) <;> rfl
@[simp] theorem one_cloneV (k : Nat) (es : List AV) (c : Cap) (t : Nat) : (cloneV k es c t).one = true := by unfold cloneV; split <;> (try split) <;> rfl
/-- An append to a clone. -/
theorem appc {C : Cx} {k b : Nat} {x y : Opd} {d : Option Nat} {env : Env} {H : AHeap} {K : Env → AHeap → Prop} (es : List AV) (v : AV) (c : Cap) (h : AHeap) (hx : evalOpd C.G env x = some (cloneV k es c h.length)) (hy : (evalOpd C.G env y).bind (elems H k) = some [v])
    (hH : H = h ++ apdH es.length) (hc : c = .nil → es = []) (hm : es.length + 1 ≤ maxLenA) (hK : K (putD env d (.sl k (es ++ [v]) (.tok h.length))) (h ++ [.tok (es.length + 1)])) : appW C k b x y d env H K := by
  subst hH
  unfold appW
  have he : evalOp C.G env (h ++ apdH es.length) (.append k b x y) = some (.sl k (es ++ [v]) (.tok h.length), h ++ [.tok (es.length + 1)]) := by
    simp only [evalOp, hx, hy]
    by_cases h0 : c = .nil
    · have he := hc h0
      subst h0 he
      simp [cloneV, len_tok]
    · cases es with
      | nil => simp [cloneV, h0, len_tok]
      | cons a es =>
        have : es.length + 1 + 1 ≤ maxLenA := hm
        simp [cloneV, h0, this]
  rw [he]
  exact hK

theorem indexFuncT_c (l : List Tr) (c : Cap) (fid : FuncId) (a b : List AV) (p : Tr → Bool) {h : AHeap} (hl : l.length < 2 ^ 40) (hp : ∀ e ∈ l, ACalls PP Gl fid (a ++ [encT e] ++ b) h (fun r h' => r = .ret (bool (p e)) ∧ h' = h)) :
    AEx PP Gl 71 [.sl 2 (l.map encT) c, .fn (.func fid) a b] h (.ret (i64 (idx (l.findIdx? p)))) h := by
  refine enter_slices_IndexFunc_api_Tree_api_Tree (by simp) ?_
  simp [code_slices_IndexFunc_api_Tree_api_Tree, res_slices_IndexFunc_api_Tree_api_Tree, ann_slices_IndexFunc_api_Tree_api_Tree]
  refine AWp.cnt l.length [0, 1, 7] (fun i => [(8, i64 i)]) (fun _ => h) (fun i => ∀ j, j < i → ∀ e, l[j]? = some e → p e = false) mixed (by simp) (le_of (by simp [dslot])) rfl ?_ ?_
  · intro i hi hj
    obtain ⟨e, hie⟩ : ∃ e, l[i]? = some e := ⟨l[i], by simp [hi]⟩
    have hlt' : (i : Int) < l.length := by omega
    simp [lp0_slices_IndexFunc_api_Tree_api_Tree, hlt', hie, encT_eq e]
    refine callk (hp e (List.mem_of_getElem? hie)) (by simp [encT_eq e]) rfl ?_
    simp
    rw [IntWalk.i64_in ((i : Int) + 1) (by omega)]
    refine ⟨fun hpe => ?_, fun hpe => ?_⟩
    rotate_left
    · refine ⟨fun j hj' e' he' => ?_, le_of (by simp [dslot])⟩
      by_cases hji : j = i
      · subst hji; rw [hie] at he'; cases he'; exact hpe
      · exact hj j (by omega) e' he'
    · refine retE (by simp [deferred, dslot]) rfl ?_ rfl
      have : l.findIdx? p = some i := by
        rw [List.findIdx?_eq_some_iff_getElem]
        have hi' : l[i] = e := (List.getElem?_eq_some_iff.1 hie).2
        refine ⟨hi, by rw [hi']; exact hpe, fun j hji => ?_⟩
        rw [hj j hji l[j] (by simp)]; simp
      simp [this, idx]
  · intro hz
    simp [lp0_slices_IndexFunc_api_Tree_api_Tree]
    refine retE (by simp [deferred, dslot]) rfl ?_ rfl
    have : l.findIdx? p = none := by
      rw [List.findIdx?_eq_none_iff]
      intro e he
      obtain ⟨j, hj⟩ := List.getElem?_of_mem he
      exact hz j (List.getElem?_eq_some_iff.1 hj).1 e hj
    simp [this, idx]

theorem containsFuncT_c (l : List Tr) (c : Cap) (fid : FuncId) (a b : List AV) (p : Tr → Bool) {h : AHeap} (hl : l.length < 2 ^ 40) (hp : ∀ e ∈ l, ACalls PP Gl fid (a ++ [encT e] ++ b) h (fun r h' => r = .ret (bool (p e)) ∧ h' = h)) :
    AEx PP Gl 59 [.sl 2 (l.map encT) c, .fn (.func fid) a b] h (.ret (bool (l.any p))) h := by
  refine enter_slices_ContainsFunc_api_Tree_api_Tree (by simp) ?_
  simp [code_slices_ContainsFunc_api_Tree_api_Tree, res_slices_ContainsFunc_api_Tree_api_Tree, ann_slices_ContainsFunc_api_Tree_api_Tree]
  refine callk (indexFuncT_c l c fid a b p hl hp) rfl rfl ?_
  simp
  refine retE (by simp [deferred, dslot]) rfl ?_ rfl
  have : l.any p = (l.findIdx? p).isSome := by simp [List.findIdx?_isSome]
  rw [this]
  cases l.findIdx? p <;> simp [idx]

/-- The number of zeros at a word's end, by the table. -/
noncomputable def tzF (x : U) : Int := if x = 0#64 then 64 else ((tab64[nv (mulU (x &&& -x) c64_285870213051353865 >>> 58)]?).getD 0 : Nat)
theorem shr58_lt (x : U) : nv (x >>> 58) < 64 := by
  unfold nv
  rw [BitVec.toNat_ushiftRight, Nat.shiftRight_eq_div_pow]
  have := x.isLt
  omega
theorem tab64_get (x : U) : ∃ v : Nat, tab64[nv (x >>> 58)]? = some v ∧ v < 64 := by
  have h1 := shr58_lt x
  generalize nv (x >>> 58) = n at h1
  have h2 : ∀ n, n < 64 → (match tab64[n]? with | some v => decide (v < 64) | none => false) = true := by decide
  have h3 := h2 n h1
  cases hv : tab64[n]? with
  | none => rw [hv] at h3; cases h3
  | some v => rw [hv] at h3; exact ⟨v, rfl, by simpa using h3⟩
theorem tz64_c (x : U) {h : AHeap} : AEx PP Gl 73 [u64 x] h (.ret (i64 (tzF x))) h := by
  refine enter_math_bits_TrailingZeros64 (by simp) ?_
  simp -implicitDefEqProofs [code_math_bits_TrailingZeros64, res_math_bits_TrailingZeros64, ann_math_bits_TrailingZeros64]
  refine ⟨fun hx => ?_, fun hx => ?_⟩
  · exact retE (by simp [deferred, dslot]) rfl (by simp [tzF, hx]) rfl
  have hlt := shr58_lt (mulU (x &&& -x) c64_285870213051353865)
  obtain ⟨v, hv, hv64⟩ := tab64_get (mulU (x &&& -x) c64_285870213051353865)
  simp -implicitDefEqProofs [Gl, u8s, hlt, hv]
  rw [IntWalk.i64_in (v : Int) (by omega)]
  exact retE (by simp [deferred, dslot]) rfl (by simp [tzF, hx, hv]) rfl
theorem tz_c (x : U) {h : AHeap} : AEx PP Gl 60 [u64 x] h (.ret (i64 (tzF x))) h := by
  refine enter_math_bits_TrailingZeros (by simp) ?_
  simp [code_math_bits_TrailingZeros, res_math_bits_TrailingZeros, ann_math_bits_TrailingZeros]
  refine callk (tz64_c x) rfl rfl ?_
  simp
  exact retE (by simp [deferred, dslot]) rfl rfl rfl

/-! ## models -/
abbrev Model := List (ByteArray × U)
def encM (p : ByteArray × U) : AV := .agg [.sc (.string p.1), .sc (v64 p.2)]
/-- The x-th model of variables, from the j-th variable on. -/
def modFrom (n x : Nat) : List ByteArray → Nat → Model
  | [], _ => []
  | v :: r, j => (v, (BitVec.ofNat 64 x >>> (n * j)) &&& full n) :: modFrom n x r (j + 1)
def modF (n x : Nat) (vars : List ByteArray) : Model := modFrom n x vars 0
theorem modFrom_append (n x : Nat) (a b : List ByteArray) (j : Nat) : modFrom n x (a ++ b) j = modFrom n x a j ++ modFrom n x b (j + a.length) := by
  induction a generalizing j with
  | nil => rfl
  | cons v a ih => simp only [List.cons_append, modFrom, ih, List.length_cons]; congr 3; omega
theorem modF_get (n x : Nat) {l : List ByteArray} {i : Nat} {v : ByteArray} (h : l[i]? = some v) : modF n x (l.take (i + 1)) = modF n x (l.take i) ++ [(v, (BitVec.ofNat 64 x >>> (n * i)) &&& full n)] := by
  have hi := (List.getElem?_eq_some_iff.1 h).1
  rw [take_succ_of h, modF, modFrom_append]
  simp [modFrom, modF, Nat.min_eq_left (Nat.le_of_lt hi)]
theorem modFrom_len (n x : Nat) (l : List ByteArray) (j : Nat) : (modFrom n x l j).length = l.length := by
  induction l generalizing j with
  | nil => rfl
  | cons v l ih => simp [modFrom, ih]

theorem models_c (es : List AV) (c : Cap) (vs : List AV) {h : AHeap} : AEx PP Gl 58 [.agg [.sl 1 es c], grown 1 vs] h (.ret (.fn (.func 70) [] [.ip (.agg [.sl 1 es c]), .ip (grown 1 vs)])) h := by
  refine enter_modal_models (by simp) ?_
  simp [code_modal_models, res_modal_models, ann_modal_models]
  exact retE (by simp [deferred, dslot]) rfl rfl rfl
end Go.Apx
