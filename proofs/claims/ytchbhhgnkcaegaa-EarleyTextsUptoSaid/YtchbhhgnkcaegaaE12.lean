/- Walks: the speller; Text and Sort. -/
import Derived.Test.YtchbhhgnkcaegaaE11
namespace Go.Apx
open Go.Proofs
set_option linter.unusedVariables false
set_option linter.unusedSimpArgs false
set_option linter.unnecessarySimpa false
set_option maxRecDepth 4000

/-! ## what a checked grammar is -/
theorem once_arg {l : List Pt} (h : onceF l = true) : ∀ p ∈ l, p.sort ≠ ⟨#[]⟩ → 0 ≤ p.arg ∧ p.arg < argsF l := by
  intro p hp hs
  have h1 := placed_once l
  rw [h, placed_iff] at h1
  have hperm := sortF_perm (argL l)
  rw [h1, sortF_length, argL_length] at hperm
  have hm : p.arg ∈ argL l := List.mem_map.2 ⟨p, List.mem_filter.2 ⟨hp, by simpa using hs⟩, rfl⟩
  have := hperm.symm.subset hm
  simp only [rangeI, List.mem_map, List.mem_range] at this
  obtain ⟨a, h2, h3⟩ := this
  omega
theorem check_ok {g : Gr} (h : checkF g = 0) : g.rules.length ≤ 600 ∧ (∀ r ∈ g.rules, r.parts.length ≤ 200) ∧ ∀ i r, g.rules[i]? = some r → ruleOkF g r i = true := by
  unfold checkF at h
  split at h
  · omega
  · rename_i c1
    split at h
    · omega
    · rename_i c2
      split at h
      · split at h
        · rename_i c4
          refine ⟨by omega, fun r hr => ?_, allIdx_iff.1 c4⟩
          have : g.rules.any longF = false := by simpa using c2
          rw [List.any_eq_false] at this
          have := this r hr
          simp [longF] at this; omega
        · omega
      · omega
theorem check_args {g : Gr} (h : checkF g = 0) : ArgOk g := by
  intro r hr
  obtain ⟨i, hi⟩ := List.getElem?_of_mem hr
  have := (check_ok h).2.2 i r hi
  simp only [ruleOkF, rruleF, Bool.and_eq_true] at this
  exact once_arg this.1.1.2
theorem check_fresh {g : Gr} (h : checkF g = 0) {i : Nat} {r : Rl} (hi : g.rules[i]? = some r) : sfind (numF (g.rules.take i) 0) r.label = none := by
  have := (check_ok h).2.2 i r hi
  simp only [ruleOkF, Bool.and_eq_true, decide_eq_true_eq] at this
  have h2 : placeF (fun x => decide (x.label = r.label)) g.rules = (i : Int) := this.2
  rw [place_first hi (by simp)] at h2
  rw [numF_find, List.findIdx?_eq_none_iff.2 (fun x hx => h2 x hx)]
  rfl

def errF (g : Gr) (t : Tr) : Int := if checkF g ≠ 0 then checkF g else if (szF t 1).1 > 4000 then 4 else if (szF t 1).2 > 100 then 9 else if formedF g t = true then 0 else 2
theorem errF_zero {g : Gr} {t : Tr} (h : errF g t = 0) : checkF g = 0 ∧ formedF g t = true := by
  unfold errF at h
  split at h
  · rename_i h1; exact (h1 h).elim
  · rename_i h1
    split at h
    · omega
    · split at h
      · omega
      · split at h
        · rename_i hf; exact ⟨by omega, hf⟩
        · omega
def spH (g : Gr) (h : AHeap) : AHeap := h ++ [.amap (smap iv (numF g.rules 0)), .cells 0 [.sl 1 (g.sorts.map sv) g.sc, .sl 4 (g.rules.map encR) g.rc, .mp h.length]]
theorem spH_ok (g : Gr) (h : AHeap) : SpOk g (h.length + 1) h.length (spH g h) := by
  constructor <;> simp [spH]

/-- What a grammar and a tree must be for the walks. -/
structure InOk (g : Gr) (t : Tr) : Prop where
  parts : g.sorts.length ≤ 32 → g.rules.length ≤ 600 → ∀ r ∈ g.rules, longF r = false → r.parts.length ≤ 12
  sorts : g.sorts.length ≤ 2 ^ 31
  rules : g.rules.length ≤ 2 ^ 31
  plain : ∀ r ∈ g.rules, r.plain
  nodes : t.nodes ≤ 2 ^ 20

theorem new_c (g : Gr) (t : Tr) (hi : InOk g t) {h : AHeap} : AEx PP Gl 16 [encG g, encT t] h
    (.ret (if errF g t = 0 then .tup [.ptr (h.length + 1) 0 0, i64 0] else .tup [.sc (.pointer none), i64 (errF g t)])) (if errF g t = 0 then spH g h else h) := by
  have hnod := hi.nodes
  have hru := hi.rules
  refine enter_earley_newSpeller (by simp) ?_
  simp -implicitDefEqProofs [code_earley_newSpeller, res_earley_newSpeller, ann_earley_newSpeller, encG, encT_eq t]
  refine callk (check_c g hi.parts hi.sorts hi.rules) (by simp [encG]) rfl ?_
  simp -implicitDefEqProofs
  refine ⟨fun hc => ?_, fun hc => ?_⟩
  rotate_left
  · have he : errF g t = checkF g := by unfold errF; rw [if_pos hc]
    refine retE (by simp [deferred, dslot]) rfl ?_ ?_
    · rw [he, if_neg hc]
    · rw [he, if_neg hc]
  refine callk (size_c t 1 (by omega) (by omega) (by omega)) (by simp [encT_eq t]) rfl ?_
  simp -implicitDefEqProofs
  refine ⟨fun hb => ?_, fun hb => ?_⟩
  · have he : errF g t = 4 := by unfold errF; rw [if_neg (by omega), if_pos (by omega)]
    refine retE (by simp [deferred, dslot]) rfl ?_ ?_
    · rw [he]; rfl
    · rw [he]; rfl
  refine ⟨fun hd => ?_, fun hd => ?_⟩
  · have he : errF g t = 9 := by unfold errF; rw [if_neg (by omega), if_neg (by omega), if_pos (by omega)]
    refine retE (by simp [deferred, dslot]) rfl ?_ ?_
    · rw [he]; rfl
    · rw [he]; rfl
  have hfr := fun {i : Nat} {r : Rl} => @check_fresh g hc i r
  refine AWp.cnt g.rules.length [3, 9, 31, 32] (fun i => [(33, i64 i)]) (fun i => h ++ [.amap (smap iv (numF (g.rules.take i) 0)), .cells 0 [.sl 1 (g.sorts.map sv) g.sc, .sl 4 (g.rules.map encR) g.rc, .mp h.length]]) (fun _ => True) mixed trivial (le_of (by simp [dslot])) (by simp [numF, smap]) ?_ ?_
  · intro i hil _
    obtain ⟨k, hki⟩ : ∃ k, g.rules[i]? = some k := ⟨g.rules[i], by simp [hil]⟩
    have hlt : (i : Int) < g.rules.length := by omega
    have hne : g.rules ≠ [] := by intro e; rw [e] at hil; simp at hil
    have hset : sset (numF (g.rules.take i) 0) k.label (i : Int) = numF (g.rules.take (i + 1)) 0 := by
      rw [sset_none _ _ _ (hfr hki), List.take_add_one, hki, numF_append]
      simp [numF, Nat.min_eq_left (Nat.le_of_lt hil)]
    simp -implicitDefEqProofs [lp0_earley_newSpeller, hlt, hki, encR, hset]
    rw [IntWalk.i64_in ((i : Int) + 1) (by omega)]
    exact le_of (by simp [dslot])
  · intro _
    simp -implicitDefEqProofs [lp0_earley_newSpeller]
    have hsp := spH_ok g h
    unfold spH at hsp
    have hck := check_ok hc
    refine callk (formed_c g (h.length + 1) h.length t hsp hi.plain (check_args hc) hi.rules (fun r hr => by have := hck.2.1 r hr; omega) (by omega)) (by simp [encT_eq t]) rfl ?_
    generalize hf : formedF g t = bf
    cases bf with
    | true =>
      have he : errF g t = 0 := by unfold errF; rw [if_neg (by omega), if_neg (by omega), if_neg (by omega), if_pos hf]
      simp -implicitDefEqProofs
      refine retE (by simp [deferred, dslot]) rfl ?_ ?_
      · rw [he]; rfl
      · rw [he]; rfl
    | false =>
      have he : errF g t = 2 := by unfold errF; rw [if_neg (by omega), if_neg (by omega), if_neg (by omega), if_neg (by simp [hf])]
      simp -implicitDefEqProofs
      refine retD (by simp [deferred, dslot]) rfl (by simp [AV.strip, stripL, AV.inb, inbL]) ?_ ?_
      · rw [he]; rfl
      · rw [he]; rfl

/-! ## Text and Sort -/
/-- Texts as the caller sees them. -/
abbrev seen (l : List ByteArray) : AV := .sl (apdK 1 (l.map sv)) (l.map sv) (if l = [] then .nil else .any)
theorem strip_sv (l : List ByteArray) : stripL (l.map sv) = l.map sv := by
  induction l with
  | nil => rfl
  | cons a l ih => simp only [List.map_cons, stripL, ih]; rfl
theorem inb_sv (n : Nat) (l : List ByteArray) : inbL n (l.map sv) = true := by
  induction l with
  | nil => rfl
  | cons a l ih => simp only [List.map_cons, inbL, ih, Bool.and_true]; rfl
theorem strip_gsl (l : List ByteArray) (n : Nat) : (gsl l n).strip = seen l := by
  cases l with
  | nil => rfl
  | cons a l => simp only [gsl, seen, AV.strip, strip_sv, apdC, Cap.strip]; simp [Cap.strip]
theorem inb_seen (l : List ByteArray) (n : Nat) : (seen l).inb n = true := by
  cases l with
  | nil => rfl
  | cons a l => simp only [seen, AV.inb, inb_sv]; simp [Cap.inb]

def textF (g : Gr) (t : Tr) : List ByteArray × Int :=
  if errF g t ≠ 0 then ([], errF g t) else if (spellF g t []).length > 2000 then ([], 15) else (spellF g t [], 0)
theorem text_c (g : Gr) (t : Tr) (hi : InOk g t) {h : AHeap} : AEx PP Gl 8 [encG g, encT t] h (.ret (.tup [seen (textF g t).1, i64 (textF g t).2])) h := by
  have hnod := hi.nodes
  refine enter_earley_Text (by simp) ?_
  simp -implicitDefEqProofs [code_earley_Text, res_earley_Text, ann_earley_Text, encG, encT_eq t]
  refine callk (new_c g t hi) (by simp [encG, encT_eq t]) rfl ?_
  by_cases he : errF g t = 0
  · obtain ⟨hc, hf⟩ := errF_zero he
    have hck := check_ok hc
    simp -implicitDefEqProofs [he]
    have hsp := spell_c g (h.length + 1) h.length t [] (spH_ok g h) hi.plain (check_args hc) hi.rules (fun r hr => by have := hck.2.1 r hr; omega) (by omega) hf (by simp)
    refine callk hsp (by simp [encT_eq t, apdK, apdC]) (by simp) ?_
    by_cases hbig : (2000 : Int) < (spellF g t []).length
    · have ht : textF g t = ([], 15) := by unfold textF; rw [if_neg (by omega), if_pos (by omega)]
      simp -implicitDefEqProofs [hbig, spH]
      exact retD (by simp [deferred, dslot]) rfl (by simp [AV.strip, stripL, AV.inb, inbL, Cap.strip, Cap.inb]) (by rw [ht] <;> rfl) rfl
    · have ht : textF g t = (spellF g t [], 0) := by unfold textF; rw [if_neg (by omega), if_neg (by omega)]
      simp -implicitDefEqProofs [hbig, spH]
      refine retD (by simp [deferred, dslot]) rfl ?_ ?_ rfl
      · simp only [AV.strip, stripL]
        have h1 := strip_gsl (spellF g t []) (h.length + 2)
        simp only [gsl, AV.strip] at h1
        rw [h1]
        simp [AV.inb, inbL]
        refine ⟨inb_sv _ _, ?_⟩
        split <;> rfl
      · simp only [AV.strip, stripL]
        have h1 := strip_gsl (spellF g t []) (h.length + 2)
        simp only [gsl, AV.strip] at h1
        rw [h1, ht]
  · have ht : textF g t = ([], errF g t) := by unfold textF; rw [if_pos he]
    simp -implicitDefEqProofs [he]
    exact retE (by simp [deferred, dslot]) rfl (by rw [ht] <;> rfl) rfl

def sortF2 (g : Gr) (t : Tr) : ByteArray × Int := if errF g t ≠ 0 then (⟨#[]⟩, errF g t) else (match ruleAt g t.label with | some r => r.sort | none => ⟨#[]⟩, 0)
theorem esort_c (g : Gr) (t : Tr) (hi : InOk g t) {h : AHeap} : AEx PP Gl 11 [encG g, encT t] h (.ret (.tup [sv (sortF2 g t).1, i64 (sortF2 g t).2])) h := by
  have hnod := hi.nodes
  refine enter_earley_Sort (by simp) ?_
  simp -implicitDefEqProofs [code_earley_Sort, res_earley_Sort, ann_earley_Sort, encG, encT_eq t]
  refine callk (new_c g t hi) (by simp [encG, encT_eq t]) rfl ?_
  by_cases he : errF g t = 0
  · obtain ⟨hc, hf⟩ := errF_zero he
    simp -implicitDefEqProofs [he]
    refine callk (rule_at_c g (h.length + 1) h.length t.label (spH_ok g h) hi.plain hi.rules) rfl rfl ?_
    cases hra : ruleAt g t.label with
    | none =>
      have ht : sortF2 g t = (⟨#[]⟩, 0) := by unfold sortF2; rw [if_neg (by omega), hra]
      simp -implicitDefEqProofs [ruleV, zeroR, spH]
      exact retD (by simp [deferred, dslot]) rfl (by simp [AV.strip, stripL, AV.inb, inbL]) (by rw [ht] <;> rfl) rfl
    | some r =>
      have ht : sortF2 g t = (r.sort, 0) := by unfold sortF2; rw [if_neg (by omega), hra]
      simp -implicitDefEqProofs [ruleV, encR, spH]
      exact retD (by simp [deferred, dslot]) rfl (by simp [AV.strip, stripL, AV.inb, inbL]) (by rw [ht] <;> rfl) rfl
  · have ht : sortF2 g t = (⟨#[]⟩, errF g t) := by unfold sortF2; rw [if_pos he]
    simp -implicitDefEqProofs [he]
    exact retE (by simp [deferred, dslot]) rfl (by rw [ht] <;> rfl) rfl
end Go.Apx
