/- Walks: awake; the law ModalFollows. -/
import Derived.Test.YtbijnfhclfimeaaDoorL1
namespace Go.Apx
open Go.Proofs
set_option linter.unusedVariables false
set_option linter.unusedSimpArgs false
set_option linter.unnecessarySimpa false
set_option maxRecDepth 4000

def sP : ByteArray := ⟨#[112]⟩
def sImp : ByteArray := ⟨#[105, 109, 112]⟩
def sBox : ByteArray := ⟨#[98, 111, 120]⟩
def sNot : ByteArray := ⟨#[110, 111, 116]⟩
def sDia : ByteArray := ⟨#[100, 105, 97]⟩
def rolesL : List Role := [⟨sNot, 1⟩, ⟨sImp, 2⟩, ⟨sBox, 8⟩, ⟨sDia, 9⟩]
theorem tree_c (s : ByteArray) (k : Nat) (es : List AV) (c : Cap) {h : AHeap} : AEx PP Gl 21 [.sc (.string s), .sl k es c] h (.ret (.agg [.sc (.string s), .sl k es c])) h := by
  refine enter_law35_tree (by simp) ?_
  simp [code_law35_tree, res_law35_tree, ann_law35_tree]
  exact retE (by simp [deferred, dslot]) rfl rfl rfl
theorem rolesL_c {h : AHeap} : AEx PP Gl 20 [] h (.ret (.sl 2 (rolesL.map encRole) .full)) h := by
  refine enter_law35_roles (by simp) ?_
  simp [code_law35_roles, res_law35_roles, ann_law35_roles]
  exact retE (by simp [deferred, dslot]) rfl rfl rfl
/-- A tree without kids; a tree of given kids. -/
def leafT (s : ByteArray) : Tr := .node s [] .nil
def nodeT (s : ByteArray) (ks : List Tr) : Tr := .node s ks .full
def reflT : Tr := nodeT sImp [nodeT sBox [leafT sP], leafT sP]
theorem ArgsLe.append {a b a' b' : List AV} (h : ArgsLe a b) (h' : ArgsLe a' b') : ArgsLe (a ++ a') (b ++ b') := fun I m xs hx => by
  have h1 := hx.take a.length
  have h2 := hx.drop a.length
  rw [List.take_left] at h1
  rw [List.drop_left] at h2
  have := (h I m _ h1).append (h' I m _ h2)
  rwa [List.take_append_drop] at this
theorem AVLe.agg {cs ds : List AV} (h : ArgsLe cs ds) (h1 : ∀ d ∈ ds, d.one = true) : AVLe (.agg cs) (.agg ds) := fun I m x hx => by
  cases hx with
  | agg _ vs hl _ hr =>
    have := h I m vs ⟨hl, hr⟩
    exact .agg ds vs this.1 h1 this.2
theorem AVLe.sl {k : Nat} {es fs : List AV} {c : Cap} (hc : c ≠ .nil) (hl : es.length = fs.length) (hw : ∀ f ∈ fs, f.cells.length = k) (h1 : ∀ d ∈ fs.flatMap AV.cells, d.one = true) (h : ArgsLe (es.flatMap AV.cells) (fs.flatMap AV.cells)) : AVLe (.sl k es c) (.sl k fs c) := fun I m x hx => by
  cases hx with
  | slnil => exact absurd rfl hc
  | sl _ _ _ a cap vs _ hle hk _ _ hlen hr hI hs hcap =>
    have := h I m vs ⟨hlen, hr⟩
    rw [hl]
    refine .sl k fs c a cap vs hc (by omega) hk hw h1 this.1 this.2 hI (fun hne => hs (fun e => hne (by subst e; simp at hl; exact List.eq_nil_of_length_eq_zero hl.symm))) (by rw [← hl]; exact hcap)
def rawLeaf (s : ByteArray) : AV := .agg [.sc (.string s), .sl 0 [] .nil]
def rawRefl : AV := .agg [.sc (.string sImp), .sl 2 [.agg [.sc (.string sBox), .sl 2 [rawLeaf sP] .full], rawLeaf sP] .full]
theorem cells_leaf (s : ByteArray) : ArgsLe (rawLeaf s).cells (encT (leafT s)).cells := .cons (.refl _) (.cons (.nil 0 2) .nil)
theorem refl_le : AVLe rawRefl (encT reflT) := by
  refine .agg (.cons (.refl _) (.cons (.sl (by decide) rfl ?_ ?_ ?_) .nil)) ?_
  · intro f hf; simp [encT, encTs, nodeT, leafT] at hf; rcases hf with rfl | rfl <;> rfl
  · intro d hd; simp [encT, encTs, nodeT, leafT] at hd; rcases hd with rfl | rfl | rfl | rfl <;> rfl
  · refine .append (a := [.sc (.string sBox), .sl 2 [rawLeaf sP] .full]) (a' := (rawLeaf sP).cells) (.cons (.refl _) (.cons (.sl (by decide) rfl ?_ ?_ ?_) .nil)) (cells_leaf sP)
    · intro f hf; simp [encT, encTs, leafT] at hf; subst hf; rfl
    · intro d hd; simp [encT, encTs, leafT] at hd; rcases hd with rfl | rfl <;> rfl
    · exact cells_leaf sP
  · intro d hd; simp [encT, encTs, nodeT, leafT] at hd; rcases hd with rfl | rfl <;> rfl
theorem reflexive_c {h : AHeap} : AEx PP Gl 31 [] h (.ret rawRefl) h := by
  refine enter_law35_reflexive (by simp) ?_
  simp [code_law35_reflexive, res_law35_reflexive, ann_law35_reflexive]
  refine callk (tree_c sP 0 [] .nil) rfl rfl ?_
  simp
  refine callk (tree_c sBox 2 [rawLeaf sP] .full) rfl rfl ?_
  simp
  refine callk (tree_c sP 0 [] .nil) rfl rfl ?_
  simp
  refine callk (tree_c sImp 2 [.agg [.sc (.string sBox), .sl 2 [rawLeaf sP] .full], rawLeaf sP] .full) rfl rfl ?_
  simp
  exact retE (by simp [deferred, dslot]) rfl rfl rfl

theorem refl_val : FollowsF [2#64, 0#64] rolesL [] reflT = (false, [(sP, 0#64)], 1, 0) := by
  have h1 : startedF [2#64, 0#64] rolesL = (some [(sNot, 1), (sImp, 2), (sBox, 8), (sDia, 9)], 0) := by decide +kernel
  have h2 : errsF [(sNot, 1), (sImp, 2), (sBox, 8), (sDia, 9)] ([] ++ [reflT]) = 0 := by decide +kernel
  have h3 : varsF [(sNot, 1), (sImp, 2), (sBox, 8), (sDia, 9)] ([] ++ [reflT]) = [sP] := by decide +kernel
  have h4 : (List.range (2 ^ ([2#64, 0#64].length * [sP].length))).find? (fun i => badF [2#64, 0#64] [(sNot, 1), (sImp, 2), (sBox, 8), (sDia, 9)] [] reflT (modF [2#64, 0#64].length i [sP])) = some 0 := by decide +kernel
  have h5 : modF [2#64, 0#64].length 0 [sP] = [(sP, 0#64)] := by decide +kernel
  have h6 : tzC (full [2#64, 0#64].length &&& ~~~ holdsF [2#64, 0#64] [(sNot, 1), (sImp, 2), (sBox, 8), (sDia, 9)] [(sP, 0#64)] reflT) = 1 := by decide +kernel
  simp only [FollowsF, h1]
  rw [if_neg (by decide), if_neg (by rw [h2]; decide)]
  simp only [followsF, h3]
  rw [if_neg (by decide), h4]
  simp only [h5, tzF_eq, h6]

theorem awake_c {h : AHeap} : AEx PP Gl 11 [] h (.ret (bool true)) h := by
  refine enter_law35_awake (by simp) ?_
  simp [code_law35_awake, res_law35_awake, ann_law35_awake]
  refine callk rolesL_c rfl rfl ?_
  simp
  refine callk reflexive_c rfl rfl ?_
  simp
  have hv := Valid_c [2#64, 0#64] .full rolesL .full reflT (h := h) (by decide) (by decide) ⟨by decide, by decide⟩
  rw [refl_val] at hv
  refine callk2 hv (.cons (.refl _) (.cons (.refl _) (.cons refl_le .nil))) rfl ?_
  simp [ansV, grown, encM]
  exact retE (by simp [deferred, dslot]) rfl rfl rfl
end Go.Apx
