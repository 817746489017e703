/- Readings of frames, roles, trees. -/
import Derived.Test.YtbijnfhclfimeaaDoorL3
import Derived.Test.YtbijnfhclfimeaaDoorAmD
import Derived.Test.YtbijnfhclfimeaaDoorCards
import Derived.Test.YtbijnfhclfimeaaDoorTie
namespace Go.Apx
open Go.Proofs
open Go.ChangeShapes Go.WideShapes Go.ChangeAt Go.RowKit
set_option linter.unusedVariables false
set_option linter.unusedSimpArgs false
set_option maxRecDepth 100000

abbrev capB (b : Bool) : Cap := if b = true then .any else .nil
theorem capB_nil (b : Bool) : capB b = .nil ↔ b = false := by cases b <;> simp [capB]
theorem capB_inb (b : Bool) (n : Nat) : (capB b).inb n = true := by cases b <;> rfl

theorem sum_ones {α : Type} (l : List α) : (l.map fun _ => 1).sum = l.length := by
  induction l with
  | nil => rfl
  | cons x l ih => simp only [List.map_cons, List.sum_cons, List.length_cons, ih]; omega
theorem rd_uints (W : World) (fuel : Nat) : Rd PP W fuel 22 (fun p : List U × Bool => .sl 1 (p.1.map u64) (capB p.2)) (fun p => p.1.length + 1) (fun p => p.2 = false → p.1 = []) :=
  (Rd.slice (sz := fun _ => 1) Tryd.underlying22 (show PP.cellsOf 52 = 1 by kernel_rfl) (by omega) (fun _ => rfl) (fun a c hc => by simp [AV.cells] at hc; subst hc; rfl) (fun n _ => Rd.u64 Tryd.underlying52)).map id (fun _ => rfl) (fun a => by simp only [id, sum_ones]; exact Nat.le_refl _) (fun a h => h.2)
theorem rd_frame (W : World) (fuel : Nat) : Rd PP W fuel 24 (fun p : List U × Bool => .agg [.sl 1 (p.1.map u64) (capB p.2)]) (fun p => p.1.length + 1) (fun p => p.2 = false → p.1 = []) :=
  (Rd.struct1 Tryd.underlying24 rfl (show PP.cellsOf 22 = 1 by kernel_rfl) (show PP.cellsOf 24 = 1 by kernel_rfl) (fun n _ => rd_uints W n)).map id (fun _ => rfl) (fun a => by simp) (fun a h => h)
theorem rd_role (W : World) (fuel : Nat) : Rd PP W fuel 88 encRole (fun _ => 1) (fun _ => True) :=
  (Rd.struct2 Tryd.underlying88 rfl rfl (show PP.cellsOf 9 = 1 by kernel_rfl) (show PP.cellsOf 3 = 1 by kernel_rfl) (show PP.cellsOf 88 = 1 + 1 by kernel_rfl) (fun n _ => Rd.string Tryd.underlying9) (fun n _ => Rd.int Tryd.underlying3)).map
    (fun a => ⟨a.1, a.2⟩) (fun _ => rfl) (fun a => by omega) (fun _ _ => trivial)
theorem rd_roles (W : World) (fuel : Nat) : Rd PP W fuel 25 (fun p : List Role × Bool => .sl 2 (p.1.map encRole) (capB p.2)) (fun p => p.1.length + 1) (fun p => p.2 = false → p.1 = []) :=
  (Rd.slice Tryd.underlying25 (show PP.cellsOf 88 = 2 by kernel_rfl) (by omega) (fun _ => rfl) (fun a c hc => by simp [encRole, AV.cells] at hc; rcases hc with rfl | rfl <;> rfl) (fun n _ => rd_role W n)).map id (fun _ => rfl) (fun a => by simp only [id, sum_ones]; exact Nat.le_refl _) (fun a h => h.2)
theorem rd_model (W : World) (fuel : Nat) : Rd PP W fuel 65 encM (fun _ => 1) (fun _ => True) :=
  (Rd.struct2 Tryd.underlying65 rfl rfl (show PP.cellsOf 9 = 1 by kernel_rfl) (show PP.cellsOf 52 = 1 by kernel_rfl) (show PP.cellsOf 65 = 1 + 1 by kernel_rfl) (fun n _ => Rd.string Tryd.underlying9) (fun n _ => Rd.u64 Tryd.underlying52)).map
    (fun a => (a.1, a.2)) (fun _ => rfl) (fun a => by omega) (fun _ _ => trivial)
theorem rd_models (W : World) (fuel : Nat) : Rd PP W fuel 32 (fun p : Model × Bool => .sl 2 (p.1.map encM) (capB p.2)) (fun p => p.1.length + 1) (fun p => p.2 = false → p.1 = []) :=
  (Rd.slice Tryd.underlying32 (show PP.cellsOf 65 = 2 by kernel_rfl) (by omega) (fun _ => rfl) (fun a c hc => by simp [encM, AV.cells] at hc; rcases hc with rfl | rfl <;> rfl) (fun n _ => rd_model W n)).map id (fun _ => rfl) (fun a => by simp only [id, sum_ones]; exact Nat.le_refl _) (fun a h => h.2)

theorem cells_encT (t : Tr) : (encT t).cells.length = 2 := by rw [encT_eq]; rfl
theorem ones_encT (t : Tr) : ∀ c ∈ (encT t).cells, c.one = true := by
  intro c hc
  rw [encT_eq] at hc
  simp [AV.cells] at hc
  rcases hc with rfl | rfl <;> rfl
theorem sum_nodes (l : List Tr) : (l.map Tr.nodes).sum = Tr.nodesL l := by
  induction l with
  | nil => rfl
  | cons x l ih => simp [Tr.nodesL, ih]
theorem okL_of {l : List Tr} (h : ∀ t ∈ l, t.ok = true) : Tr.okL l = true := by
  induction l with
  | nil => rfl
  | cons x l ih => simp only [Tr.okL, Bool.and_eq_true]; exact ⟨h x (by simp), ih fun t ht => h t (by simp [ht])⟩

theorem rd_trees_of {W : World} {fuel : Nat} (h : ∀ n, n < fuel → Rd PP W n 28 encT Tr.nodes (fun t => t.ok = true)) : Rd PP W fuel 26 (fun p : List Tr × Bool => .sl 2 (p.1.map encT) (capB p.2)) (fun p => Tr.nodesL p.1 + 1) (fun p => (∀ t ∈ p.1, t.ok = true) ∧ (p.2 = false → p.1 = [])) :=
  (Rd.slice Tryd.underlying26 (show PP.cellsOf 28 = 2 by kernel_rfl) (by omega) cells_encT ones_encT h).map id (fun _ => rfl) (fun a => by simp only [id]; rw [sum_nodes]; exact Nat.le_refl _) (fun a h => h)
theorem rd_tree (W : World) (fuel : Nat) : Rd PP W fuel 28 encT Tr.nodes (fun t => t.ok = true) := by
  induction fuel using Nat.strongRecOn with
  | ind fuel ih =>
    exact (Rd.struct2 Tryd.underlying28 rfl rfl (show PP.cellsOf 9 = 1 by kernel_rfl) (show PP.cellsOf 26 = 1 by kernel_rfl) (show PP.cellsOf 28 = 1 + 1 by kernel_rfl) (fun n _ => Rd.string Tryd.underlying9)
      (fun n hn => rd_trees_of (fun n' hn' => ih n' (by omega)))).map (fun a => Tr.node a.1 a.2.1 (capB a.2.2)) (fun a => by rw [encT_eq]; rfl) (fun a => by simp only [Tr.nodes]; omega)
      (fun a h => by simp only [Tr.ok, capB_inb, Bool.true_and]; exact okL_of h.2.1)
theorem rd_trees (W : World) (fuel : Nat) : Rd PP W fuel 26 (fun p : List Tr × Bool => .sl 2 (p.1.map encT) (capB p.2)) (fun p => Tr.nodesL p.1 + 1) (fun p => (∀ t ∈ p.1, t.ok = true) ∧ (p.2 = false → p.1 = [])) := rd_trees_of fun n _ => rd_tree W n

/-! ## bulk -/
mutual
theorem bulk_eq {H : Type} : ∀ d : DataW H, YtbijnfhclfimeaaDoor.Rows.uptoBulk d = bulk d
  | .lit (.string bytes) => rfl
  | .lit (.bool _) => rfl
  | .lit (.int _ _) => rfl
  | .lit (.float _ _) => rfl
  | .lit .nil => rfl
  | .nil => rfl
  | .ptr d => by simp only [YtbijnfhclfimeaaDoor.Rows.uptoBulk, bulk, bulk_eq d]
  | .slice elems spare => by simp only [YtbijnfhclfimeaaDoor.Rows.uptoBulk, bulk, bulkL_eq elems, bulkL_eq spare]
  | .agg parts => by simp only [YtbijnfhclfimeaaDoor.Rows.uptoBulk, bulk, bulkL_eq parts]
  | .iface _ d => by simp only [YtbijnfhclfimeaaDoor.Rows.uptoBulk, bulk, bulk_eq d]
  | .map entries => by simp only [YtbijnfhclfimeaaDoor.Rows.uptoBulk, bulk, bulkE_eq entries]
  | .held _ => rfl
theorem bulkL_eq {H : Type} : ∀ l : List (DataW H), YtbijnfhclfimeaaDoor.Rows.uptoBulkAll l = bulkL l
  | [] => rfl
  | d :: r => by simp only [YtbijnfhclfimeaaDoor.Rows.uptoBulkAll, bulkL, bulk_eq d, bulkL_eq r]
theorem bulkE_eq {H : Type} : ∀ l : List (Lit × DataW H), YtbijnfhclfimeaaDoor.Rows.uptoBulkEntries l = bulkE l
  | [] => rfl
  | x :: r => by simp only [YtbijnfhclfimeaaDoor.Rows.uptoBulkEntries, bulkE, bulkP_eq x, bulkE_eq r]
theorem bulkP_eq {H : Type} : ∀ x : Lit × DataW H, YtbijnfhclfimeaaDoor.Rows.uptoBulkEntry x = bulkP x
  | (.string bytes, d) => by simp only [YtbijnfhclfimeaaDoor.Rows.uptoBulkEntry, bulkP, bulk_eq d]
  | (.bool _, d) => by simp only [YtbijnfhclfimeaaDoor.Rows.uptoBulkEntry, bulkP, bulk_eq d]
  | (.int _ _, d) => by simp only [YtbijnfhclfimeaaDoor.Rows.uptoBulkEntry, bulkP, bulk_eq d]
  | (.float _ _, d) => by simp only [YtbijnfhclfimeaaDoor.Rows.uptoBulkEntry, bulkP, bulk_eq d]
  | (.nil, d) => by simp only [YtbijnfhclfimeaaDoor.Rows.uptoBulkEntry, bulkP, bulk_eq d]
end
theorem bulk_small {H : Type} {ds : List (DataW H)} (h : YtbijnfhclfimeaaDoor.Rows.uptoSmall H ds = true) : bulkL ds ≤ 1048576 := by
  rw [← bulkL_eq]
  exact of_decide_eq_true h

/-! ## the laid tables -/
def tab64I : List Int := tab64.map fun (n : Nat) => (n : Int)
theorem glob_met {W : World} (h : laidMetH PP YtbijnfhclfimeaaDoor.Rows.modalFollowsUptoRow.laid W) : ∀ g v, Gl g = some v → ∀ m', AVRel (I0 W) m' v (.pointer (some ⟨g, 0, none⟩)) := by
  have h1 : laidMet PP (YtbijnfhclfimeaaDoor.Rows.modalFollowsUptoRow.laid.filter fun x => x.1 == "math/bits.deBruijn64tab") W := laidMet.filter _ h
  have ht : Lib.TabIs PP W "math/bits.deBruijn64tab" .u8 tab64I := Lib.tabIs_of_head (rest := []) (g := 1) (t := 144) (e := 5) (n := 64) (by kernel_rfl) (by kernel_rfl) Tryd.underlying144 Tryd.underlying5 (by kernel_rfl) (by kernel_rfl) h1
  intro g v hg m'
  unfold Gl at hg
  split at hg
  · rename_i e
    subst e
    cases hg
    have hc := ht.cell (show PP.globalNamed "math/bits.deBruijn64tab" = some 1 by kernel_rfl)
    refine .ip _ _ (tab64I.map fun z => Value.int .u8 z) (fun c hc => ?_) (by decide) (fun i a x ha hx => ?_) (fun i x hx => ?_) rfl
    · obtain ⟨n, _, rfl⟩ := List.mem_map.1 (show c ∈ tab64.map fun (n : Nat) => AV.sc (.int .u8 (n : Int)) from hc)
      rfl
    · have ha' : (tab64.map fun (n : Nat) => AV.sc (.int .u8 (n : Int)))[i]? = some a := ha
      simp only [tab64I, List.map_map, List.getElem?_map, Option.map_eq_some_iff] at ha' hx
      obtain ⟨n, h1, rfl⟩ := ha'
      obtain ⟨n', h2, rfl⟩ := hx
      obtain rfl := Option.some.inj (h1.symm.trans h2)
      exact .sc _
    · have hi : i < tab64I.length := by
        have := (List.getElem?_eq_some_iff.1 hx).1
        simpa using this
      have := hc i hi
      simp only [List.getElem?_map, Option.map_eq_some_iff] at hx
      obtain ⟨z, h1, rfl⟩ := hx
      simp only [List.getD, h1, Option.getD_some] at this
      simpa [I0] using this
  · cases hg
end Go.Apx
