/- Walk: the law ModalRules, stage by stage. -/
import Derived.Test.YtbijnfhclfimeaaDoorK5
namespace Go.Apx
open Go.Proofs
set_option linter.unusedVariables false
set_option linter.unusedSimpArgs false
set_option linter.unnecessarySimpa false
set_option maxRecDepth 4000

theorem AWp.go {a b c : ACode} {n : Nat} {ann : List Nat} {k : Nat} {ro : Option Nat} {Q : APost} {env : Env} {h : AHeap} (e : c = .seq a b) (hw : codeWp ⟨PP, Gl, n, ann, k, ro⟩ a (thenP (fun env' h' => AWp ⟨PP, Gl, n, ann, k, ro⟩ b Q env' h') Q) env h) : AWp ⟨PP, Gl, n, ann, k, ro⟩ c Q env h := by
  subst e; exact AWp.seq (codeWp_sound mixed hw)
theorem mr20 (S : List U) (c : Cap) (a b : Tr) {h : AHeap} (hS : S.length < 2 ^ 20) (hka : a.ok = true ∧ a.nodes ≤ 20) (hkb : b.ok = true ∧ b.nodes ≤ 20) (hr : rightF S = true) : AWp ⟨PP, Gl, 215, ann_law35_ModalRules, h.length, none⟩ tl20_law35_ModalRules (retPost PP Gl h res_law35_ModalRules (fun r h' => r = .ret (bool true) ∧ h' = h)) [(16, i64 0), (35, bool true)] h := by
  refine AWp.go (a := cp20_law35_ModalRules) (b := tl21_law35_ModalRules) rfl ?_
  simp -implicitDefEqProofs [cp20_law35_ModalRules, ann_law35_ModalRules, res_law35_ModalRules]
  refine callk awake_c rfl rfl ?_
  simp -implicitDefEqProofs
  refine codeWp_sound mixed ?_
  simp -implicitDefEqProofs [tl21_law35_ModalRules, res_law35_ModalRules]
  exact retE (by simp [deferred, dslot]) rfl rfl rfl

theorem mr19 (S : List U) (c : Cap) (a b : Tr) {h : AHeap} (hS : S.length < 2 ^ 20) (hka : a.ok = true ∧ a.nodes ≤ 20) (hkb : b.ok = true ∧ b.nodes ≤ 20) (hr : rightF S = true) (h8 : (FollowsF S rolesL [a, impT a b] b).2.2.2 = 0 ∧ (FollowsF S rolesL [a, impT a b] b).1 = true) : AWp ⟨PP, Gl, 215, ann_law35_ModalRules, h.length, none⟩ tl19_law35_ModalRules (retPost PP Gl h res_law35_ModalRules (fun r h' => r = .ret (bool true) ∧ h' = h)) [(4, .ip (encT a)), (5, .ip (encT b)), (7, .ip (.agg [.sl 1 (S.map u64) c])), (8, .sl 2 (rolesL.map encRole) .full), (11, .ip (.agg [.sc (.string sImp), .sl 2 [encT a, encT b] .full]))] h := by
  refine AWp.go (a := cp19_law35_ModalRules) (b := tl20_law35_ModalRules) rfl ?_
  have hna : a.nodes ≤ 2 ^ 20 := by omega
  have hnb : b.nodes ≤ 2 ^ 20 := by omega
  have enci : encT (impT a b) = .agg [.sc (.string sImp), .sl 2 [encT a, encT b] .full] := rfl
  have encb : encT (boxT a) = .agg [.sc (.string sBox), .sl 2 [encT a] .full] := rfl
  have hokb : (boxT a).ok = true := by simp [boxT, nodeT, Tr.ok, Tr.okL, Cap.inb, hka.1]
  have hoki : (impT a b).ok = true := by simp [impT, nodeT, Tr.ok, Tr.okL, Cap.inb, hka.1, hkb.1]
  have hnbx : (boxT a).nodes ≤ 2 ^ 20 := by simp [boxT, nodeT, Tr.nodes, Tr.nodesL]; omega
  have hni : (impT a b).nodes ≤ 2 ^ 20 := by simp [impT, nodeT, Tr.nodes, Tr.nodesL]; omega
  have hk8 : ∀ p ∈ [a, impT a b] ++ [b], p.ok = true ∧ p.nodes ≤ 2 ^ 20 := by intro p hp; simp at hp; rcases hp with rfl | rfl | rfl; exact ⟨hka.1, hna⟩; exact ⟨hoki, hni⟩; exact ⟨hkb.1, hnb⟩
  simp -implicitDefEqProofs [cp19_law35_ModalRules, ann_law35_ModalRules, res_law35_ModalRules, encT_eq a, encT_eq b]
  refine callk (Follows_c S c rolesL .full [a, impT a b] .full b hS (by decide) (by simp) (by simp) hk8) (by simp [enci, encT_eq a, encT_eq b]) rfl ?_
  obtain ⟨l81, l82⟩ := h8
  simp -implicitDefEqProofs [ansV, l81, l82]
  exact (mr20 S c a b hS hka hkb hr).weaken (le_of (by simp [dslot, l81, l82]))


theorem mr18 (S : List U) (c : Cap) (a b : Tr) {h : AHeap} (hS : S.length < 2 ^ 20) (hka : a.ok = true ∧ a.nodes ≤ 20) (hkb : b.ok = true ∧ b.nodes ≤ 20) (hr : rightF S = true) (h8 : (FollowsF S rolesL [a, impT a b] b).2.2.2 = 0 ∧ (FollowsF S rolesL [a, impT a b] b).1 = true) (x y z : Bool) (hz : x = true → y = true → z = true) : AWp ⟨PP, Gl, 215, ann_law35_ModalRules, h.length, none⟩ tl18_law35_ModalRules (retPost PP Gl h res_law35_ModalRules (fun r h' => r = .ret (bool true) ∧ h' = h)) [(4, .ip (encT a)), (5, .ip (encT b)), (7, .ip (.agg [.sl 1 (S.map u64) c])), (8, .sl 2 (rolesL.map encRole) .full), (11, .ip (.agg [.sc (.string sImp), .sl 2 [encT a, encT b] .full])), (17, bool x), (32, bool y), (35, bool z), (16, i64 0)] h := by
  refine AWp.go (a := cp18_law35_ModalRules) (b := tl19_law35_ModalRules) rfl ?_
  cases x with
  | false =>
    simp -implicitDefEqProofs [cp18_law35_ModalRules, ann_law35_ModalRules, res_law35_ModalRules, encT_eq a, encT_eq b]
    exact (mr19 S c a b hS hka hkb hr h8).weaken (le_of (by simp [dslot, encT_eq a, encT_eq b]))
  | true =>
    cases y with
    | false =>
      simp -implicitDefEqProofs [cp18_law35_ModalRules, ann_law35_ModalRules, res_law35_ModalRules, encT_eq a, encT_eq b]
      exact (mr19 S c a b hS hka hkb hr h8).weaken (le_of (by simp [dslot, encT_eq a, encT_eq b]))
    | true =>
      have hz1 := hz rfl rfl
      subst hz1
      simp -implicitDefEqProofs [cp18_law35_ModalRules, ann_law35_ModalRules, res_law35_ModalRules, encT_eq a, encT_eq b]
      exact (mr19 S c a b hS hka hkb hr h8).weaken (le_of (by simp [dslot, encT_eq a, encT_eq b]))


theorem mr17 (S : List U) (c : Cap) (a b : Tr) {h : AHeap} (hS : S.length < 2 ^ 20) (hka : a.ok = true ∧ a.nodes ≤ 20) (hkb : b.ok = true ∧ b.nodes ≤ 20) (hr : rightF S = true) (h8 : (FollowsF S rolesL [a, impT a b] b).2.2.2 = 0 ∧ (FollowsF S rolesL [a, impT a b] b).1 = true) (h7 : (FollowsF S rolesL [] b).2.2.2 = 0) (x y : Bool) (hz : x = true → y = true → (FollowsF S rolesL [] b).1 = true) : AWp ⟨PP, Gl, 215, ann_law35_ModalRules, h.length, none⟩ tl17_law35_ModalRules (retPost PP Gl h res_law35_ModalRules (fun r h' => r = .ret (bool true) ∧ h' = h)) [(4, .ip (encT a)), (5, .ip (encT b)), (7, .ip (.agg [.sl 1 (S.map u64) c])), (8, .sl 2 (rolesL.map encRole) .full), (11, .ip (.agg [.sc (.string sImp), .sl 2 [encT a, encT b] .full])), (17, bool x), (32, bool y)] h := by
  refine AWp.go (a := cp17_law35_ModalRules) (b := tl18_law35_ModalRules) rfl ?_
  have hna : a.nodes ≤ 2 ^ 20 := by omega
  have hnb : b.nodes ≤ 2 ^ 20 := by omega
  have enci : encT (impT a b) = .agg [.sc (.string sImp), .sl 2 [encT a, encT b] .full] := rfl
  have encb : encT (boxT a) = .agg [.sc (.string sBox), .sl 2 [encT a] .full] := rfl
  have hokb : (boxT a).ok = true := by simp [boxT, nodeT, Tr.ok, Tr.okL, Cap.inb, hka.1]
  have hoki : (impT a b).ok = true := by simp [impT, nodeT, Tr.ok, Tr.okL, Cap.inb, hka.1, hkb.1]
  have hnbx : (boxT a).nodes ≤ 2 ^ 20 := by simp [boxT, nodeT, Tr.nodes, Tr.nodesL]; omega
  have hni : (impT a b).nodes ≤ 2 ^ 20 := by simp [impT, nodeT, Tr.nodes, Tr.nodesL]; omega
  simp -implicitDefEqProofs [cp17_law35_ModalRules, ann_law35_ModalRules, res_law35_ModalRules, encT_eq a, encT_eq b]
  refine callk (Valid_c S c rolesL .full b hS (by decide) ⟨hkb.1, hnb⟩) (by simp [encT_eq a, encT_eq b]) rfl ?_
  simp -implicitDefEqProofs [ansV, h7]
  exact (mr18 S c a b hS hka hkb hr h8 x y _ hz).weaken (le_of (by simp [dslot, encT_eq a, encT_eq b]))


theorem mr16 (S : List U) (c : Cap) (a b : Tr) {h : AHeap} (hS : S.length < 2 ^ 20) (hka : a.ok = true ∧ a.nodes ≤ 20) (hkb : b.ok = true ∧ b.nodes ≤ 20) (hr : rightF S = true) (he2 : (FollowsF S rolesL [] a).2.2.2 = 0) : AWp ⟨PP, Gl, 215, ann_law35_ModalRules, h.length, none⟩ tl16_law35_ModalRules (retPost PP Gl h res_law35_ModalRules (fun r h' => r = .ret (bool true) ∧ h' = h)) [(4, .ip (encT a)), (5, .ip (encT b)), (7, .ip (.agg [.sl 1 (S.map u64) c])), (8, .sl 2 (rolesL.map encRole) .full), (11, .ip (.agg [.sc (.string sImp), .sl 2 [encT a, encT b] .full])), (17, bool (FollowsF S rolesL [] a).1), (32, bool (FollowsF S rolesL [] (impT a b)).1), (16, i64 (FollowsF S rolesL [] (impT a b)).2.2.2)] h := by
  refine AWp.go (a := cp16_law35_ModalRules) (b := tl17_law35_ModalRules) rfl ?_
  by_cases he6 : (FollowsF S rolesL [] (impT a b)).2.2.2 = 0
  rotate_left
  · simp -implicitDefEqProofs [cp16_law35_ModalRules, ann_law35_ModalRules, res_law35_ModalRules, he6]
    refine callk awake_c rfl rfl ?_
    simp -implicitDefEqProofs
    exact retE (by simp [deferred, dslot]) rfl rfl rfl

  obtain ⟨l71, l72⟩ := law7 hr he2 he6
  have l8 := law8 hr he6
  simp -implicitDefEqProofs [cp16_law35_ModalRules, ann_law35_ModalRules, res_law35_ModalRules, he6]
  exact (mr17 S c a b hS hka hkb hr l8 l71 _ _ l72).weaken (le_of (by simp [dslot, encT_eq a, encT_eq b]))


theorem mr15 (S : List U) (c : Cap) (a b : Tr) {h : AHeap} (hS : S.length < 2 ^ 20) (hka : a.ok = true ∧ a.nodes ≤ 20) (hkb : b.ok = true ∧ b.nodes ≤ 20) (hr : rightF S = true) (he2 : (FollowsF S rolesL [] a).2.2.2 = 0) : AWp ⟨PP, Gl, 215, ann_law35_ModalRules, h.length, none⟩ tl15_law35_ModalRules (retPost PP Gl h res_law35_ModalRules (fun r h' => r = .ret (bool true) ∧ h' = h)) [(4, .ip (encT a)), (5, .ip (encT b)), (7, .ip (.agg [.sl 1 (S.map u64) c])), (8, .sl 2 (rolesL.map encRole) .full), (11, .ip (.agg [.sc (.string sImp), .sl 2 [encT a, encT b] .full])), (17, bool (FollowsF S rolesL [] a).1)] h := by
  refine AWp.go (a := cp15_law35_ModalRules) (b := tl16_law35_ModalRules) rfl ?_
  have hna : a.nodes ≤ 2 ^ 20 := by omega
  have hnb : b.nodes ≤ 2 ^ 20 := by omega
  have enci : encT (impT a b) = .agg [.sc (.string sImp), .sl 2 [encT a, encT b] .full] := rfl
  have encb : encT (boxT a) = .agg [.sc (.string sBox), .sl 2 [encT a] .full] := rfl
  have hokb : (boxT a).ok = true := by simp [boxT, nodeT, Tr.ok, Tr.okL, Cap.inb, hka.1]
  have hoki : (impT a b).ok = true := by simp [impT, nodeT, Tr.ok, Tr.okL, Cap.inb, hka.1, hkb.1]
  have hnbx : (boxT a).nodes ≤ 2 ^ 20 := by simp [boxT, nodeT, Tr.nodes, Tr.nodesL]; omega
  have hni : (impT a b).nodes ≤ 2 ^ 20 := by simp [impT, nodeT, Tr.nodes, Tr.nodesL]; omega
  simp -implicitDefEqProofs [cp15_law35_ModalRules, ann_law35_ModalRules, res_law35_ModalRules, encT_eq a, encT_eq b]
  refine callk (Valid_c S c rolesL .full (impT a b) hS (by decide) ⟨hoki, hni⟩) (by simp [enci, encT_eq a, encT_eq b]) rfl ?_
  simp -implicitDefEqProofs [ansV]
  exact (mr16 S c a b hS hka hkb hr he2).weaken (le_of (by simp [dslot, encT_eq a, encT_eq b]))


theorem mr14 (S : List U) (c : Cap) (a b : Tr) {h : AHeap} (hS : S.length < 2 ^ 20) (hka : a.ok = true ∧ a.nodes ≤ 20) (hkb : b.ok = true ∧ b.nodes ≤ 20) (hr : rightF S = true) (he2 : (FollowsF S rolesL [] a).2.2.2 = 0) : AWp ⟨PP, Gl, 215, ann_law35_ModalRules, h.length, none⟩ tl14_law35_ModalRules (retPost PP Gl h res_law35_ModalRules (fun r h' => r = .ret (bool true) ∧ h' = h)) [(4, .ip (encT a)), (5, .ip (encT b)), (7, .ip (.agg [.sl 1 (S.map u64) c])), (8, .sl 2 (rolesL.map encRole) .full), (11, .ip (.agg [.sc (.string sImp), .sl 2 [encT a, encT b] .full])), (17, bool (FollowsF S rolesL [] a).1)] h := by
  refine AWp.go (a := cp14_law35_ModalRules) (b := tl15_law35_ModalRules) rfl ?_
  have hna : a.nodes ≤ 2 ^ 20 := by omega
  have hnb : b.nodes ≤ 2 ^ 20 := by omega
  have enci : encT (impT a b) = .agg [.sc (.string sImp), .sl 2 [encT a, encT b] .full] := rfl
  have encb : encT (boxT a) = .agg [.sc (.string sBox), .sl 2 [encT a] .full] := rfl
  have hokb : (boxT a).ok = true := by simp [boxT, nodeT, Tr.ok, Tr.okL, Cap.inb, hka.1]
  have hoki : (impT a b).ok = true := by simp [impT, nodeT, Tr.ok, Tr.okL, Cap.inb, hka.1, hkb.1]
  have hnbx : (boxT a).nodes ≤ 2 ^ 20 := by simp [boxT, nodeT, Tr.nodes, Tr.nodesL]; omega
  have hni : (impT a b).nodes ≤ 2 ^ 20 := by simp [impT, nodeT, Tr.nodes, Tr.nodesL]; omega
  have hns : (swapF b a).nodes ≤ 2 ^ 20 := Nat.le_trans (swap_nodes b a) (Nat.le_trans (Nat.mul_le_mul hka.2 hkb.2) (by decide))
  have next := mr15 (h := h) S c a b hS hka hkb hr he2
  have l5 := law5 hr he2 (b := b)
  obtain ⟨x, hx⟩ : ∃ x, x = (FollowsF S rolesL [] a).1 := ⟨_, rfl⟩
  rw [← hx] at next l5 ⊢
  simp -implicitDefEqProofs [cp14_law35_ModalRules, ann_law35_ModalRules, res_law35_ModalRules, encT_eq a, encT_eq b]
  refine callk (swapped_c b hkb.1 a hna) (by simp [encT_eq a, encT_eq b]) rfl ?_
  obtain ⟨sx, sy, hsv, hsp, hso⟩ := swapV_shape b a
  have hsle := swapV_le b a
  rw [hsv] at hsle ⊢
  simp -implicitDefEqProofs [hsp, hso]
  refine callk2 (Valid_c S c rolesL .full (swapF b a) hS (by decide) ⟨swap_ok b hkb.1 a hka.1, hns⟩) (.cons (.refl _) (.cons (.refl _) (.cons hsle .nil))) rfl ?_
  obtain ⟨A5, hA5⟩ : ∃ A, A = FollowsF S rolesL [] (swapF b a) := ⟨_, rfl⟩
  rw [← hA5] at l5 ⊢
  cases x with
  | false =>
    simp -implicitDefEqProofs [ansV]
    exact next.weaken (le_of (by simp [dslot, encT_eq a, encT_eq b]))
  | true =>
    by_cases he5 : A5.2.2.2 = 0
    · have h51 := l5 rfl he5
      simp -implicitDefEqProofs [ansV, he5, h51]
      exact next.weaken (le_of (by simp [dslot, encT_eq a, encT_eq b]))
    · simp -implicitDefEqProofs [ansV, he5]
      exact next.weaken (le_of (by simp [dslot, encT_eq a, encT_eq b]))


theorem mr13 (S : List U) (c : Cap) (a b : Tr) {h : AHeap} (hS : S.length < 2 ^ 20) (hka : a.ok = true ∧ a.nodes ≤ 20) (hkb : b.ok = true ∧ b.nodes ≤ 20) (hr : rightF S = true) (he2 : (FollowsF S rolesL [] a).2.2.2 = 0) : AWp ⟨PP, Gl, 215, ann_law35_ModalRules, h.length, none⟩ tl13_law35_ModalRules (retPost PP Gl h res_law35_ModalRules (fun r h' => r = .ret (bool true) ∧ h' = h)) [(4, .ip (encT a)), (5, .ip (encT b)), (7, .ip (.agg [.sl 1 (S.map u64) c])), (8, .sl 2 (rolesL.map encRole) .full), (11, .ip (.agg [.sc (.string sImp), .sl 2 [encT a, encT b] .full])), (17, bool (FollowsF S rolesL [] a).1)] h := by
  refine AWp.go (a := cp13_law35_ModalRules) (b := tl14_law35_ModalRules) rfl ?_
  have hna : a.nodes ≤ 2 ^ 20 := by omega
  have hnb : b.nodes ≤ 2 ^ 20 := by omega
  have enci : encT (impT a b) = .agg [.sc (.string sImp), .sl 2 [encT a, encT b] .full] := rfl
  have encb : encT (boxT a) = .agg [.sc (.string sBox), .sl 2 [encT a] .full] := rfl
  have hokb : (boxT a).ok = true := by simp [boxT, nodeT, Tr.ok, Tr.okL, Cap.inb, hka.1]
  have hoki : (impT a b).ok = true := by simp [impT, nodeT, Tr.ok, Tr.okL, Cap.inb, hka.1, hkb.1]
  have hnbx : (boxT a).nodes ≤ 2 ^ 20 := by simp [boxT, nodeT, Tr.nodes, Tr.nodesL]; omega
  have hni : (impT a b).nodes ≤ 2 ^ 20 := by simp [impT, nodeT, Tr.nodes, Tr.nodesL]; omega
  have hk4 : ∀ p ∈ [a] ++ [boxT a], p.ok = true ∧ p.nodes ≤ 2 ^ 20 := by intro p hp; simp at hp; rcases hp with rfl | rfl; exact ⟨hka.1, hna⟩; exact ⟨hokb, hnbx⟩
  obtain ⟨l41, l42⟩ := law4 hr hka.2 he2
  simp -implicitDefEqProofs [cp13_law35_ModalRules, ann_law35_ModalRules, res_law35_ModalRules, encT_eq a, encT_eq b]
  refine callk (tree_c sBox 2 [encT a] .full) (by simp [encT_eq a, encT_eq b]; rfl) rfl ?_
  simp -implicitDefEqProofs [encT_eq a, encT_eq b]
  refine callk (Follows_c S c rolesL .full [a] .full (boxT a) hS (by decide) (by simp) (by simp) hk4) (by simp [encb, encT_eq a, encT_eq b]) rfl ?_
  simp -implicitDefEqProofs [ansV, l41, l42]
  exact (mr14 S c a b hS hka hkb hr he2).weaken (le_of (by simp [dslot, encT_eq a, encT_eq b]))


theorem mr12 (S : List U) (c : Cap) (a b : Tr) {h : AHeap} (hS : S.length < 2 ^ 20) (hka : a.ok = true ∧ a.nodes ≤ 20) (hkb : b.ok = true ∧ b.nodes ≤ 20) (hr : rightF S = true) (he2 : (FollowsF S rolesL [] a).2.2.2 = 0) : AWp ⟨PP, Gl, 215, ann_law35_ModalRules, h.length, none⟩ tl12_law35_ModalRules (retPost PP Gl h res_law35_ModalRules (fun r h' => r = .ret (bool true) ∧ h' = h)) [(4, .ip (encT a)), (5, .ip (encT b)), (7, .ip (.agg [.sl 1 (S.map u64) c])), (8, .sl 2 (rolesL.map encRole) .full), (11, .ip (.agg [.sc (.string sImp), .sl 2 [encT a, encT b] .full])), (17, bool (FollowsF S rolesL [] a).1)] h := by
  refine AWp.go (a := cp12_law35_ModalRules) (b := tl13_law35_ModalRules) rfl ?_
  have hna : a.nodes ≤ 2 ^ 20 := by omega
  have hnb : b.nodes ≤ 2 ^ 20 := by omega
  have enci : encT (impT a b) = .agg [.sc (.string sImp), .sl 2 [encT a, encT b] .full] := rfl
  have encb : encT (boxT a) = .agg [.sc (.string sBox), .sl 2 [encT a] .full] := rfl
  have hokb : (boxT a).ok = true := by simp [boxT, nodeT, Tr.ok, Tr.okL, Cap.inb, hka.1]
  have hoki : (impT a b).ok = true := by simp [impT, nodeT, Tr.ok, Tr.okL, Cap.inb, hka.1, hkb.1]
  have hnbx : (boxT a).nodes ≤ 2 ^ 20 := by simp [boxT, nodeT, Tr.nodes, Tr.nodesL]; omega
  have hni : (impT a b).nodes ≤ 2 ^ 20 := by simp [impT, nodeT, Tr.nodes, Tr.nodesL]; omega
  have next := mr13 (h := h) S c a b hS hka hkb hr he2
  have l3 := law3 hr hka.2 he2
  obtain ⟨x, hx⟩ : ∃ x, x = (FollowsF S rolesL [] a).1 := ⟨_, rfl⟩
  rw [← hx] at next l3 ⊢
  simp -implicitDefEqProofs [cp12_law35_ModalRules, ann_law35_ModalRules, res_law35_ModalRules, encT_eq a, encT_eq b]
  refine callk (tree_c sBox 2 [encT a] .full) (by simp [encT_eq a, encT_eq b]; rfl) rfl ?_
  simp -implicitDefEqProofs [encT_eq a, encT_eq b]
  refine callk (Valid_c S c rolesL .full (boxT a) hS (by decide) ⟨hokb, hnbx⟩) (by simp [encb, encT_eq a, encT_eq b]) rfl ?_
  cases x with
  | false =>
    simp -implicitDefEqProofs [ansV]
    exact next.weaken (le_of (by simp [dslot, encT_eq a, encT_eq b]))
  | true =>
    obtain ⟨l31, l32⟩ := l3 rfl
    simp -implicitDefEqProofs [ansV, l31, l32]
    exact next.weaken (le_of (by simp [dslot, encT_eq a, encT_eq b]))


theorem mr11 (S : List U) (c : Cap) (a b : Tr) {h : AHeap} (hS : S.length < 2 ^ 20) (hka : a.ok = true ∧ a.nodes ≤ 20) (hkb : b.ok = true ∧ b.nodes ≤ 20) (hr : rightF S = true)  : AWp ⟨PP, Gl, 215, ann_law35_ModalRules, h.length, none⟩ tl11_law35_ModalRules (retPost PP Gl h res_law35_ModalRules (fun r h' => r = .ret (bool true) ∧ h' = h)) [(4, .ip (encT a)), (5, .ip (encT b)), (7, .ip (.agg [.sl 1 (S.map u64) c])), (8, .sl 2 (rolesL.map encRole) .full), (11, .ip (.agg [.sc (.string sImp), .sl 2 [encT a, encT b] .full])), (17, bool (FollowsF S rolesL [] a).1), (16, i64 (FollowsF S rolesL [] a).2.2.2)] h := by
  refine AWp.go (a := cp11_law35_ModalRules) (b := tl12_law35_ModalRules) rfl ?_
  by_cases he2 : (FollowsF S rolesL [] a).2.2.2 = 0
  rotate_left
  · simp -implicitDefEqProofs [cp11_law35_ModalRules, ann_law35_ModalRules, res_law35_ModalRules, he2]
    refine callk awake_c rfl rfl ?_
    simp -implicitDefEqProofs
    exact retE (by simp [deferred, dslot]) rfl rfl rfl

  simp -implicitDefEqProofs [cp11_law35_ModalRules, ann_law35_ModalRules, res_law35_ModalRules, he2]
  exact (mr12 S c a b hS hka hkb hr he2).weaken (le_of (by simp [dslot, encT_eq a, encT_eq b]))


theorem mr10 (S : List U) (c : Cap) (a b : Tr) {h : AHeap} (hS : S.length < 2 ^ 20) (hka : a.ok = true ∧ a.nodes ≤ 20) (hkb : b.ok = true ∧ b.nodes ≤ 20) (hr : rightF S = true)  : AWp ⟨PP, Gl, 215, ann_law35_ModalRules, h.length, none⟩ tl10_law35_ModalRules (retPost PP Gl h res_law35_ModalRules (fun r h' => r = .ret (bool true) ∧ h' = h)) [(4, .ip (encT a)), (5, .ip (encT b)), (7, .ip (.agg [.sl 1 (S.map u64) c])), (8, .sl 2 (rolesL.map encRole) .full), (11, .ip (.agg [.sc (.string sImp), .sl 2 [encT a, encT b] .full]))] h := by
  refine AWp.go (a := cp10_law35_ModalRules) (b := tl11_law35_ModalRules) rfl ?_
  have hna : a.nodes ≤ 2 ^ 20 := by omega
  have hnb : b.nodes ≤ 2 ^ 20 := by omega
  have enci : encT (impT a b) = .agg [.sc (.string sImp), .sl 2 [encT a, encT b] .full] := rfl
  have encb : encT (boxT a) = .agg [.sc (.string sBox), .sl 2 [encT a] .full] := rfl
  have hokb : (boxT a).ok = true := by simp [boxT, nodeT, Tr.ok, Tr.okL, Cap.inb, hka.1]
  have hoki : (impT a b).ok = true := by simp [impT, nodeT, Tr.ok, Tr.okL, Cap.inb, hka.1, hkb.1]
  have hnbx : (boxT a).nodes ≤ 2 ^ 20 := by simp [boxT, nodeT, Tr.nodes, Tr.nodesL]; omega
  have hni : (impT a b).nodes ≤ 2 ^ 20 := by simp [impT, nodeT, Tr.nodes, Tr.nodesL]; omega
  simp -implicitDefEqProofs [cp10_law35_ModalRules, ann_law35_ModalRules, res_law35_ModalRules, encT_eq a, encT_eq b]
  refine callk (Valid_c S c rolesL .full a hS (by decide) ⟨hka.1, hna⟩) (by simp [encT_eq a, encT_eq b]) rfl ?_
  simp -implicitDefEqProofs [ansV]
  exact (mr11 S c a b hS hka hkb hr).weaken (le_of (by simp [dslot, encT_eq a, encT_eq b]))


theorem mr9 (S : List U) (c : Cap) (a b : Tr) {h : AHeap} (hS : S.length < 2 ^ 20) (hka : a.ok = true ∧ a.nodes ≤ 20) (hkb : b.ok = true ∧ b.nodes ≤ 20) (hr : rightF S = true)  : AWp ⟨PP, Gl, 215, ann_law35_ModalRules, h.length, none⟩ tl9_law35_ModalRules (retPost PP Gl h res_law35_ModalRules (fun r h' => r = .ret (bool true) ∧ h' = h)) [(4, .ip (encT a)), (5, .ip (encT b)), (7, .ip (.agg [.sl 1 (S.map u64) c])), (8, .sl 2 (rolesL.map encRole) .full), (11, .ip (.agg [.sc (.string sImp), .sl 2 [encT a, encT b] .full])), (13, bool true)] h := by
  refine AWp.go (a := cp9_law35_ModalRules) (b := tl10_law35_ModalRules) rfl ?_
  simp -implicitDefEqProofs [cp9_law35_ModalRules, ann_law35_ModalRules, res_law35_ModalRules, encT_eq a, encT_eq b]
  exact (mr10 S c a b hS hka hkb hr).weaken (le_of (by simp [dslot, encT_eq a, encT_eq b]))


theorem mr8 (S : List U) (c : Cap) (a b : Tr) {h : AHeap} (hS : S.length < 2 ^ 20) (hka : a.ok = true ∧ a.nodes ≤ 20) (hkb : b.ok = true ∧ b.nodes ≤ 20) (h4 : S.length ≤ 4) : AWp ⟨PP, Gl, 215, ann_law35_ModalRules, h.length, none⟩ tl8_law35_ModalRules (retPost PP Gl h res_law35_ModalRules (fun r h' => r = .ret (bool true) ∧ h' = h)) [(4, .ip (encT a)), (5, .ip (encT b)), (7, .ip (.agg [.sl 1 (S.map u64) c])), (8, .sl 2 (rolesL.map encRole) .full), (11, .ip (.agg [.sc (.string sImp), .sl 2 [encT a, encT b] .full])), (13, bool (FollowsF S rolesL [] kT).1), (16, i64 (FollowsF S rolesL [] kT).2.2.2)] h := by
  refine AWp.go (a := cp8_law35_ModalRules) (b := tl9_law35_ModalRules) rfl ?_
  cases hr : rightF S with
  | false =>
    rw [FollowsF_bad hr]
    simp -implicitDefEqProofs [cp8_law35_ModalRules, ann_law35_ModalRules, res_law35_ModalRules]
    refine callk awake_c rfl rfl ?_
    simp -implicitDefEqProofs
    exact retE (by simp [deferred, dslot]) rfl rfl rfl

  | true =>
    obtain ⟨he1, hv1⟩ := (law1 hr).resolve_right (by omega)
    rw [he1, hv1]
    simp -implicitDefEqProofs [cp8_law35_ModalRules, ann_law35_ModalRules, res_law35_ModalRules]
    exact (mr9 S c a b hS hka hkb hr).weaken (le_of (by simp [dslot, encT_eq a, encT_eq b]))
theorem mr7 (S : List U) (c : Cap) (a b : Tr) {h : AHeap} (hS : S.length < 2 ^ 20) (hka : a.ok = true ∧ a.nodes ≤ 20) (hkb : b.ok = true ∧ b.nodes ≤ 20) (h4 : S.length ≤ 4) : AWp ⟨PP, Gl, 215, ann_law35_ModalRules, h.length, none⟩ tl7_law35_ModalRules (retPost PP Gl h res_law35_ModalRules (fun r h' => r = .ret (bool true) ∧ h' = h)) [(4, .ip (encT a)), (5, .ip (encT b)), (7, .ip (.agg [.sl 1 (S.map u64) c])), (8, .sl 2 (rolesL.map encRole) .full), (11, .ip (.agg [.sc (.string sImp), .sl 2 [encT a, encT b] .full])), (12, .ip (rawT kT))] h := by
  refine AWp.go (a := cp7_law35_ModalRules) (b := tl8_law35_ModalRules) rfl ?_
  have rk : rawT kT = .agg [.sc (.string sImp), .sl 2 [rawT (boxT (impT pT qT)), rawT (impT (boxT pT) (boxT qT))] .full] := rfl
  simp -implicitDefEqProofs [cp7_law35_ModalRules, ann_law35_ModalRules, res_law35_ModalRules, rk]
  refine callk2 (Valid_c S c rolesL .full kT hS (by decide) ⟨by decide, by decide⟩) (.cons (.refl _) (.cons (.refl _) (.cons (raw_le (t := kT) (by decide)) .nil))) rfl ?_
  simp -implicitDefEqProofs [ansV]
  exact (mr8 S c a b hS hka hkb h4).weaken (le_of (by simp [dslot, encT_eq a, encT_eq b]))

theorem ModalRules_c (S : List U) (c : Cap) (a b : Tr) {h : AHeap} (hS : S.length < 2 ^ 20) (hka : a.ok = true ∧ a.nodes ≤ 2 ^ 20) (hkb : b.ok = true ∧ b.nodes ≤ 2 ^ 20) :
    AEx PP Gl 4 [.sl 1 (S.map u64) c, encT a, encT b] h (.ret (bool true)) h := by
  refine acalls_of_code Tryd.func4 body_law35_ModalRules comp_law35_ModalRules resc_law35_ModalRules (by simp) (by simp [dslot]) (show AWp ⟨PP, Gl, 215, ann_law35_ModalRules, h.length, none⟩ code_law35_ModalRules (retPost PP Gl h res_law35_ModalRules (fun r h' => r = .ret (bool true) ∧ h' = h)) (initEnv [.sl 1 (S.map u64) c, encT a, encT b]) h from ?_)
  refine AWp.go (a := cp0_law35_ModalRules) (b := tl1_law35_ModalRules) rfl ?_
  simp -implicitDefEqProofs [cp0_law35_ModalRules, ann_law35_ModalRules, res_law35_ModalRules, encT_eq a, encT_eq b]
  refine AWp.go (a := cp1_law35_ModalRules) (b := tl2_law35_ModalRules) rfl ?_
  simp -implicitDefEqProofs [cp1_law35_ModalRules, encT_eq a, encT_eq b]
  refine AWp.keep [0, 4, 5, 7] (le_of (by simp [dslot])) ?_
  refine AWp.go (a := cp2_law35_ModalRules) (b := tl3_law35_ModalRules) rfl ?_
  by_cases h4 : (4 : Int) < S.length
  · simp -implicitDefEqProofs [cp2_law35_ModalRules, res_law35_ModalRules, h4]
    refine callk awake_c rfl rfl ?_
    simp -implicitDefEqProofs
    exact retE (by simp [deferred, dslot]) rfl rfl rfl

  simp -implicitDefEqProofs [cp2_law35_ModalRules, res_law35_ModalRules, h4]
  refine callk (Nodes_c a 20 (by omega) (by omega) (by omega)) (by simp [encT_eq a, encT_eq b]) rfl ?_
  by_cases ha20 : 20 < cntR a 20
  · simp -implicitDefEqProofs [ha20]
    refine callk awake_c rfl rfl ?_
    simp -implicitDefEqProofs
    exact retE (by simp [deferred, dslot]) rfl rfl rfl

  simp -implicitDefEqProofs [ha20]
  refine callk (Nodes_c b 20 (by omega) (by omega) (by omega)) (by simp [encT_eq a, encT_eq b]) rfl ?_
  by_cases hb20 : 20 < cntR b 20
  · simp -implicitDefEqProofs [hb20]
    refine callk awake_c rfl rfl ?_
    simp -implicitDefEqProofs
    exact retE (by simp [deferred, dslot]) rfl rfl rfl

  have h20a : a.nodes ≤ 20 := by have := cntR_ok a 20 (by omega); simp only [CntOk] at this; omega
  have h20b : b.nodes ≤ 20 := by have := cntR_ok b 20 (by omega); simp only [CntOk] at this; omega
  simp -implicitDefEqProofs [hb20]
  refine AWp.keep [4, 5, 7] (le_of (by simp [dslot])) ?_
  refine AWp.go (a := cp3_law35_ModalRules) (b := tl4_law35_ModalRules) rfl ?_
  simp -implicitDefEqProofs [cp3_law35_ModalRules]
  refine callk rolesL_c rfl rfl ?_
  simp -implicitDefEqProofs
  refine AWp.go (a := cp4_law35_ModalRules) (b := tl5_law35_ModalRules) rfl ?_
  simp -implicitDefEqProofs [cp4_law35_ModalRules]
  refine callk (tree_c sP 0 [] .nil) rfl rfl ?_
  simp -implicitDefEqProofs
  refine callk (tree_c sQ 0 [] .nil) rfl rfl ?_
  simp -implicitDefEqProofs
  refine AWp.go (a := cp5_law35_ModalRules) (b := tl6_law35_ModalRules) rfl ?_
  simp -implicitDefEqProofs [cp5_law35_ModalRules]
  refine callk (tree_c sImp 2 [encT a, encT b] .full) (by simp [encT_eq a, encT_eq b]; rfl) rfl ?_
  simp -implicitDefEqProofs
  refine AWp.keep [4, 5, 7, 8, 9, 10, 11] (le_of (by simp [dslot])) ?_
  refine AWp.go (a := cp6_law35_ModalRules) (b := tl7_law35_ModalRules) rfl ?_
  simp -implicitDefEqProofs [cp6_law35_ModalRules]
  refine callk (tree_c sImp 2 [rawT pT, rawT qT] .full) rfl rfl ?_
  simp -implicitDefEqProofs
  refine callk (tree_c sBox 2 [rawT (impT pT qT)] .full) rfl rfl ?_
  simp -implicitDefEqProofs
  refine callk (tree_c sBox 2 [rawT pT] .full) rfl rfl ?_
  simp -implicitDefEqProofs
  refine callk (tree_c sBox 2 [rawT qT] .full) rfl rfl ?_
  simp -implicitDefEqProofs
  refine callk (tree_c sImp 2 [rawT (boxT pT), rawT (boxT qT)] .full) rfl rfl ?_
  simp -implicitDefEqProofs
  refine callk (tree_c sImp 2 [rawT (boxT (impT pT qT)), rawT (impT (boxT pT) (boxT qT))] .full) rfl rfl ?_
  simp -implicitDefEqProofs
  exact (mr7 S c a b hS ⟨hka.1, h20a⟩ ⟨hkb.1, h20b⟩ (by omega)).weaken (le_of (by simp [dslot, encT_eq a, encT_eq b]; rfl))
end Go.Apx
