/- Walk: the law ModalGenerated, stage by stage. -/
import Derived.Test.YtbijnfhclfimeaaDoorK8
import Derived.Test.YtbijnfhclfimeaaDoorK6
import Derived.Test.YtbijnfhclfimeaaDoorL3
import Derived.Test.YtbijnfhclfimeaaDoorAmD
import Derived.Test.YtbijnfhclfimeaaDoorF5
namespace Go.Apx
open Go.Proofs
set_option linter.unusedVariables false
set_option linter.unusedSimpArgs false
set_option linter.unnecessarySimpa false
set_option maxRecDepth 4000

theorem mg18 (S : List U) (c : Cap) (t : Tr) (x : Nat) (P Q : U) {h : AHeap} (hS : S.length ≤ 4) (hk : t.ok = true ∧ t.nodes ≤ 20) (hr : rightF S = true) (hx : x < S.length) (hP : within S.length P) (hQ : within S.length Q) (Y Z : U) : AWp ⟨PP, Gl, 209, ann_law35_ModalGenerated, h.length, none⟩ tl18_law35_ModalGenerated (retPost PP Gl h res_law35_ModalGenerated (fun r h' => r = .ret (bool true) ∧ h' = h)) [] (h ++ [.cells 0 [.sc (.string sP), u64 Y, .sc (.string sQ), u64 Z]]) := by
  refine AWp.go (a := cp18_law35_ModalGenerated) (b := tl19_law35_ModalGenerated) rfl ?_
  simp -implicitDefEqProofs [cp18_law35_ModalGenerated, ann_law35_ModalGenerated, res_law35_ModalGenerated]
  refine callk awake_c rfl rfl ?_
  simp -implicitDefEqProofs
  refine codeWp_sound mixed ?_
  simp -implicitDefEqProofs [tl19_law35_ModalGenerated, res_law35_ModalGenerated]
  exact retD (v := bool true) (by simp [deferred, dslot]) (by simp [evalRes, evalRes1]) (by simp [AV.strip, AV.inb]) (by simp [AV.strip]) rfl

theorem mg17 (S : List U) (c : Cap) (t : Tr) (x : Nat) (P Q : U) {h : AHeap} (hS : S.length ≤ 4) (hk : t.ok = true ∧ t.nodes ≤ 20) (hr : rightF S = true) (hx : x < S.length) (hP : within S.length P) (hQ : within S.length Q) (Y Z : U) (he : (FollowsF S rolesL [] t).2.2.2 = 0) : AWp ⟨PP, Gl, 209, ann_law35_ModalGenerated, h.length, none⟩ tl17_law35_ModalGenerated (retPost PP Gl h res_law35_ModalGenerated (fun r h' => r = .ret (bool true) ∧ h' = h)) [(0, .sl 1 (S.map u64) c), (6, .ip (encT t)), (11, .ip (.agg [.sl 1 (S.map u64) c])), (12, .sl 2 (rolesL.map encRole) .full), (25, bool (FollowsF S rolesL [] t).1), (26, grown 2 ((FollowsF S rolesL [] t).2.1.map encM)), (27, i64 (FollowsF S rolesL [] t).2.2.1)] (h ++ [.cells 0 [.sc (.string sP), u64 Y, .sc (.string sQ), u64 Z]]) := by
  refine AWp.go (a := cp17_law35_ModalGenerated) (b := tl18_law35_ModalGenerated) rfl ?_
  have hn : S.length ≤ 6 := by omega
  have hnt : t.nodes ≤ 2 ^ 20 := by omega
  have next := mg18 (h := h) S c t x P Q hS hk hr hx hP hQ Y Z
  have hlen := FollowsF_len S rolesL [] t
  have hcnt := counter hr he
  obtain ⟨A, hA⟩ : ∃ A, A = FollowsF S rolesL [] t := ⟨_, rfl⟩
  rw [← hA] at hlen hcnt ⊢
  cases h1 : A.1 with
  | true =>
    simp -implicitDefEqProofs [cp17_law35_ModalGenerated, ann_law35_ModalGenerated, res_law35_ModalGenerated, encT_eq t, h1]
    exact next.weaken (le_of (by simp [dslot]))
  | false =>
    obtain ⟨s, hs, w, hw, hwl, hb⟩ := hcnt h1
    have hwm : w % 18446744073709551616 = w := by omega
    have hwl' : (w : Int) < S.length := by omega
    simp -implicitDefEqProofs [cp17_law35_ModalGenerated, ann_law35_ModalGenerated, res_law35_ModalGenerated, encT_eq t, h1]
    refine callk2 (HoldsM_c S c rolesL .full A.2.1 (if A.2.1.map encM = [] then .nil else .any) t (by omega) (by decide) (by omega) ⟨hk.1, hnt⟩) (.cons (.refl _) (.cons (.refl _) (.cons (grown_le _ _) (by rw [encT_eq t]; exact .refl _)))) rfl ?_
    rw [hs, hw]
    simp -implicitDefEqProofs [holdsV, hwm, hb, hwl']
    refine callk awake_c rfl rfl ?_
    simp -implicitDefEqProofs
    exact retD (v := bool true) (by simp [deferred, dslot]) (by simp [evalRes, evalRes1]) (by simp [AV.strip, AV.inb]) (by simp [AV.strip]) rfl


theorem mg16 (S : List U) (c : Cap) (t : Tr) (x : Nat) (P Q : U) {h : AHeap} (hS : S.length ≤ 4) (hk : t.ok = true ∧ t.nodes ≤ 20) (hr : rightF S = true) (hx : x < S.length) (hP : within S.length P) (hQ : within S.length Q) (Y Z : U) (he : (FollowsF S rolesL [] t).2.2.2 = 0) : AWp ⟨PP, Gl, 209, ann_law35_ModalGenerated, h.length, none⟩ tl16_law35_ModalGenerated (retPost PP Gl h res_law35_ModalGenerated (fun r h' => r = .ret (bool true) ∧ h' = h)) [(0, .sl 1 (S.map u64) c), (6, .ip (encT t)), (11, .ip (.agg [.sl 1 (S.map u64) c])), (12, .sl 2 (rolesL.map encRole) .full), (13, .ip (.agg [.sl 1 ((genS S x).map u64) .any])), (25, bool (FollowsF S rolesL [] t).1), (26, grown 2 ((FollowsF S rolesL [] t).2.1.map encM)), (27, i64 (FollowsF S rolesL [] t).2.2.1)] (h ++ [.cells 0 [.sc (.string sP), u64 Y, .sc (.string sQ), u64 Z]]) := by
  refine AWp.go (a := cp16_law35_ModalGenerated) (b := tl17_law35_ModalGenerated) rfl ?_
  have hn : S.length ≤ 6 := by omega
  have hnt : t.nodes ≤ 2 ^ 20 := by omega
  have next := mg17 (h := h) S c t x P Q hS hk hr hx hP hQ Y Z he
  have hgl : (genS S x).length ≤ 6 := by rw [genS_len]; exact genW_len hn
  obtain ⟨hv1, hv2⟩ := gen_valid hr hx he
  obtain ⟨A, hA⟩ : ∃ A, A = FollowsF S rolesL [] t := ⟨_, rfl⟩
  rw [← hA] at hv2 next ⊢
  simp -implicitDefEqProofs [cp16_law35_ModalGenerated, ann_law35_ModalGenerated, res_law35_ModalGenerated, encT_eq t]
  refine callk (Valid_c (genS S x) .any rolesL .full t (by omega) (by decide) ⟨hk.1, hnt⟩) (by simp [encT_eq t]) rfl ?_
  obtain ⟨B, hB⟩ : ∃ B, B = FollowsF (genS S x) rolesL [] t := ⟨_, rfl⟩
  rw [← hB] at hv1 hv2 ⊢
  cases h1 : A.1 with
  | true =>
    have hv3 := hv2 h1
    rw [h1] at next
    simp -implicitDefEqProofs [ansV, hv1, hv3]
    exact next.weaken (le_of (by simp [dslot, encT_eq t]))
  | false =>
    rw [h1] at next
    simp -implicitDefEqProofs [ansV]
    exact next.weaken (le_of (by simp [dslot, encT_eq t]))


theorem mg15 (S : List U) (c : Cap) (t : Tr) (x : Nat) (P Q : U) {h : AHeap} (hS : S.length ≤ 4) (hk : t.ok = true ∧ t.nodes ≤ 20) (hr : rightF S = true) (hx : x < S.length) (hP : within S.length P) (hQ : within S.length Q) (Y Z : U)  : AWp ⟨PP, Gl, 209, ann_law35_ModalGenerated, h.length, none⟩ tl15_law35_ModalGenerated (retPost PP Gl h res_law35_ModalGenerated (fun r h' => r = .ret (bool true) ∧ h' = h)) [(0, .sl 1 (S.map u64) c), (6, .ip (encT t)), (11, .ip (.agg [.sl 1 (S.map u64) c])), (12, .sl 2 (rolesL.map encRole) .full), (13, .ip (.agg [.sl 1 ((genS S x).map u64) .any])), (25, bool (FollowsF S rolesL [] t).1), (26, grown 2 ((FollowsF S rolesL [] t).2.1.map encM)), (27, i64 (FollowsF S rolesL [] t).2.2.1), (15, i64 (FollowsF S rolesL [] t).2.2.2)] (h ++ [.cells 0 [.sc (.string sP), u64 Y, .sc (.string sQ), u64 Z]]) := by
  refine AWp.go (a := cp15_law35_ModalGenerated) (b := tl16_law35_ModalGenerated) rfl ?_
  by_cases he : (FollowsF S rolesL [] t).2.2.2 = 0
  rotate_left
  · simp -implicitDefEqProofs [cp15_law35_ModalGenerated, ann_law35_ModalGenerated, res_law35_ModalGenerated, he]
    refine callk awake_c rfl rfl ?_
    simp -implicitDefEqProofs
    exact retD (v := bool true) (by simp [deferred, dslot]) (by simp [evalRes, evalRes1]) (by simp [AV.strip, AV.inb]) (by simp [AV.strip]) rfl

  simp -implicitDefEqProofs [cp15_law35_ModalGenerated, ann_law35_ModalGenerated, res_law35_ModalGenerated, he]
  exact (mg16 S c t x P Q hS hk hr hx hP hQ Y Z he).weaken (le_of (by simp [dslot, encT_eq t]))


theorem mg14 (S : List U) (c : Cap) (t : Tr) (x : Nat) (P Q : U) {h : AHeap} (hS : S.length ≤ 4) (hk : t.ok = true ∧ t.nodes ≤ 20) (hr : rightF S = true) (hx : x < S.length) (hP : within S.length P) (hQ : within S.length Q) (Y Z : U)  : AWp ⟨PP, Gl, 209, ann_law35_ModalGenerated, h.length, none⟩ tl14_law35_ModalGenerated (retPost PP Gl h res_law35_ModalGenerated (fun r h' => r = .ret (bool true) ∧ h' = h)) [(0, .sl 1 (S.map u64) c), (6, .ip (encT t)), (11, .ip (.agg [.sl 1 (S.map u64) c])), (12, .sl 2 (rolesL.map encRole) .full), (13, .ip (.agg [.sl 1 ((genS S x).map u64) .any]))] (h ++ [.cells 0 [.sc (.string sP), u64 Y, .sc (.string sQ), u64 Z]]) := by
  refine AWp.go (a := cp14_law35_ModalGenerated) (b := tl15_law35_ModalGenerated) rfl ?_
  have hn : S.length ≤ 6 := by omega
  have hnt : t.nodes ≤ 2 ^ 20 := by omega
  simp -implicitDefEqProofs [cp14_law35_ModalGenerated, ann_law35_ModalGenerated, res_law35_ModalGenerated, encT_eq t]
  refine callk (Valid_c S c rolesL .full t (by omega) (by decide) ⟨hk.1, hnt⟩) (by simp [encT_eq t]) rfl ?_
  simp -implicitDefEqProofs [ansV]
  exact (mg15 S c t x P Q hS hk hr hx hP hQ Y Z ).weaken (le_of (by simp [dslot, encT_eq t]))


theorem mg13 (S : List U) (c : Cap) (t : Tr) (x : Nat) (P Q : U) {h : AHeap} (hS : S.length ≤ 4) (hk : t.ok = true ∧ t.nodes ≤ 20) (hr : rightF S = true) (hx : x < S.length) (hP : within S.length P) (hQ : within S.length Q) (Y Z : U)  : AWp ⟨PP, Gl, 209, ann_law35_ModalGenerated, h.length, none⟩ tl13_law35_ModalGenerated (retPost PP Gl h res_law35_ModalGenerated (fun r h' => r = .ret (bool true) ∧ h' = h)) [(0, .sl 1 (S.map u64) c), (6, .ip (encT t)), (11, .ip (.agg [.sl 1 (S.map u64) c])), (12, .sl 2 (rolesL.map encRole) .full), (13, .ip (.agg [.sl 1 ((genS S x).map u64) .any])), (14, .sl 1 ((genW S x).map iw) .any), (15, i64 (errH t)), (21, u64 (if errH t = 0 then holdsF S m0 (mdl P Q) t else 0#64)), (22, u64 (if errH t = 0 then holdsF (genS S x) m0 (mdl (cutF P (genW S x) 0 0#64) (cutF Q (genW S x) 0 0#64)) t else 0#64))] (h ++ [.cells 0 [.sc (.string sP), u64 Y, .sc (.string sQ), u64 Z]]) := by
  refine AWp.go (a := cp13_law35_ModalGenerated) (b := tl14_law35_ModalGenerated) rfl ?_
  have hn : S.length ≤ 6 := by omega
  have hnt : t.nodes ≤ 2 ^ 20 := by omega
  have next := mg14 (h := h) S c t x P Q hS hk hr hx hP hQ Y Z
  have hWl := genW_len (S := S) (x := x) hn
  obtain ⟨W, hW⟩ : ∃ W, W = genW S x := ⟨_, rfl⟩
  by_cases he : errH t = 0
  · have hgh := fun (i w : Nat) (hi : (genW S x)[i]? = some w) => gen_holds hr hx hP hQ he hi
    rw [if_pos he, if_pos he, he]
    obtain ⟨a, ha⟩ : ∃ a, a = holdsF S m0 (mdl P Q) t := ⟨_, rfl⟩
    obtain ⟨b', hb⟩ : ∃ b', b' = holdsF (genS S x) m0 (mdl (cutF P (genW S x) 0 0#64) (cutF Q (genW S x) 0 0#64)) t := ⟨_, rfl⟩
    rw [← ha, ← hb] at hgh ⊢
    rw [← hW] at hgh hWl ⊢
    simp -implicitDefEqProofs [cp13_law35_ModalGenerated, ann_law35_ModalGenerated, res_law35_ModalGenerated, encT_eq t]
    refine AWp.cnt W.length [0, 6, 11, 12, 13, 14, 15, 21, 22] (fun i => [(24, i64 i)]) (fun _ => (h ++ [.cells 0 [.sc (.string sP), u64 Y, .sc (.string sQ), u64 Z]])) (fun _ => True) mixed trivial (le_of (by simp [dslot])) rfl ?_ ?_
    · intro i hi _
      obtain ⟨w, hw⟩ : ∃ w, W[i]? = some w := ⟨W[i], by simp [hi]⟩
      have hlt : (i : Int) < W.length := by omega
      have hwl : w < S.length := by rw [hW, genW, worldsL] at hw; have := List.mem_of_getElem? hw; rw [List.mem_filter] at this; exact List.mem_range.1 this.1
      have hwm : w % 18446744073709551616 = w := by omega
      have him : i % 18446744073709551616 = i := by omega
      have heq : (a >>> w) &&& 1#64 = (b' >>> i) &&& 1#64 := by rw [and_one_bit, and_one_bit, hgh i w hw]
      simp -implicitDefEqProofs [lp2_law35_ModalGenerated, hlt, hw, iw, hwm, him, heq]
      rw [IntWalk.i64_in ((i : Int) + 1) (by omega)]
      exact le_of (by simp [dslot])
    · intro _
      simp -implicitDefEqProofs [lp2_law35_ModalGenerated]
      exact next.weaken (le_of (by simp [dslot, encT_eq t]))
  · simp -implicitDefEqProofs [cp13_law35_ModalGenerated, ann_law35_ModalGenerated, res_law35_ModalGenerated, encT_eq t]
    refine AWp.cnt 0 [0, 6, 11, 12, 13, 14, 15, 21, 22] (fun i => [(24, i64 0)]) (fun _ => (h ++ [.cells 0 [.sc (.string sP), u64 Y, .sc (.string sQ), u64 Z]])) (fun _ => True) mixed trivial (le_of (by simp [dslot])) rfl ?_ ?_
    · intro i hi _; omega
    · intro _
      simp -implicitDefEqProofs [lp2_law35_ModalGenerated, he]
      exact next.weaken (le_of (by simp [dslot, encT_eq t]))


theorem mg12 (S : List U) (c : Cap) (t : Tr) (x : Nat) (P Q : U) {h : AHeap} (hS : S.length ≤ 4) (hk : t.ok = true ∧ t.nodes ≤ 20) (hr : rightF S = true) (hx : x < S.length) (hP : within S.length P) (hQ : within S.length Q) (Y Z : U)  : AWp ⟨PP, Gl, 209, ann_law35_ModalGenerated, h.length, none⟩ tl12_law35_ModalGenerated (retPost PP Gl h res_law35_ModalGenerated (fun r h' => r = .ret (bool true) ∧ h' = h)) [(0, .sl 1 (S.map u64) c), (6, .ip (encT t)), (11, .ip (.agg [.sl 1 (S.map u64) c])), (12, .sl 2 (rolesL.map encRole) .full), (13, .ip (.agg [.sl 1 ((genS S x).map u64) .any])), (14, .sl 1 ((genW S x).map iw) .any), (15, i64 (errH t)), (23, i64 (errH t)), (21, u64 (if errH t = 0 then holdsF S m0 (mdl P Q) t else 0#64)), (22, u64 (if errH t = 0 then holdsF (genS S x) m0 (mdl (cutF P (genW S x) 0 0#64) (cutF Q (genW S x) 0 0#64)) t else 0#64))] (h ++ [.cells 0 [.sc (.string sP), u64 Y, .sc (.string sQ), u64 Z]]) := by
  refine AWp.go (a := cp12_law35_ModalGenerated) (b := tl13_law35_ModalGenerated) rfl ?_
  have next := mg13 (h := h) S c t x P Q hS hk hr hx hP hQ Y Z
  obtain ⟨a, ha⟩ : ∃ a, a = (if errH t = 0 then holdsF S m0 (mdl P Q) t else 0#64) := ⟨_, rfl⟩
  obtain ⟨b', hb⟩ : ∃ b', b' = (if errH t = 0 then holdsF (genS S x) m0 (mdl (cutF P (genW S x) 0 0#64) (cutF Q (genW S x) 0 0#64)) t else 0#64) := ⟨_, rfl⟩
  rw [← ha, ← hb] at next ⊢
  simp -implicitDefEqProofs [cp12_law35_ModalGenerated, ann_law35_ModalGenerated, res_law35_ModalGenerated, encT_eq t]
  exact next.weaken (le_of (by simp [dslot, encT_eq t]))


theorem mg11 (S : List U) (c : Cap) (t : Tr) (x : Nat) (P Q : U) {h : AHeap} (hS : S.length ≤ 4) (hk : t.ok = true ∧ t.nodes ≤ 20) (hr : rightF S = true) (hx : x < S.length) (hP : within S.length P) (hQ : within S.length Q)   : AWp ⟨PP, Gl, 209, ann_law35_ModalGenerated, h.length, none⟩ tl11_law35_ModalGenerated (retPost PP Gl h res_law35_ModalGenerated (fun r h' => r = .ret (bool true) ∧ h' = h)) [(0, .sl 1 (S.map u64) c), (6, .ip (encT t)), (11, .ip (.agg [.sl 1 (S.map u64) c])), (12, .sl 2 (rolesL.map encRole) .full), (13, .ip (.agg [.sl 1 ((genS S x).map u64) .any])), (14, .sl 1 ((genW S x).map iw) .any), (18, .rf h.length 0 0 2 true), (15, i64 (errH t)), (21, u64 (if errH t = 0 then holdsF S m0 (mdl P Q) t else 0#64))] (h ++ [.cells 0 [.sc (.string sP), u64 (cutF P (genW S x) 0 0#64), .sc (.string sQ), u64 (cutF Q (genW S x) 0 0#64)]]) := by
  refine AWp.go (a := cp11_law35_ModalGenerated) (b := tl12_law35_ModalGenerated) rfl ?_
  have hn : S.length ≤ 6 := by omega
  have hnt : t.nodes ≤ 2 ^ 20 := by omega
  have next := mg12 (h := h) S c t x P Q hS hk hr hx hP hQ (cutF P (genW S x) 0 0#64) (cutF Q (genW S x) 0 0#64)
  obtain ⟨a, ha⟩ : ∃ a, a = (if errH t = 0 then holdsF S m0 (mdl P Q) t else 0#64) := ⟨_, rfl⟩
  rw [← ha] at next ⊢
  have hgl : (genS S x).length ≤ 6 := by rw [genS_len]; exact genW_len hn
  have hgr := gen_right (S := S) hn hx
  have hw1 : within (genS S x).length (cutF P (genW S x) 0 0#64) := by rw [genS_len]; exact cutF_within (genW_len hn)
  have hw2 : within (genS S x).length (cutF Q (genW S x) 0 0#64) := by rw [genS_len]; exact cutF_within (genW_len hn)
  have hc := HoldsM_c (genS S x) .any rolesL .full (mdl (cutF P (genW S x) 0 0#64) (cutF Q (genW S x) 0 0#64)) .any t (h := []) (by omega) (by decide) (by simp [mdl]) ⟨hk.1, hnt⟩
  rw [HoldsF_mdl hgr hw1 hw2] at hc
  obtain ⟨y, hy⟩ : ∃ y, y = cutF P (genW S x) 0 0#64 := ⟨_, rfl⟩
  obtain ⟨z, hz⟩ : ∃ z, z = cutF Q (genW S x) 0 0#64 := ⟨_, rfl⟩
  rw [← hy, ← hz] at hc next ⊢
  have hlen := lend (h := h ++ [.cells 0 [.sc (.string sP), u64 y, .sc (.string sQ), u64 z]]) (us := [.agg [.sl 1 ((genS S x).map u64) .any], .sl 2 (rolesL.map encRole) .full, .rf h.length 0 0 2 true, encT t]) hc rfl
    (.cons (lend_same (by simp [AV.inb, inbL, Cap.inb, inbL_enc u64 _ (fun _ => rfl)])) (.cons (lend_same (by simp [AV.inb, Cap.inb, inbL_enc encRole _ (fun _ => rfl)])) (.cons (lend_rf (es := (mdl y z).map encM) (by simp [mdl, encM, AV.cells]) (by simp [mdl]) (by decide) (by simp [mdl, encM, AV.cells]) (by simp [mdl, encM, AV.cells]) (by simp [mdl, encM, AV.cells, AV.inb])) (.cons (lend_same (encT_inb 0 t hk.1)) .nil))))
  simp -implicitDefEqProofs [cp11_law35_ModalGenerated, ann_law35_ModalGenerated, res_law35_ModalGenerated, encT_eq t]
  refine callk hlen (by simp [encT_eq t]) rfl ?_
  simp -implicitDefEqProofs [holdsV]
  exact next.weaken (le_of (by simp [dslot, encT_eq t]))


theorem mg10 (S : List U) (c : Cap) (t : Tr) (x : Nat) (P Q : U) {h : AHeap} (hS : S.length ≤ 4) (hk : t.ok = true ∧ t.nodes ≤ 20) (hr : rightF S = true) (hx : x < S.length) (hP : within S.length P) (hQ : within S.length Q)   : AWp ⟨PP, Gl, 209, ann_law35_ModalGenerated, h.length, none⟩ tl10_law35_ModalGenerated (retPost PP Gl h res_law35_ModalGenerated (fun r h' => r = .ret (bool true) ∧ h' = h)) [(0, .sl 1 (S.map u64) c), (6, .ip (encT t)), (11, .ip (.agg [.sl 1 (S.map u64) c])), (12, .sl 2 (rolesL.map encRole) .full), (13, .ip (.agg [.sl 1 ((genS S x).map u64) .any])), (14, .sl 1 ((genW S x).map iw) .any), (17, .sl 2 ((mdl P Q).map encM) .full), (18, .rf h.length 0 0 2 true)] (h ++ [.cells 0 [.sc (.string sP), u64 (cutF P (genW S x) 0 0#64), .sc (.string sQ), u64 (cutF Q (genW S x) 0 0#64)]]) := by
  refine AWp.go (a := cp10_law35_ModalGenerated) (b := tl11_law35_ModalGenerated) rfl ?_
  have hn : S.length ≤ 6 := by omega
  have hnt : t.nodes ≤ 2 ^ 20 := by omega
  have next := mg11 (h := h) S c t x P Q hS hk hr hx hP hQ
  have hc := HoldsM_c S c rolesL .full (mdl P Q) .full t (h := (h ++ [.cells 0 [.sc (.string sP), u64 (cutF P (genW S x) 0 0#64), .sc (.string sQ), u64 (cutF Q (genW S x) 0 0#64)]])) (by omega) (by decide) (by simp [mdl]) ⟨hk.1, hnt⟩
  rw [HoldsF_mdl hr hP hQ] at hc
  obtain ⟨y, hy⟩ : ∃ y, y = cutF P (genW S x) 0 0#64 := ⟨_, rfl⟩
  obtain ⟨z, hz⟩ : ∃ z, z = cutF Q (genW S x) 0 0#64 := ⟨_, rfl⟩
  rw [← hy, ← hz] at hc next ⊢
  simp -implicitDefEqProofs [cp10_law35_ModalGenerated, ann_law35_ModalGenerated, res_law35_ModalGenerated, encT_eq t]
  refine callk hc (by simp [encT_eq t]) rfl ?_
  simp -implicitDefEqProofs [holdsV]
  exact next.weaken (le_of (by simp [dslot, encT_eq t]))


theorem mg9 (S : List U) (c : Cap) (t : Tr) (x : Nat) (P Q : U) {h : AHeap} (hS : S.length ≤ 4) (hk : t.ok = true ∧ t.nodes ≤ 20) (hr : rightF S = true) (hx : x < S.length) (hP : within S.length P) (hQ : within S.length Q)   : AWp ⟨PP, Gl, 209, ann_law35_ModalGenerated, h.length, none⟩ tl9_law35_ModalGenerated (retPost PP Gl h res_law35_ModalGenerated (fun r h' => r = .ret (bool true) ∧ h' = h)) [(0, .sl 1 (S.map u64) c), (6, .ip (encT t)), (11, .ip (.agg [.sl 1 (S.map u64) c])), (12, .sl 2 (rolesL.map encRole) .full), (13, .ip (.agg [.sl 1 ((genS S x).map u64) .any])), (14, .sl 1 ((genW S x).map iw) .any), (17, .sl 2 ((mdl P Q).map encM) .full), (18, .rf h.length 0 0 2 true)] (h ++ [.cells 0 [.sc (.string sP), u64 0#64, .sc (.string sQ), u64 0#64]]) := by
  refine AWp.go (a := cp9_law35_ModalGenerated) (b := tl10_law35_ModalGenerated) rfl ?_
  have hn : S.length ≤ 6 := by omega
  have hnt : t.nodes ≤ 2 ^ 20 := by omega
  have next := mg10 (h := h) S c t x P Q hS hk hr hx hP hQ
  have hWl := genW_len (S := S) (x := x) hn
  have hWm : ∀ v ∈ genW S x, v < S.length := by
    intro v hv
    rw [genW, worldsL, List.mem_filter] at hv
    exact List.mem_range.1 hv.1
  obtain ⟨W, hW⟩ : ∃ W, W = genW S x := ⟨_, rfl⟩
  rw [← hW] at hWl hWm next ⊢
  simp -implicitDefEqProofs [cp9_law35_ModalGenerated, ann_law35_ModalGenerated, res_law35_ModalGenerated, encT_eq t]
  refine AWp.cnt W.length [0, 6, 11, 12, 13, 14, 17, 18] (fun i => [(19, i64 i)]) (fun i => h ++ [.cells 0 [.sc (.string sP), u64 (cutF P (W.take i) 0 0#64), .sc (.string sQ), u64 (cutF Q (W.take i) 0 0#64)]]) (fun _ => True) mixed trivial (le_of (by simp [dslot])) (by simp [cutF]) ?_ ?_
  · intro i hi _
    obtain ⟨v, hv⟩ : ∃ v, W[i]? = some v := ⟨W[i], by simp [hi]⟩
    have hlt : (i : Int) < W.length := by omega
    have hvl := hWm v (List.mem_of_getElem? hv)
    have hvm : v % 18446744073709551616 = v := by omega
    have him : i % 18446744073709551616 = i := by omega
    have hg1 := cutF_get P 0#64 hv
    have hg2 := cutF_get Q 0#64 hv
    simp -implicitDefEqProofs [lp0_law35_ModalGenerated, hlt]
    refine AWp.cnt 2 [0, 6, 11, 12, 13, 14, 17, 18, 19] (fun k => [(20, i64 k)]) (fun k => h ++ [.cells 0 [.sc (.string sP), u64 (if k = 0 then cutF P (W.take i) 0 0#64 else cutF P (W.take (i + 1)) 0 0#64), .sc (.string sQ), u64 (if k = 2 then cutF Q (W.take (i + 1)) 0 0#64 else cutF Q (W.take i) 0 0#64)]]) (fun _ => True) mixed trivial (le_of (by simp [dslot])) (by simp) ?_ ?_
    · intro k hk _
      have : k = 0 ∨ k = 1 := by omega
      rcases this with rfl | rfl
      · simp -implicitDefEqProofs [lp1_law35_ModalGenerated, hv, iw, hvm, him, mdl, encM]
        exact ⟨le_of (by simp [dslot]), by rw [hg1]⟩
      · simp -implicitDefEqProofs [lp1_law35_ModalGenerated, hv, iw, hvm, him, mdl, encM]
        exact ⟨le_of (by simp [dslot]), by rw [hg2]⟩
    · intro _
      simp -implicitDefEqProofs [lp1_law35_ModalGenerated]
      rw [IntWalk.i64_in ((i : Int) + 1) (by omega)]
      exact le_of (by simp [dslot])
  · intro _
    simp -implicitDefEqProofs [lp0_law35_ModalGenerated]
    exact next.weaken (le_of (by simp [dslot, encT_eq t]))


theorem ModalGenerated_c (S : List U) (c : Cap) (t : Tr) (w : Int) (p q : U) {h : AHeap} (hS : S.length < 2 ^ 20) (hk : t.ok = true ∧ t.nodes ≤ 2 ^ 20) :
    AEx PP Gl 7 [.sl 1 (S.map u64) c, encT t, .sc (.int .i64 w), u64 p, u64 q] h (.ret (bool true)) h := by
  refine acalls_of_code Tryd.func7 body_law35_ModalGenerated comp_law35_ModalGenerated resc_law35_ModalGenerated (by simp) (by simp [dslot]) (show AWp ⟨PP, Gl, 209, ann_law35_ModalGenerated, h.length, none⟩ code_law35_ModalGenerated (retPost PP Gl h res_law35_ModalGenerated (fun r h' => r = .ret (bool true) ∧ h' = h)) (initEnv [.sl 1 (S.map u64) c, encT t, .sc (.int .i64 w), u64 p, u64 q]) h from ?_)
  refine AWp.go (a := cp0_law35_ModalGenerated) (b := tl1_law35_ModalGenerated) rfl ?_
  simp -implicitDefEqProofs [cp0_law35_ModalGenerated, ann_law35_ModalGenerated, res_law35_ModalGenerated, encT_eq t]
  refine AWp.go (a := cp1_law35_ModalGenerated) (b := tl2_law35_ModalGenerated) rfl ?_
  simp -implicitDefEqProofs [cp1_law35_ModalGenerated, encT_eq t]
  refine AWp.keep [0, 2, 3, 4, 6, 11] (le_of (by simp [dslot])) ?_
  refine AWp.go (a := cp2_law35_ModalGenerated) (b := tl3_law35_ModalGenerated) rfl ?_
  by_cases h4 : (4 : Int) < S.length
  · simp -implicitDefEqProofs [cp2_law35_ModalGenerated, res_law35_ModalGenerated, h4]
    refine callk awake_c rfl rfl ?_
    simp -implicitDefEqProofs
    exact retE (by simp [deferred, dslot]) rfl rfl rfl

  simp -implicitDefEqProofs [cp2_law35_ModalGenerated, res_law35_ModalGenerated, h4]
  refine callk (Nodes_c t 20 (by omega) (by omega) (by omega)) (by simp [encT_eq t]) rfl ?_
  by_cases ha20 : 20 < cntR t 20
  · simp -implicitDefEqProofs [ha20]
    refine callk awake_c rfl rfl ?_
    simp -implicitDefEqProofs
    exact retE (by simp [deferred, dslot]) rfl rfl rfl

  have h20 : t.nodes ≤ 20 := by have := cntR_ok t 20 (by omega); simp only [CntOk] at this; omega
  simp -implicitDefEqProofs [ha20]
  refine AWp.keep [0, 2, 3, 4, 6, 11] (le_of (by simp [dslot])) ?_
  refine AWp.go (a := cp3_law35_ModalGenerated) (b := tl4_law35_ModalGenerated) rfl ?_
  simp -implicitDefEqProofs [cp3_law35_ModalGenerated]
  refine callk rolesL_c rfl rfl ?_
  simp -implicitDefEqProofs
  refine AWp.go (a := cp4_law35_ModalGenerated) (b := tl5_law35_ModalGenerated) rfl ?_
  simp -implicitDefEqProofs [cp4_law35_ModalGenerated]
  refine callk (Generated_c S c w hS) (by simp) rfl ?_
  have bad : ∀ (g : List U) (l : List Nat) (e : Int), e ≠ 0 → GenF S w = (g, l, e) → True := fun _ _ _ _ _ => trivial
  by_cases hr : rightF S = true
  rotate_left
  · have hG : GenF S w = ([], [], 371) := by simp [GenF, hr]
    rw [hG]
    simp -implicitDefEqProofs [genV, grown]
    refine AWp.go (a := cp5_law35_ModalGenerated) (b := tl6_law35_ModalGenerated) rfl ?_
    simp -implicitDefEqProofs [cp5_law35_ModalGenerated, res_law35_ModalGenerated]
    refine callk awake_c rfl rfl ?_
    simp -implicitDefEqProofs
    exact retE (by simp [deferred, dslot]) rfl rfl rfl

  by_cases hw0 : w < 0 ∨ (S.length : Int) ≤ w
  · have hG : GenF S w = ([], [], 5) := by simp [GenF, hr, hw0]
    rw [hG]
    simp -implicitDefEqProofs [genV, grown]
    refine AWp.go (a := cp5_law35_ModalGenerated) (b := tl6_law35_ModalGenerated) rfl ?_
    simp -implicitDefEqProofs [cp5_law35_ModalGenerated, res_law35_ModalGenerated]
    refine callk awake_c rfl rfl ?_
    simp -implicitDefEqProofs
    exact retE (by simp [deferred, dslot]) rfl rfl rfl

  obtain ⟨x, rfl⟩ : ∃ x : Nat, w = x := ⟨w.toNat, by omega⟩
  have hx : x < S.length := by omega
  have hn : S.length ≤ 6 := by omega
  have hG : GenF S x = (genS S x, genW S x, 0) := by simp [GenF, hr]; omega
  have hWn : genW S x ≠ [] := by
    have : x ∈ genW S x := by
      rw [genW, worldsL, List.mem_filter]
      exact ⟨List.mem_range.2 hx, by show bit (genSet S x) x = true; rw [genSet, bit_or, bit_one (by omega)]; simp⟩
    intro e; rw [e] at this; simp at this
  have hTn : genS S x ≠ [] := by intro e; rw [genS, List.map_eq_nil_iff] at e; exact hWn e
  rw [hG]
  simp -implicitDefEqProofs [genV, grown, hWn, hTn]
  refine AWp.keep [0, 3, 4, 6, 11, 12, 13, 14, 15] (le_of (by simp [dslot])) ?_
  refine AWp.go (a := cp5_law35_ModalGenerated) (b := tl6_law35_ModalGenerated) rfl ?_
  simp -implicitDefEqProofs [cp5_law35_ModalGenerated, res_law35_ModalGenerated]
  refine AWp.go (a := cp6_law35_ModalGenerated) (b := tl7_law35_ModalGenerated) rfl ?_
  have hSm : S.length % 18446744073709551616 = S.length := by omega
  simp -implicitDefEqProofs [cp6_law35_ModalGenerated, hSm]
  refine AWp.go (a := cp7_law35_ModalGenerated) (b := tl8_law35_ModalGenerated) rfl ?_
  simp -implicitDefEqProofs [cp7_law35_ModalGenerated]
  refine AWp.keep [0, 6, 11, 12, 13, 14, 17] (le_of (by simp [dslot])) ?_
  refine AWp.go (a := cp8_law35_ModalGenerated) (b := tl9_law35_ModalGenerated) rfl ?_
  simp -implicitDefEqProofs [cp8_law35_ModalGenerated]
  have hP : within S.length (p &&& full S.length) := within_and' (within_full _ hn)
  have hQ : within S.length (q &&& full S.length) := within_and' (within_full _ hn)
  have fin := (mg9 S c t x (p &&& full S.length) (q &&& full S.length) (h := h) (by omega) ⟨hk.1, h20⟩ hr hx hP hQ)
  refine AWp.weaken fin (le_of ?_)
  simp [dslot, mdl, encM, encT_eq t]
  exact ⟨⟨rfl, rfl⟩, rfl, rfl⟩
end Go.Apx
