/- Walks: slices.Equal at strings and at pairs. -/
import Derived.Test.YtmgajcmigkcmdaaGreatDoorCode
import Derived.Test.YtmgajcmigkcmdaaGreatDoorAmC
import Derived.Test.YtmgajcmigkcmdaaGreatDoorNA
import Derived.Test.YtmgajcmigkcmdaaGreatDoorAw
section
namespace Go.Apx
open Go.Proofs
set_option linter.unusedVariables false
set_option linter.unusedSimpArgs false
set_option linter.unnecessarySimpa false
set_option maxRecDepth 4000
theorem take_ext {α : Type} {a b : List α} {i : Nat} {x y : α} (ha : a[i]? = some x) (hb : b[i]? = some y) : a.take (i + 1) = b.take (i + 1) ↔ a.take i = b.take i ∧ x = y:=by
 rw [List.take_add_one,List.take_add_one,ha,hb]
 have hl : (a.take i).length = (b.take i).length:=by
  have:=lt_of ha; have:=lt_of hb
  simp; omega
 constructor
 ·intro h
  have:=List.append_inj h hl
  exact ⟨this.1,by simpa using this.2⟩
 ·rintro ⟨h,rfl⟩; rw [h]
set_option maxHeartbeats 4000000 in
theorem eqS_c (a b : List ByteArray) (j1 j2 : Nat) (c1 c2 : Cap) (h1 : j1 = 1 ∨ a = []) (h2 : j2 = 1 ∨ b = []) (hl : a.length ≤ 2 ^ 31) {h : AHeap} :
  AEx PP Gl 12 [.sl j1 (a.map sv) c1,.sl j2 (b.map sv) c2] h (.ret (.sc (.bool (decide (a = b))))) h:=by
 refine enter_slices_Equal_string_string (by simp) ?_
 simp -implicitDefEqProofs [code_slices_Equal_string_string,res_slices_Equal_string_string,ann_slices_Equal_string_string]
 by_cases hlen : a.length = b.length
 case neg =>
  have hlen' : ¬ ((a.length : Int) = b.length):=by omega
  simp -implicitDefEqProofs [hlen,hlen']
  exact retE (by simp [deferred,dslot]) rfl (by rw [decide_eq_false (by rintro rfl; exact hlen rfl)]) rfl
 simp -implicitDefEqProofs [hlen]
 refine AWp.cnt b.length [0,1,12] (fun i=>[(13,i64 (i : Int))]) (fun _=>h) (fun i=>a.take i = b.take i) mixed (by simp) (le_of (by simp [dslot])) rfl ?_ ?_
 ·intro i hi hz
  obtain ⟨x,hx⟩ : ∃ x,a[i]? = some x:=⟨a[i],by simp [show i < a.length by omega]⟩
  obtain ⟨y,hy⟩ : ∃ y,b[i]? = some y:=⟨b[i],by simp [hi]⟩
  obtain rfl:=h1.resolve_right (by rintro rfl; simp at hx)
  obtain rfl:=h2.resolve_right (by rintro rfl; simp at hy)
  have hlt : (i : Int) < b.length:=by omega
  have wi : IntKind.i64.wrap ((i : Int) + 1) = (i : Int) + 1:=IntWalk.i64_in _ (by omega)
  have hiff:=take_ext hx hy
  by_cases e : x = y
  ·simp -implicitDefEqProofs [lp0_slices_Equal_string_string,hlt,hx,hy,e,wi]
   exact ⟨hiff.2 ⟨hz,e⟩,le_of (by simp [dslot])⟩
  ·simp -implicitDefEqProofs [lp0_slices_Equal_string_string,hlt,hx,hy,e,wi]
   refine retE (by simp [deferred,dslot]) rfl ?_ rfl
   rw [decide_eq_false (fun hab=>e (by rw [hab,hy] at hx; exact (Option.some.inj hx).symm))]
 ·intro hz
  have hab : a = b:=by rwa [← hlen,List.take_of_length_le (Nat.le_refl _),hlen,List.take_of_length_le (Nat.le_refl _)] at hz
  simp -implicitDefEqProofs [lp0_slices_Equal_string_string]
  exact retE (by simp [deferred,dslot]) rfl (by rw [decide_eq_true hab]) rfl
abbrev Pr:=ByteArray × ByteArray
def encP (p : Pr) : AV:=.agg [sv p.1,sv p.2]
@[simp] theorem isPend_encP (p : Pr) : (encP p).isPend = false:=rfl
@[simp] theorem cells_encP (p : Pr) : (encP p).cells = [sv p.1,sv p.2]:=rfl
theorem pur_encP (p : Pr) : (encP p).pur = true:=rfl
set_option maxHeartbeats 4000000 in
theorem eqP_c (a b : List Pr) (j1 j2 : Nat) (c1 c2 : Cap) (h1 : j1 = 2 ∨ a = []) (h2 : j2 = 2 ∨ b = []) (hl : a.length ≤ 2 ^ 31) {h : AHeap} :
  AEx PP Gl 25 [.sl j1 (a.map encP) c1,.sl j2 (b.map encP) c2] h (.ret (.sc (.bool (decide (a = b))))) h:=by
 refine enter_slices_Equal_api_Pair_api_Pair (by simp) ?_
 simp -implicitDefEqProofs [code_slices_Equal_api_Pair_api_Pair,res_slices_Equal_api_Pair_api_Pair,ann_slices_Equal_api_Pair_api_Pair]
 by_cases hlen : a.length = b.length
 case neg =>
  have hlen' : ¬ ((a.length : Int) = b.length):=by omega
  simp -implicitDefEqProofs [hlen,hlen']
  exact retE (by simp [deferred,dslot]) rfl (by rw [decide_eq_false (by rintro rfl; exact hlen rfl)]) rfl
 simp -implicitDefEqProofs [hlen]
 refine AWp.cnt b.length [0,1,12] (fun i=>[(13,i64 (i : Int))]) (fun _=>h) (fun i=>a.take i = b.take i) mixed (by simp) (le_of (by simp [dslot])) rfl ?_ ?_
 ·intro i hi hz
  obtain ⟨⟨x,x'⟩,hx⟩ : ∃ x,a[i]? = some x:=⟨a[i],by simp [show i < a.length by omega]⟩
  obtain ⟨⟨y,y'⟩,hy⟩ : ∃ y,b[i]? = some y:=⟨b[i],by simp [hi]⟩
  obtain rfl:=h1.resolve_right (by rintro rfl; simp at hx)
  obtain rfl:=h2.resolve_right (by rintro rfl; simp at hy)
  have hlt : (i : Int) < b.length:=by omega
  have wi : IntKind.i64.wrap ((i : Int) + 1) = (i : Int) + 1:=IntWalk.i64_in _ (by omega)
  have hiff:=take_ext hx hy
  have hne : ¬ (x = y ∧ x' = y') → decide (a = b) = false:=fun e=>decide_eq_false (fun hab=>e (by rw [hab,hy] at hx; have:=Option.some.inj hx; simp at this; exact ⟨this.1.symm,this.2.symm⟩))
  by_cases e : x = y
  ·by_cases e' : x' = y'
   ·subst e e'
    simp -implicitDefEqProofs [lp0_slices_Equal_api_Pair_api_Pair,hlt,hx,hy,wi,encP,cellsEq]
    exact ⟨hiff.2 ⟨hz,rfl⟩,le_of (by simp [dslot])⟩
   ·simp -implicitDefEqProofs [lp0_slices_Equal_api_Pair_api_Pair,hlt,hx,hy,e,e',wi,encP,cellsEq]
    exact retE (by simp [deferred,dslot]) rfl (by rw [hne (fun h=>e' h.2)]) rfl
  ·simp -implicitDefEqProofs [lp0_slices_Equal_api_Pair_api_Pair,hlt,hx,hy,e,wi,encP,cellsEq]
   exact retE (by simp [deferred,dslot]) rfl (by rw [hne (fun h=>e h.1)]) rfl
 ·intro hz
  have hab : a = b:=by rwa [← hlen,List.take_of_length_le (Nat.le_refl _),hlen,List.take_of_length_le (Nat.le_refl _)] at hz
  simp -implicitDefEqProofs [lp0_slices_Equal_api_Pair_api_Pair]
  exact retE (by simp [deferred,dslot]) rfl (by rw [decide_eq_true hab]) rfl
end Go.Apx
end
section
namespace Go.Apx
open Go.Proofs
set_option linter.unusedVariables false
set_option linter.unusedSimpArgs false
set_option linter.unnecessarySimpa false
set_option maxRecDepth 4000
structure St where
 kind : Int
 label : ByteArray
 text : List ByteArray
 proof : List ByteArray
 tc : Cap
 pc : Cap
def encSt (s : St) : AV:=.agg [i64 s.kind,.sc (.string s.label),.sl 1 (s.text.map sv) s.tc,.sl 1 (s.proof.map sv) s.pc]
@[simp] theorem isPend_encSt (s : St) : (encSt s).isPend = false:=rfl
@[simp] theorem one_encSt (s : St) : (encSt s).one = false:=rfl
def scF (l : List St) (kind other step : Int) : Nat → Int → Int → Int × Int
 | 0,_,_=>(0,5)
 | n + 1,k,d=>if 0 ≤ k then (match l[k.toNat]? with
  | none=>(0,5)
  | some s=>if s.kind = kind then scF l kind other step n (k + step) (d + 1) else if s.kind = other then (if d - 1 = 0 then (k,0) else scF l kind other step n (k + step) (d - 1)) else scF l kind other step n (k + step) d) else (0,5)
def scopeF (l : List St) (i : Int) : Int × Int:=if i < 0 then (0,3) else match l[i.toNat]? with
 | none=>(0,3)
 | some s=>if s.kind = 8 then scF l 8 9 1 (l.length + 2) i 0 else if s.kind = 9 then scF l 9 8 (-1) (l.length + 2) i 0 else (0,1)
structure SSt where
 n : Nat
 k : Int
 d : Int
structure SSI (l : List St) (kind other step : Int) (r : Int × Int) (s : SSt) : Prop where
 r : scF l kind other step s.n s.k s.d = r
 lo : -1 ≤ s.k
 hi : s.k ≤ l.length
 f : (step = 1 → (l.length : Int) - s.k + 1 ≤ s.n) ∧ (step = -1 → s.k + 2 ≤ s.n)
 d1 : -(l.length : Int) - 4 + s.n ≤ s.d
 d2 : s.d ≤ l.length + 4 - s.n
 n : s.n ≤ l.length + 2
set_option maxHeartbeats 4000000 in
theorem scope_c (l : List St) (lc : Cap) (i : Int) (hl : l.length ≤ 2 ^ 30) {h : AHeap} : AEx PP Gl 10 [.sl 4 (l.map encSt) lc,i64 i] h (.ret (.tup [i64 (scopeF l i).1,i64 (scopeF l i).2])) h:=by
 refine enter_scope_Scope (by simp) ?_
 simp -implicitDefEqProofs [code_scope_Scope,res_scope_Scope,ann_scope_Scope]
 by_cases c1 : i < 0
 ·simp -implicitDefEqProofs [c1]
  exact retE (by simp [deferred,dslot]) rfl (by simp [scopeF,c1]) rfl
 by_cases c2 : (l.length : Int) ≤ i
 ·have hn : l[i.toNat]? = none:=List.getElem?_eq_none (by omega)
  simp -implicitDefEqProofs [c1,c2]
  exact retE (by simp [deferred,dslot]) rfl (by simp [scopeF,c1,hn]) rfl
 obtain ⟨s0,hs0⟩ : ∃ s,l[i.toNat]? = some s:=⟨l[i.toNat]'(by omega),by simp⟩
 have hne : l ≠ []:=by intro e; rw [e] at hs0; simp at hs0
 obtain ⟨a,ha⟩ : ∃ a : Nat,i = a:=⟨i.toNat,by omega⟩
 subst ha
 have hal : a < l.length:=by omega
 simp only [Int.toNat_natCast] at hs0
 have hla : l[a]'hal = s0:=(List.getElem?_eq_some_iff.1 hs0).2
 have c2' : ¬ l.length ≤ a:=by omega
 have h1 : scopeF l a = if s0.kind = 8 then scF l 8 9 1 (l.length + 2) a 0 else if s0.kind = 9 then scF l 9 8 (-1) (l.length + 2) a 0 else (0,1):=by simp [scopeF,c1,hs0]
 rw [h1]
 by_cases k8 : s0.kind = 8
 ·simp -implicitDefEqProofs [c1,c2,c2',hal,hs0,hla,encSt,hne,k8]
  obtain ⟨R,hR⟩ : ∃ R,R = scF l 8 9 1 (l.length + 2) a 0:=⟨_,rfl⟩
  rw [← hR]
  refine AWp.till (S:=SSt) ⟨l.length + 2,a,0⟩ (fun st=>st.n) [0,6,7,8] (fun st=>[(9,i64 st.d),(10,i64 st.k)]) (fun _=>h) (SSI l 8 9 1 R) mixed ⟨hR.symm,by simp only; omega,by simp only; omega,⟨by intro hh; (try simp only at hh ⊢); omega,by intro hh; (try simp only at hh ⊢); omega⟩,by simp only; omega,by simp only; omega,by simp only; omega⟩ (le_of (by simp [dslot])) rfl ?_
  rintro ⟨n,k,d⟩ ⟨z1,z2,z3,z4,z5,z6,z7⟩
  simp only at z1 z2 z3 z4 z5 z6 z7
  have f1:=z4.1 trivial
  obtain ⟨n,rfl⟩ : ∃ q,n = q + 1:=⟨n - 1,by omega⟩
  have wd1:=IntWalk.i64_in (d + 1) (by omega)
  have wd2:=IntWalk.i64_in (d - 1) (by omega)
  have wk:=IntWalk.i64_in (k + 1) (by omega)
  by_cases hk0 : 0 ≤ k
  case neg =>
   have hR2 : R = (0,5):=by rw [← z1,scF,if_neg hk0]
   subst hR2
   simp -implicitDefEqProofs [lp0_scope_Scope,hk0]
   exact retE (by simp [deferred,dslot]) rfl rfl rfl
  by_cases hkl : k < l.length
  case neg =>
   have hn : l[k.toNat]? = none:=List.getElem?_eq_none (by omega)
   have hR2 : R = (0,5):=by rw [← z1,scF,if_pos hk0,hn]
   subst hR2
   simp -implicitDefEqProofs [lp0_scope_Scope,hk0,hkl]
   exact retE (by simp [deferred,dslot]) rfl rfl rfl
  obtain ⟨b,hb⟩ : ∃ b : Nat,k = b:=⟨k.toNat,by omega⟩
  subst hb
  have hbl : b < l.length:=by omega
  obtain ⟨s1,hs1⟩ : ∃ s,l[b]? = some s:=⟨l[b],by simp [hbl]⟩
  have hlb : l[b]'hbl = s1:=(List.getElem?_eq_some_iff.1 hs1).2
  rw [scF,if_pos hk0] at z1
  simp only [Int.toNat_natCast,hs1] at z1
  by_cases e8 : s1.kind = 8
  ·rw [if_pos e8] at z1
   simp -implicitDefEqProofs [lp0_scope_Scope,hkl,hbl,hs1,hlb,encSt,hne,e8,wd1,wk]
   exact ⟨⟨n,b + 1,d + 1⟩,by simp,⟨z1,by simp only; omega,by simp only; omega,⟨by intro hh; (try simp only at hh ⊢); omega,by intro hh; (try simp only at hh ⊢); omega⟩,by simp only; omega,by simp only; omega,by simp only; omega⟩,le_of (by simp [dslot])⟩
  ·rw [if_neg e8] at z1
   by_cases e9 : s1.kind = 9
   ·rw [if_pos e9] at z1
    by_cases d0 : d - 1 = 0
    ·rw [if_pos d0] at z1
     subst z1
     simp -implicitDefEqProofs [lp0_scope_Scope,hkl,hbl,hs1,hlb,encSt,hne,e8,e9,wd2,d0]
     exact retE (by simp [deferred,dslot]) rfl rfl rfl
    ·rw [if_neg d0] at z1
     simp -implicitDefEqProofs [lp0_scope_Scope,hkl,hbl,hs1,hlb,encSt,hne,e8,e9,wd2,d0,wk]
     exact ⟨⟨n,b + 1,d - 1⟩,by simp,⟨z1,by simp only; omega,by simp only; omega,⟨by intro hh; (try simp only at hh ⊢); omega,by intro hh; (try simp only at hh ⊢); omega⟩,by simp only; omega,by simp only; omega,by simp only; omega⟩,le_of (by simp [dslot])⟩
   ·rw [if_neg e9] at z1
    simp -implicitDefEqProofs [lp0_scope_Scope,hkl,hbl,hs1,hlb,encSt,hne,e8,e9,wk]
    exact ⟨⟨n,b + 1,d⟩,by simp,⟨z1,by simp only; omega,by simp only; omega,⟨by intro hh; (try simp only at hh ⊢); omega,by intro hh; (try simp only at hh ⊢); omega⟩,by simp only; omega,by simp only; omega,by simp only; omega⟩,le_of (by simp [dslot])⟩
 by_cases k9 : s0.kind = 9
 ·simp -implicitDefEqProofs [c1,c2,c2',hal,hs0,hla,encSt,hne,k8,k9]
  obtain ⟨R,hR⟩ : ∃ R,R = scF l 9 8 (-1) (l.length + 2) a 0:=⟨_,rfl⟩
  rw [← hR]
  refine AWp.till (S:=SSt) ⟨l.length + 2,a,0⟩ (fun st=>st.n) [0,6,7,8] (fun st=>[(9,i64 st.d),(10,i64 st.k)]) (fun _=>h) (SSI l 9 8 (-1) R) mixed ⟨hR.symm,by simp only; omega,by simp only; omega,⟨by intro hh; (try simp only at hh ⊢); omega,by intro hh; (try simp only at hh ⊢); omega⟩,by simp only; omega,by simp only; omega,by simp only; omega⟩ (le_of (by simp [dslot])) rfl ?_
  rintro ⟨n,k,d⟩ ⟨z1,z2,z3,z4,z5,z6,z7⟩
  simp only at z1 z2 z3 z4 z5 z6 z7
  have f1:=z4.2 trivial
  obtain ⟨n,rfl⟩ : ∃ q,n = q + 1:=⟨n - 1,by omega⟩
  have wd1:=IntWalk.i64_in (d + 1) (by omega)
  have wd2:=IntWalk.i64_in (d - 1) (by omega)
  have wk:=IntWalk.i64_in (k + (-1)) (by omega)
  by_cases hk0 : 0 ≤ k
  case neg =>
   have hR2 : R = (0,5):=by rw [← z1,scF,if_neg hk0]
   subst hR2
   simp -implicitDefEqProofs [lp0_scope_Scope,hk0]
   exact retE (by simp [deferred,dslot]) rfl rfl rfl
  by_cases hkl : k < l.length
  case neg =>
   have hn : l[k.toNat]? = none:=List.getElem?_eq_none (by omega)
   have hR2 : R = (0,5):=by rw [← z1,scF,if_pos hk0,hn]
   subst hR2
   simp -implicitDefEqProofs [lp0_scope_Scope,hk0,hkl]
   exact retE (by simp [deferred,dslot]) rfl rfl rfl
  obtain ⟨b,hb⟩ : ∃ b : Nat,k = b:=⟨k.toNat,by omega⟩
  subst hb
  have hbl : b < l.length:=by omega
  obtain ⟨s1,hs1⟩ : ∃ s,l[b]? = some s:=⟨l[b],by simp [hbl]⟩
  have hlb : l[b]'hbl = s1:=(List.getElem?_eq_some_iff.1 hs1).2
  rw [scF,if_pos hk0] at z1
  simp only [Int.toNat_natCast,hs1] at z1
  by_cases e8 : s1.kind = 9
  ·rw [if_pos e8] at z1
   simp -implicitDefEqProofs [lp0_scope_Scope,hkl,hbl,hs1,hlb,encSt,hne,e8,wd1,wk]
   exact ⟨⟨n,b + (-1),d + 1⟩,by simp,⟨z1,by simp only; omega,by simp only; omega,⟨by intro hh; (try simp only at hh ⊢); omega,by intro hh; (try simp only at hh ⊢); omega⟩,by simp only; omega,by simp only; omega,by simp only; omega⟩,le_of (by simp [dslot])⟩
  ·rw [if_neg e8] at z1
   by_cases e9 : s1.kind = 8
   ·rw [if_pos e9] at z1
    by_cases d0 : d - 1 = 0
    ·rw [if_pos d0] at z1
     subst z1
     simp -implicitDefEqProofs [lp0_scope_Scope,hkl,hbl,hs1,hlb,encSt,hne,e8,e9,wd2,d0]
     exact retE (by simp [deferred,dslot]) rfl rfl rfl
    ·rw [if_neg d0] at z1
     simp -implicitDefEqProofs [lp0_scope_Scope,hkl,hbl,hs1,hlb,encSt,hne,e8,e9,wd2,d0,wk]
     exact ⟨⟨n,b + (-1),d - 1⟩,by simp,⟨z1,by simp only; omega,by simp only; omega,⟨by intro hh; (try simp only at hh ⊢); omega,by intro hh; (try simp only at hh ⊢); omega⟩,by simp only; omega,by simp only; omega,by simp only; omega⟩,le_of (by simp [dslot])⟩
   ·rw [if_neg e9] at z1
    simp -implicitDefEqProofs [lp0_scope_Scope,hkl,hbl,hs1,hlb,encSt,hne,e8,e9,wk]
    exact ⟨⟨n,b + (-1),d⟩,by simp,⟨z1,by simp only; omega,by simp only; omega,⟨by intro hh; (try simp only at hh ⊢); omega,by intro hh; (try simp only at hh ⊢); omega⟩,by simp only; omega,by simp only; omega,by simp only; omega⟩,le_of (by simp [dslot])⟩
 ·simp -implicitDefEqProofs [c1,c2,c2',hal,hs0,hla,encSt,hne,k8,k9]
  exact retE (by simp [deferred,dslot]) rfl rfl rfl
end Go.Apx
end
section
namespace Go.Apx
open Go.Proofs
set_option linter.unusedVariables false
set_option linter.unusedSimpArgs false
set_option linter.unnecessarySimpa false
set_option maxRecDepth 4000
theorem awake_c {h : AHeap} : AEx PP Gl 9 [] h (.ret (.sc (.bool true))) h:=KOk.at aw_root rfl rfl
end Go.Apx
end
