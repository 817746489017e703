/- Walks: slices.Equal at strings and at pairs. -/
import Derived.Test.YtmgajcmigkcmdaaGreatDoorCode
import Derived.Test.YtmgajcmigkcmdaaGreatDoorAmC
import Derived.Test.YtmgajcmigkcmdaaGreatDoorNA
import Derived.Test.YtmgajcmigkcmdaaGreatDoorAw
section
namespace Go.Apx
open Go.Proofs
set_option linter.unusedVariables false
set_option linter.unusedSimpArgs false
set_option linter.unnecessarySimpa false
set_option maxRecDepth 4000
theorem take_ext {α : Type} {a b : List α} {i : Nat} {x y : α} (ha : a[i]? = some x) (hb : b[i]? = some y) : a.take (i + 1) = b.take (i + 1) ↔ a.take i = b.take i ∧ x = y:=by
 rw [List.take_add_one,List.take_add_one,ha,hb]
 have hl : (a.take i).length = (b.take i).length:=by
  have:=lt_of ha; have:=lt_of hb
  simp; omega
 constructor
 ·intro h
  have:=List.append_inj h hl
  exact ⟨this.1,by simpa using this.2⟩
 ·rintro ⟨h,rfl⟩; rw [h]
set_option maxHeartbeats 4000000 in
theorem eqS_c (a b : List ByteArray) (j1 j2 : Nat) (c1 c2 : Cap) (h1 : j1 = 1 ∨ a = []) (h2 : j2 = 1 ∨ b = []) (hl : a.length ≤ 2 ^ 31) {h : AHeap} :
  AEx PP Gl 12 [.sl j1 (a.map sv) c1,.sl j2 (b.map sv) c2] h (.ret (.sc (.bool (decide (a = b))))) h:=by
 refine enter_slices_Equal_string_string (by simp) ?_
 simp -implicitDefEqProofs [code_slices_Equal_string_string,res_slices_Equal_string_string,ann_slices_Equal_string_string]
 by_cases hlen : a.length = b.length
 case neg =>
  have hlen' : ¬ ((a.length : Int) = b.length):=by omega
  simp -implicitDefEqProofs [hlen,hlen']
  exact retE (by simp [deferred,dslot]) rfl (by rw [decide_eq_false (by rintro rfl; exact hlen rfl)]) rfl
 simp -implicitDefEqProofs [hlen]
 refine AWp.cnt b.length [0,1,12] (fun i=>[(13,i64 (i : Int))]) (fun _=>h) (fun i=>a.take i = b.take i) mixed (by simp) (le_of (by simp [dslot])) rfl ?_ ?_
 ·intro i hi hz
  obtain ⟨x,hx⟩ : ∃ x,a[i]? = some x:=⟨a[i],by simp [show i < a.length by omega]⟩
  obtain ⟨y,hy⟩ : ∃ y,b[i]? = some y:=⟨b[i],by simp [hi]⟩
  obtain rfl:=h1.resolve_right (by rintro rfl; simp at hx)
  obtain rfl:=h2.resolve_right (by rintro rfl; simp at hy)
  have hlt : (i : Int) < b.length:=by omega
  have wi : IntKind.i64.wrap ((i : Int) + 1) = (i : Int) + 1:=IntWalk.i64_in _ (by omega)
  have hiff:=take_ext hx hy
  by_cases e : x = y
  ·simp -implicitDefEqProofs [lp0_slices_Equal_string_string,hlt,hx,hy,e,wi]
   exact ⟨hiff.2 ⟨hz,e⟩,le_of (by simp [dslot])⟩
  ·simp -implicitDefEqProofs [lp0_slices_Equal_string_string,hlt,hx,hy,e,wi]
   refine retE (by simp [deferred,dslot]) rfl ?_ rfl
   rw [decide_eq_false (fun hab=>e (by rw [hab,hy] at hx; exact (Option.some.inj hx).symm))]
 ·intro hz
  have hab : a = b:=by rwa [← hlen,List.take_of_length_le (Nat.le_refl _),hlen,List.take_of_length_le (Nat.le_refl _)] at hz
  simp -implicitDefEqProofs [lp0_slices_Equal_string_string]
  exact retE (by simp [deferred,dslot]) rfl (by rw [decide_eq_true hab]) rfl
abbrev Pr:=ByteArray × ByteArray
def encP (p : Pr) : AV:=.agg [sv p.1,sv p.2]
@[simp] theorem isPend_encP (p : Pr) : (encP p).isPend = false:=rfl
@[simp] theorem cells_encP (p : Pr) : (encP p).cells = [sv p.1,sv p.2]:=rfl
end Go.Apx
end
section
namespace Go.Apx
open Go.Proofs
set_option linter.unusedVariables false
set_option linter.unusedSimpArgs false
set_option linter.unnecessarySimpa false
set_option maxRecDepth 4000
structure St where
 kind : Int
 label : ByteArray
 text : List ByteArray
 proof : List ByteArray
 tc : Cap
 pc : Cap
def encSt (s : St) : AV:=.agg [i64 s.kind,.sc (.string s.label),.sl 1 (s.text.map sv) s.tc,.sl 1 (s.proof.map sv) s.pc]
@[simp] theorem isPend_encSt (s : St) : (encSt s).isPend = false:=rfl
@[simp] theorem one_encSt (s : St) : (encSt s).one = false:=rfl
def scF (l : List St) (kind other step : Int) : Nat → Int → Int → Int × Int
 | 0,_,_=>(0,5)
 | n + 1,k,d=>if 0 ≤ k then (match l[k.toNat]? with
  | none=>(0,5)
  | some s=>if s.kind = kind then scF l kind other step n (k + step) (d + 1) else if s.kind = other then (if d - 1 = 0 then (k,0) else scF l kind other step n (k + step) (d - 1)) else scF l kind other step n (k + step) d) else (0,5)
def scopeF (l : List St) (i : Int) : Int × Int:=if i < 0 then (0,3) else match l[i.toNat]? with
 | none=>(0,3)
 | some s=>if s.kind = 8 then scF l 8 9 1 (l.length + 2) i 0 else if s.kind = 9 then scF l 9 8 (-1) (l.length + 2) i 0 else (0,1)
structure SSt where
 n : Nat
 k : Int
 d : Int
structure SSI (l : List St) (kind other step : Int) (r : Int × Int) (s : SSt) : Prop where
 r : scF l kind other step s.n s.k s.d = r
 lo : -1 ≤ s.k
 hi : s.k ≤ l.length
 f : (step = 1 → (l.length : Int) - s.k + 1 ≤ s.n) ∧ (step = -1 → s.k + 2 ≤ s.n)
 d1 : -(l.length : Int) - 4 + s.n ≤ s.d
 d2 : s.d ≤ l.length + 4 - s.n
 n : s.n ≤ l.length + 2
set_option maxHeartbeats 4000000 in
theorem scope_c (l : List St) (lc : Cap) (i : Int) (hl : l.length ≤ 2 ^ 30) {h : AHeap} : AEx PP Gl 10 [.sl 4 (l.map encSt) lc,i64 i] h (.ret (.tup [i64 (scopeF l i).1,i64 (scopeF l i).2])) h:=by
 refine enter_scope_Scope (by simp) ?_
 simp -implicitDefEqProofs [code_scope_Scope,res_scope_Scope,ann_scope_Scope]
 by_cases c1 : i < 0
 ·simp -implicitDefEqProofs [c1]
  exact retE (by simp [deferred,dslot]) rfl (by simp [scopeF,c1]) rfl
 by_cases c2 : (l.length : Int) ≤ i
 ·have hn : l[i.toNat]? = none:=List.getElem?_eq_none (by omega)
  simp -implicitDefEqProofs [c1,c2]
  exact retE (by simp [deferred,dslot]) rfl (by simp [scopeF,c1,hn]) rfl
 obtain ⟨s0,hs0⟩ : ∃ s,l[i.toNat]? = some s:=⟨l[i.toNat]'(by omega),by simp⟩
 have hne : l ≠ []:=by intro e; rw [e] at hs0; simp at hs0
 obtain ⟨a,ha⟩ : ∃ a : Nat,i = a:=⟨i.toNat,by omega⟩
 subst ha
 have hal : a < l.length:=by omega
 simp only [Int.toNat_natCast] at hs0
 have hla : l[a]'hal = s0:=(List.getElem?_eq_some_iff.1 hs0).2
 have c2' : ¬ l.length ≤ a:=by omega
 have h1 : scopeF l a = if s0.kind = 8 then scF l 8 9 1 (l.length + 2) a 0 else if s0.kind = 9 then scF l 9 8 (-1) (l.length + 2) a 0 else (0,1):=by simp [scopeF,c1,hs0]
 rw [h1]
 by_cases k8 : s0.kind = 8
 ·simp -implicitDefEqProofs [c1,c2,c2',hal,hs0,hla,encSt,hne,k8]
  obtain ⟨R,hR⟩ : ∃ R,R = scF l 8 9 1 (l.length + 2) a 0:=⟨_,rfl⟩
  rw [← hR]
  refine AWp.till (S:=SSt) ⟨l.length + 2,a,0⟩ (fun st=>st.n) [0,6,7,8] (fun st=>[(9,i64 st.d),(10,i64 st.k)]) (fun _=>h) (SSI l 8 9 1 R) mixed ⟨hR.symm,by simp only; omega,by simp only; omega,⟨by intro hh; (try simp only at hh ⊢); omega,by intro hh; (try simp only at hh ⊢); omega⟩,by simp only; omega,by simp only; omega,by simp only; omega⟩ (le_of (by simp [dslot])) rfl ?_
  rintro ⟨n,k,d⟩ ⟨z1,z2,z3,z4,z5,z6,z7⟩
  simp only at z1 z2 z3 z4 z5 z6 z7
  have f1:=z4.1 trivial
  obtain ⟨n,rfl⟩ : ∃ q,n = q + 1:=⟨n - 1,by omega⟩
  have wd1:=IntWalk.i64_in (d + 1) (by omega)
  have wd2:=IntWalk.i64_in (d - 1) (by omega)
  have wk:=IntWalk.i64_in (k + 1) (by omega)
  by_cases hk0 : 0 ≤ k
  case neg =>
   have hR2 : R = (0,5):=by rw [← z1,scF,if_neg hk0]
   subst hR2
   simp -implicitDefEqProofs [lp0_scope_Scope,hk0]
   exact retE (by simp [deferred,dslot]) rfl rfl rfl
  by_cases hkl : k < l.length
  case neg =>
   have hn : l[k.toNat]? = none:=List.getElem?_eq_none (by omega)
   have hR2 : R = (0,5):=by rw [← z1,scF,if_pos hk0,hn]
   subst hR2
   simp -implicitDefEqProofs [lp0_scope_Scope,hk0,hkl]
   exact retE (by simp [deferred,dslot]) rfl rfl rfl
  obtain ⟨b,hb⟩ : ∃ b : Nat,k = b:=⟨k.toNat,by omega⟩
  subst hb
  have hbl : b < l.length:=by omega
  obtain ⟨s1,hs1⟩ : ∃ s,l[b]? = some s:=⟨l[b],by simp [hbl]⟩
  have hlb : l[b]'hbl = s1:=(List.getElem?_eq_some_iff.1 hs1).2
  rw [scF,if_pos hk0] at z1
  simp only [Int.toNat_natCast,hs1] at z1
  by_cases e8 : s1.kind = 8
  ·rw [if_pos e8] at z1
   simp -implicitDefEqProofs [lp0_scope_Scope,hkl,hbl,hs1,hlb,encSt,hne,e8,wd1,wk]
   exact ⟨⟨n,b + 1,d + 1⟩,by simp,⟨z1,by simp only; omega,by simp only; omega,⟨by intro hh; (try simp only at hh ⊢); omega,by intro hh; (try simp only at hh ⊢); omega⟩,by simp only; omega,by simp only; omega,by simp only; omega⟩,le_of (by simp [dslot])⟩
  ·rw [if_neg e8] at z1
   by_cases e9 : s1.kind = 9
   ·rw [if_pos e9] at z1
    by_cases d0 : d - 1 = 0
    ·rw [if_pos d0] at z1
     subst z1
     simp -implicitDefEqProofs [lp0_scope_Scope,hkl,hbl,hs1,hlb,encSt,hne,e8,e9,wd2,d0]
     exact retE (by simp [deferred,dslot]) rfl rfl rfl
    ·rw [if_neg d0] at z1
     simp -implicitDefEqProofs [lp0_scope_Scope,hkl,hbl,hs1,hlb,encSt,hne,e8,e9,wd2,d0,wk]
     exact ⟨⟨n,b + 1,d - 1⟩,by simp,⟨z1,by simp only; omega,by simp only; omega,⟨by intro hh; (try simp only at hh ⊢); omega,by intro hh; (try simp only at hh ⊢); omega⟩,by simp only; omega,by simp only; omega,by simp only; omega⟩,le_of (by simp [dslot])⟩
   ·rw [if_neg e9] at z1
    simp -implicitDefEqProofs [lp0_scope_Scope,hkl,hbl,hs1,hlb,encSt,hne,e8,e9,wk]
    exact ⟨⟨n,b + 1,d⟩,by simp,⟨z1,by simp only; omega,by simp only; omega,⟨by intro hh; (try simp only at hh ⊢); omega,by intro hh; (try simp only at hh ⊢); omega⟩,by simp only; omega,by simp only; omega,by simp only; omega⟩,le_of (by simp [dslot])⟩
 by_cases k9 : s0.kind = 9
 ·simp -implicitDefEqProofs [c1,c2,c2',hal,hs0,hla,encSt,hne,k8,k9]
  obtain ⟨R,hR⟩ : ∃ R,R = scF l 9 8 (-1) (l.length + 2) a 0:=⟨_,rfl⟩
  rw [← hR]
  refine AWp.till (S:=SSt) ⟨l.length + 2,a,0⟩ (fun st=>st.n) [0,6,7,8] (fun st=>[(9,i64 st.d),(10,i64 st.k)]) (fun _=>h) (SSI l 9 8 (-1) R) mixed ⟨hR.symm,by simp only; omega,by simp only; omega,⟨by intro hh; (try simp only at hh ⊢); omega,by intro hh; (try simp only at hh ⊢); omega⟩,by simp only; omega,by simp only; omega,by simp only; omega⟩ (le_of (by simp [dslot])) rfl ?_
  rintro ⟨n,k,d⟩ ⟨z1,z2,z3,z4,z5,z6,z7⟩
  simp only at z1 z2 z3 z4 z5 z6 z7
  have f1:=z4.2 trivial
  obtain ⟨n,rfl⟩ : ∃ q,n = q + 1:=⟨n - 1,by omega⟩
  have wd1:=IntWalk.i64_in (d + 1) (by omega)
  have wd2:=IntWalk.i64_in (d - 1) (by omega)
  have wk:=IntWalk.i64_in (k + (-1)) (by omega)
  by_cases hk0 : 0 ≤ k
  case neg =>
   have hR2 : R = (0,5):=by rw [← z1,scF,if_neg hk0]
   subst hR2
   simp -implicitDefEqProofs [lp0_scope_Scope,hk0]
   exact retE (by simp [deferred,dslot]) rfl rfl rfl
  by_cases hkl : k < l.length
  case neg =>
   have hn : l[k.toNat]? = none:=List.getElem?_eq_none (by omega)
   have hR2 : R = (0,5):=by rw [← z1,scF,if_pos hk0,hn]
   subst hR2
   simp -implicitDefEqProofs [lp0_scope_Scope,hk0,hkl]
   exact retE (by simp [deferred,dslot]) rfl rfl rfl
  obtain ⟨b,hb⟩ : ∃ b : Nat,k = b:=⟨k.toNat,by omega⟩
  subst hb
  have hbl : b < l.length:=by omega
  obtain ⟨s1,hs1⟩ : ∃ s,l[b]? = some s:=⟨l[b],by simp [hbl]⟩
  have hlb : l[b]'hbl = s1:=(List.getElem?_eq_some_iff.1 hs1).2
  rw [scF,if_pos hk0] at z1
  simp only [Int.toNat_natCast,hs1] at z1
  by_cases e8 : s1.kind = 9
  ·rw [if_pos e8] at z1
   simp -implicitDefEqProofs [lp0_scope_Scope,hkl,hbl,hs1,hlb,encSt,hne,e8,wd1,wk]
   exact ⟨⟨n,b + (-1),d + 1⟩,by simp,⟨z1,by simp only; omega,by simp only; omega,⟨by intro hh; (try simp only at hh ⊢); omega,by intro hh; (try simp only at hh ⊢); omega⟩,by simp only; omega,by simp only; omega,by simp only; omega⟩,le_of (by simp [dslot])⟩
  ·rw [if_neg e8] at z1
   by_cases e9 : s1.kind = 8
   ·rw [if_pos e9] at z1
    by_cases d0 : d - 1 = 0
    ·rw [if_pos d0] at z1
     subst z1
     simp -implicitDefEqProofs [lp0_scope_Scope,hkl,hbl,hs1,hlb,encSt,hne,e8,e9,wd2,d0]
     exact retE (by simp [deferred,dslot]) rfl rfl rfl
    ·rw [if_neg d0] at z1
     simp -implicitDefEqProofs [lp0_scope_Scope,hkl,hbl,hs1,hlb,encSt,hne,e8,e9,wd2,d0,wk]
     exact ⟨⟨n,b + (-1),d - 1⟩,by simp,⟨z1,by simp only; omega,by simp only; omega,⟨by intro hh; (try simp only at hh ⊢); omega,by intro hh; (try simp only at hh ⊢); omega⟩,by simp only; omega,by simp only; omega,by simp only; omega⟩,le_of (by simp [dslot])⟩
   ·rw [if_neg e9] at z1
    simp -implicitDefEqProofs [lp0_scope_Scope,hkl,hbl,hs1,hlb,encSt,hne,e8,e9,wk]
    exact ⟨⟨n,b + (-1),d⟩,by simp,⟨z1,by simp only; omega,by simp only; omega,⟨by intro hh; (try simp only at hh ⊢); omega,by intro hh; (try simp only at hh ⊢); omega⟩,by simp only; omega,by simp only; omega,by simp only; omega⟩,le_of (by simp [dslot])⟩
 ·simp -implicitDefEqProofs [c1,c2,c2',hal,hs0,hla,encSt,hne,k8,k9]
  exact retE (by simp [deferred,dslot]) rfl rfl rfl
end Go.Apx
end
section
namespace Go.Apx
open Go.Proofs
set_option linter.unusedVariables false
set_option linter.unusedSimpArgs false
set_option linter.unnecessarySimpa false
set_option maxRecDepth 4000
def rfD (s : St) (d : Int) : Int:=if s.kind = 8 then d + 1 else if s.kind = 9 then d - 1 else d
def rfF (l : List St) (step : Int) : Nat → Int → Int → Int × Int
 | 0,_,_=>(0,5)
 | n + 1,k,d=>if 0 ≤ k then (match l[k.toNat]? with
  | none=>(0,5)
  | some s=>if rfD s d = 0 then (k,0) else rfF l step n (k + step) (rfD s d)) else (0,5)
def rscopeF (l : List St) (i : Int) : Int × Int:=if i < 0 then (0,3) else match l[i.toNat]? with
 | none=>(0,3)
 | some s=>if s.kind = 8 then rfF l 1 (l.length + 2) i 0 else if s.kind = 9 then rfF l (-1) (l.length + 2) i 0 else (0,1)
theorem rfD8 {s : St} {d : Int} (h : s.kind = 8) : rfD s d = d + 1:=by simp [rfD,h]
theorem rfD9 {s : St} {d : Int} (h : s.kind = 9) : rfD s d = d - 1:=by simp [rfD,h]
theorem rfDn {s : St} {d : Int} (h : ¬ s.kind = 8) (h' : ¬ s.kind = 9) : rfD s d = d:=by simp [rfD,h,h']
theorem rf_sc (l : List St) (step : Int) : ∀ (n : Nat) (k d : Int),(0 < d ∨ (d = 0 ∧ ∃ s,l[k.toNat]? = some s ∧ s.kind = 8)) → rfF l step n k d = scF l 8 9 step n k d
 | 0,_,_,_=>rfl
 | n + 1,k,d,h=>by
  rw [rfF,scF]
  by_cases hk : 0 ≤ k
  case neg=>rw [if_neg hk,if_neg hk]
  rw [if_pos hk,if_pos hk]
  cases hs : l[k.toNat]? with
  | none=>rfl
  | some s =>
   simp only
   by_cases e8 : s.kind = 8
   ·rw [rfD8 e8,if_pos e8,if_neg (by omega)]
    exact rf_sc l step n _ _ (.inl (by omega))
   ·rw [if_neg e8]
    have hd : 0 < d:=by
     rcases h with h | ⟨_,s',h1,h2⟩
     ·exact h
     ·rw [hs] at h1; cases h1; exact (e8 h2).elim
    by_cases e9 : s.kind = 9
    ·rw [if_pos e9,rfD9 e9]
     by_cases d0 : d - 1 = 0
     ·rw [if_pos d0,if_pos d0]
     ·rw [if_neg d0,if_neg d0]
      exact rf_sc l step n _ _ (.inl (by omega))
    ·rw [if_neg e9,rfDn e8 e9,if_neg (by omega)]
     exact rf_sc l step n _ _ (.inl hd)
theorem rf_sc' (l : List St) (step : Int) : ∀ (n : Nat) (k d : Int),(0 < d ∨ (d = 0 ∧ ∃ s,l[k.toNat]? = some s ∧ s.kind = 9)) → rfF l step n k (-d) = scF l 9 8 step n k d
 | 0,_,_,_=>rfl
 | n + 1,k,d,h=>by
  rw [rfF,scF]
  by_cases hk : 0 ≤ k
  case neg=>rw [if_neg hk,if_neg hk]
  rw [if_pos hk,if_pos hk]
  cases hs : l[k.toNat]? with
  | none=>rfl
  | some s =>
   simp only
   by_cases e9 : s.kind = 9
   ·rw [rfD9 e9,if_pos e9,if_neg (by omega),show -d - 1 = -(d + 1) by omega]
    exact rf_sc' l step n _ _ (.inl (by omega))
   ·rw [if_neg e9]
    have hd : 0 < d:=by
     rcases h with h | ⟨_,s',h1,h2⟩
     ·exact h
     ·rw [hs] at h1; cases h1; exact (e9 h2).elim
    by_cases e8 : s.kind = 8
    ·rw [if_pos e8,rfD8 e8]
     by_cases d0 : d - 1 = 0
     ·rw [if_pos d0,if_pos (by omega)]
     ·rw [if_neg d0,if_neg (by omega),show -d + 1 = -(d - 1) by omega]
      exact rf_sc' l step n _ _ (.inl (by omega))
    ·rw [if_neg e8,rfDn e8 e9,if_neg (by omega)]
     exact rf_sc' l step n _ _ (.inl hd)
theorem rscope_eq (l : List St) (i : Int) : rscopeF l i = scopeF l i:=by
 unfold rscopeF scopeF
 by_cases hi : i < 0
 ·rw [if_pos hi,if_pos hi]
 rw [if_neg hi,if_neg hi]
 cases hs : l[i.toNat]? with
 | none=>rfl
 | some s =>
  simp only
  by_cases e8 : s.kind = 8
  ·rw [if_pos e8,if_pos e8]; exact rf_sc l 1 _ i 0 (.inr ⟨rfl,s,hs,e8⟩)
  ·rw [if_neg e8,if_neg e8]
   by_cases e9 : s.kind = 9
   ·rw [if_pos e9,if_pos e9]; exact rf_sc' l (-1) _ i 0 (.inr ⟨rfl,s,hs,e9⟩)
   ·rw [if_neg e9,if_neg e9]
structure RSI (l : List St) (step : Int) (r : Int × Int) (s : SSt) : Prop where
 r : rfF l step s.n s.k s.d = r
 lo : -1 ≤ s.k
 hi : s.k ≤ l.length
 f : (step = 1 → (l.length : Int) - s.k + 1 ≤ s.n) ∧ (step = -1 → s.k + 2 ≤ s.n)
 d1 : -(l.length : Int) - 4 + s.n ≤ s.d
 d2 : s.d ≤ l.length + 4 - s.n
 n : s.n ≤ l.length + 2
set_option maxHeartbeats 4000000 in
theorem rscope_loop (l : List St) (lc : Cap) (a : Nat) (step : Int) (N k : Nat) (Q : APost) (en : Env) {h : AHeap} (hl : l.length ≤ 2 ^ 30) (hal : a < l.length) (hstep : step = 1 ∨ step = -1)
  (hen : EnvLe ([(6,i64 0),(8,i64 (a : Int))] ++ [(0,.sl 4 (l.map encSt) lc),(7,i64 step)]) en)
  (hq1 : ∀ e : Env,e.get 4 = some (i64 (rfF l step (l.length + 2) a 0).1) → e.get 5 = some (i64 (rfF l step (l.length + 2) a 0).2) → e.get dslot = none → Q .ret e h)
  (hq2 : ∀ e : Env,rfF l step (l.length + 2) a 0 = (0,5) → e.get dslot = none → Q (.exit 0) e h) : AWp ⟨PP,Gl,N,ann_ref04_Scope,k,none⟩ (.loop lp0_ref04_Scope) Q en h:=by
 have hne : l ≠ []:=by rintro rfl; simp at hal
 obtain ⟨R,hR⟩ : ∃ R,R = rfF l step (l.length + 2) a 0:=⟨_,rfl⟩
 refine AWp.weaken ?_ hen
 rw [← hR] at hq1 hq2
 refine AWp.till (S:=SSt) ⟨l.length + 2,a,0⟩ (fun st=>st.n) [0,7] (fun st=>[(6,i64 st.d),(8,i64 st.k)]) (fun _=>h) (RSI l step R) mixed ⟨hR.symm,by simp only; omega,by simp only; omega,⟨by intro hh; (try simp only at hh ⊢); omega,by intro hh; (try simp only at hh ⊢); omega⟩,by simp only; omega,by simp only; omega,by simp only; omega⟩ (le_of (by simp [dslot])) rfl ?_
 rintro ⟨n,k,d⟩ ⟨z1,z2,z3,z4,z5,z6,z7⟩
 simp only at z1 z2 z3 z4 z5 z6 z7
 have f1 : 1 ≤ n:=by
  rcases hstep with e | e
  ·have:=z4.1 e; omega
  ·have:=z4.2 e; omega
 obtain ⟨n,rfl⟩ : ∃ q,n = q + 1:=⟨n - 1,by omega⟩
 by_cases hk0 : 0 ≤ k
 case neg =>
  have hR2 : R = (0,5):=by rw [← z1,rfF,if_neg hk0]
  simp -implicitDefEqProofs [lp0_ref04_Scope,hk0]
  exact hq2 _ hR2 (by simp [dslot])
 by_cases hkl : k < l.length
 case neg =>
  have hn : l[k.toNat]? = none:=List.getElem?_eq_none (by omega)
  have hR2 : R = (0,5):=by rw [← z1,rfF,if_pos hk0,hn]
  simp -implicitDefEqProofs [lp0_ref04_Scope,hk0,hkl]
  exact hq2 _ hR2 (by simp [dslot])
 obtain ⟨b,hb⟩ : ∃ b : Nat,k = b:=⟨k.toNat,by omega⟩
 subst hb
 have hbl : b < l.length:=by omega
 obtain ⟨s1,hs1⟩ : ∃ s,l[b]? = some s:=⟨l[b],by simp [hbl]⟩
 have hlb : l[b]'hbl = s1:=(List.getElem?_eq_some_iff.1 hs1).2
 have wk : IntKind.i64.wrap ((b : Int) + step) = (b : Int) + step:=IntWalk.i64_in _ (by rcases hstep with e | e <;> omega)
 rw [rfF,if_pos hk0] at z1
 simp only [Int.toNat_natCast,hs1] at z1
 have fin : ∀ d' : Int,rfF l step n ((b : Int) + step) d' = R → d - 1 ≤ d' → d' ≤ d + 1 → RSI l step R ⟨n,(b : Int) + step,d'⟩:=fun d' e q1 q2 =>
  ⟨e,by simp only; rcases hstep with e | e <;> omega,by simp only; rcases hstep with e | e <;> omega,⟨fun hh=>by have:=z4.1 hh; simp only; omega,fun hh=>by have:=z4.2 hh; simp only; omega⟩,by simp only; omega,by simp only; omega,by simp only; omega⟩
 by_cases e8 : s1.kind = 8
 ·have wd1:=IntWalk.i64_in (d + 1) (by omega)
  rw [rfD8 e8] at z1
  by_cases d0 : d + 1 = 0
  ·rw [if_pos d0] at z1
   rw [← z1] at hq1
   simp -implicitDefEqProofs [lp0_ref04_Scope,hkl,hbl,hs1,hlb,encSt,hne,e8,wd1,d0]
   exact hq1 _ (by simp [Env.get]) (by simp [Env.get]) (by simp [dslot])
  ·rw [if_neg d0] at z1
   simp -implicitDefEqProofs [lp0_ref04_Scope,hkl,hbl,hs1,hlb,encSt,hne,e8,wd1,d0,wk]
   exact ⟨⟨n,b + step,d + 1⟩,by simp,fin _ z1 (by omega) (by omega),le_of (by simp [dslot])⟩
 ·by_cases e9 : s1.kind = 9
  ·have wd2:=IntWalk.i64_in (d - 1) (by omega)
   rw [rfD9 e9] at z1
   by_cases d0 : d - 1 = 0
   ·rw [if_pos d0] at z1
    rw [← z1] at hq1
    simp -implicitDefEqProofs [lp0_ref04_Scope,hkl,hbl,hs1,hlb,encSt,hne,e8,e9,wd2,d0]
    exact hq1 _ (by simp [Env.get]) (by simp [Env.get]) (by simp [dslot])
   ·rw [if_neg d0] at z1
    simp -implicitDefEqProofs [lp0_ref04_Scope,hkl,hbl,hs1,hlb,encSt,hne,e8,e9,wd2,d0,wk]
    exact ⟨⟨n,b + step,d - 1⟩,by simp,fin _ z1 (by omega) (by omega),le_of (by simp [dslot])⟩
  ·rw [rfDn e8 e9] at z1
   by_cases d0 : d = 0
   ·rw [if_pos d0] at z1
    rw [← z1] at hq1
    simp -implicitDefEqProofs [lp0_ref04_Scope,hkl,hbl,hs1,hlb,encSt,hne,e8,e9,d0]
    exact hq1 _ (by simp [Env.get]) (by simp [Env.get]) (by simp [dslot])
   ·rw [if_neg d0] at z1
    simp -implicitDefEqProofs [lp0_ref04_Scope,hkl,hbl,hs1,hlb,encSt,hne,e8,e9,d0,wk]
    exact ⟨⟨n,b + step,d⟩,by simp,fin _ z1 (by omega) (by omega),le_of (by simp [dslot])⟩
set_option maxHeartbeats 4000000 in
theorem rscope_c (l : List St) (lc : Cap) (i : Int) (hl : l.length ≤ 2 ^ 30) {h : AHeap} : AEx PP Gl 11 [.sl 4 (l.map encSt) lc,i64 i] h (.ret (.tup [i64 (rscopeF l i).1,i64 (rscopeF l i).2])) h:=by
 refine enter_ref04_Scope (by simp) ?_
 simp -implicitDefEqProofs [code_ref04_Scope,res_ref04_Scope,ann_ref04_Scope]
 by_cases c1 : i < 0
 ·simp -implicitDefEqProofs [c1]
  exact retE (by simp [deferred,dslot]) rfl (by simp [rscopeF,c1]) rfl
 by_cases c2 : (l.length : Int) ≤ i
 ·have hn : l[i.toNat]? = none:=List.getElem?_eq_none (by omega)
  simp -implicitDefEqProofs [c1,c2]
  exact retE (by simp [deferred,dslot]) rfl (by simp [rscopeF,c1,hn]) rfl
 obtain ⟨s0,hs0⟩ : ∃ s,l[i.toNat]? = some s:=⟨l[i.toNat]'(by omega),by simp⟩
 have hne : l ≠ []:=by intro e; rw [e] at hs0; simp at hs0
 obtain ⟨a,ha⟩ : ∃ a : Nat,i = a:=⟨i.toNat,by omega⟩
 subst ha
 have hal : a < l.length:=by omega
 simp only [Int.toNat_natCast] at hs0
 have hla : l[a]'hal = s0:=(List.getElem?_eq_some_iff.1 hs0).2
 have c2' : ¬ l.length ≤ a:=by omega
 have h1 : rscopeF l a = if s0.kind = 8 then rfF l 1 (l.length + 2) a 0 else if s0.kind = 9 then rfF l (-1) (l.length + 2) a 0 else (0,1):=by simp [rscopeF,c1,hs0]
 rw [h1]
 have hend : ∀ (R : Int × Int),(∀ e : Env,e.get 4 = some (i64 R.1) → e.get 5 = some (i64 R.2) → e.get dslot = none → retPost PP Gl h res_ref04_Scope (fun r h'=>r = .ret (.tup [i64 R.1,i64 R.2]) ∧ h' = h) .ret e h):=fun R e e1 e2 e3 =>
  retE (v:=.tup [i64 R.1,i64 R.2]) (by simp [deferred,e3]) (by simp [evalRes,res_ref04_Scope,mapM',evalRes1,evalOpd,e1,e2]) rfl rfl
 by_cases k8 : s0.kind = 8
 ·simp -implicitDefEqProofs [c1,c2,c2',hal,hs0,hla,encSt,hne,k8]
  refine rscope_loop l lc a 1 _ _ _ _ hl hal (.inl rfl) (le_of (by simp [dslot])) (fun e e1 e2 e3=>by simpa [res_ref04_Scope] using hend _ e e1 e2 e3) fun e e1 e2=>?_
  rw [e1]
  simp
  exact hend (0,5) _ (by simp [Env.get_put]) (by simp [Env.get_put]) (by simp [Env.get_put,dslot]; exact e2)
 by_cases k9 : s0.kind = 9
 ·simp -implicitDefEqProofs [c1,c2,c2',hal,hs0,hla,encSt,hne,k8,k9]
  refine rscope_loop l lc a (-1) _ _ _ _ hl hal (.inr rfl) (le_of (by simp [dslot])) (fun e e1 e2 e3=>by simpa [res_ref04_Scope] using hend _ e e1 e2 e3) fun e e1 e2=>?_
  rw [e1]
  simp
  exact hend (0,5) _ (by simp [Env.get_put]) (by simp [Env.get_put]) (by simp [Env.get_put,dslot]; exact e2)
 ·simp -implicitDefEqProofs [c1,c2,c2',hal,hs0,hla,encSt,hne,k8,k9]
  exact retE (by simp [deferred,dslot]) rfl rfl rfl
def isLab (s : St) : Bool:=decide (s.kind = 3 ∨ s.kind = 4 ∨ s.kind = 6 ∨ s.kind = 7)
def labF (l : List St) : List ByteArray:=(l.filter isLab).map St.label
theorem labF_step {l : List St} {i : Nat} {s : St} (hs : l[i]? = some s) : labF (l.take (i + 1)) = labF (l.take i) ++ if isLab s then [s.label] else []:=by
 rw [labF,labF,List.take_add_one,hs,List.filter_append,List.map_append]
 congr 1
 cases e : isLab s <;> simp [e]
theorem labF_len (l : List St) (i : Nat) : (labF (l.take i)).length ≤ l.length:=by
 rw [labF,List.length_map]
 exact Nat.le_trans (List.length_filter_le _ _) (by simp; omega)
structure LS where
 i : Nat
 T : Nat
 H : AHeap
theorem purL_strs (l : List ByteArray) : purL (l.map sv) = true:=purL_map (fun _=>rfl) l
set_option maxHeartbeats 4000000 in
theorem labels_c (l : List St) (lc : Cap) (hl : l.length ≤ 2 ^ 30) {h : AHeap} : AEx PP Gl 13 [.sl 4 (l.map encSt) lc] h (.ret (grown 1 ((labF l).map sv))) h:=by
 refine enter_scope_Labels (by simp) ?_
 simp -implicitDefEqProofs [code_scope_Labels,res_scope_Labels,ann_scope_Labels]
 refine AWp.till (S:=LS) ⟨0,0,h⟩ (fun st=>l.length - st.i) [6,7] (fun st=>[(3,apd 1 ((labF (l.take st.i)).map sv) st.T),(8,i64 (st.i : Int))]) (fun st=>st.H)
  (fun st=>st.i ≤ l.length ∧ Grow h.length st.H (labF (l.take st.i)).length st.T ∧ Low h.length h st.H) mixed ⟨by simp,.nil _ _ _ (Nat.le_refl _),.refl _ _⟩ (le_of (by simp [dslot,labF])) rfl ?_
 rintro ⟨i,T,H⟩ ⟨z1,z2,z3⟩
 simp only at z1 z2 z3
 by_cases hi : i < l.length
 case neg =>
  have hno : ¬ (i : Int) < l.length:=by omega
  have hfin : l.take i = l:=List.take_of_length_le (by omega)
  simp -implicitDefEqProofs [lp0_scope_Labels,hno,hfin]
  exact retP (v':=grown 1 ((labF l).map sv)) (by simp [deferred,dslot]) (by simp [evalRes,evalRes1]) (strip_apd _ _ _ T (purL_strip (purL_strs _))) (pur_grown _ (purL_strs _)) z3 rfl rfl
 obtain ⟨s,hs⟩ : ∃ s,l[i]? = some s:=⟨l[i],by simp [hi]⟩
 have hlt : (i : Int) < l.length:=by omega
 have hne : l ≠ []:=by rintro rfl; simp at hi
 have wi : IntKind.i64.wrap ((i : Int) + 1) = (i : Int) + 1:=IntWalk.i64_in _ (by omega)
 have hst:=labF_step hs
 have hll:=labF_len l i
 cases hlab : isLab s with
 | false =>
  rw [hlab] at hst
  simp only [Bool.false_eq_true,if_false,List.append_nil] at hst
  have hk:=of_decide_eq_false hlab
  have k3 : ¬ s.kind = 3:=fun e=>hk (.inl e)
  have k4 : ¬ s.kind = 4:=fun e=>hk (.inr (.inl e))
  have k6 : ¬ s.kind = 6:=fun e=>hk (.inr (.inr (.inl e)))
  have k7 : ¬ s.kind = 7:=fun e=>hk (.inr (.inr (.inr e)))
  simp -implicitDefEqProofs [lp0_scope_Labels,hlt,hne,hs,encSt,k3,k4,k6,k7,wi]
  exact ⟨⟨i + 1,T,H⟩,by simp; omega,⟨by simp; omega,by simp only; rw [hst]; exact z2,z3⟩,le_of (by simp [dslot,hst]),rfl⟩
 | true =>
  rw [hlab] at hst
  simp only [if_true] at hst
  have hk:=of_decide_eq_true hlab
  have fin : ∃ st : LS,l.length - st.i < l.length - i ∧ (st.i ≤ l.length ∧ Grow h.length st.H (labF (l.take st.i)).length st.T ∧ Low h.length h st.H) ∧ st.i = i + 1 ∧
    apd 1 ((labF (l.take st.i)).map sv) st.T = apd 1 ((labF (l.take i)).map sv ++ [sv s.label]) (apT H (labF (l.take i)).length 1 T) ∧ st.H = apG H (labF (l.take i)).length 1 T:=by
   refine ⟨⟨i + 1,apT H (labF (l.take i)).length 1 T,apG H (labF (l.take i)).length 1 T⟩,by simp; omega,⟨by simp; omega,?_,?_⟩,rfl,by simp [hst],rfl⟩
   ·simp only
    rw [hst,List.length_append]
    exact z2.app 1
   ·exact z3.trans (z2.lowG 1)
  obtain ⟨st,f1,f2,f3,f4,f5⟩:=fin
  rcases hk with k | k | k | k
  all_goals
   simp -implicitDefEqProofs [lp0_scope_Labels,hlt,hne,hs,encSt,k]
   refine appG ((labF (l.take i)).map sv) [sv s.label] T (by simp) (by simp [sv]) (fun hne=>by simpa using z2.tok (by simpa using hne)) (by simp; unfold maxLenA; omega) ?_
   simp -implicitDefEqProofs [wi]
   refine ⟨st,f1,f2,le_of ?_,?_⟩
   ·rw [f4,f3]; simp [dslot]
   ·rw [f5]
set_option maxHeartbeats 4000000 in
theorem rlabels_c (l : List St) (lc : Cap) (hl : l.length ≤ 2 ^ 30) {h : AHeap} : AEx PP Gl 14 [.sl 4 (l.map encSt) lc] h (.ret (apfV 1 ((labF l).map sv))) h:=by
 refine enter_ref04_Labels (by simp) ?_
 simp -implicitDefEqProofs [code_ref04_Labels,res_ref04_Labels,ann_ref04_Labels]
 refine AWp.till (S:=LS) ⟨0,0,h⟩ (fun st=>l.length - st.i) [0] (fun st=>[(3,apf 1 ((labF (l.take st.i)).map sv) st.T),(4,i64 (st.i : Int))]) (fun st=>st.H)
  (fun st=>st.i ≤ l.length ∧ Grow h.length st.H (labF (l.take st.i)).length st.T ∧ Low h.length h st.H) mixed ⟨by simp,.nil _ _ _ (Nat.le_refl _),.refl _ _⟩ (le_of (by simp [dslot,labF])) rfl ?_
 rintro ⟨i,T,H⟩ ⟨z1,z2,z3⟩
 simp only at z1 z2 z3
 by_cases hi : i < l.length
 case neg =>
  have hno : ¬ (i : Int) < l.length:=by omega
  have hfin : l.take i = l:=List.take_of_length_le (by omega)
  simp -implicitDefEqProofs [lp0_ref04_Labels,hno,hfin]
  exact retP (v':=apfV 1 ((labF l).map sv)) (by simp [deferred,dslot]) (by simp [evalRes,evalRes1]) (strip_apf _ _ _ T (purL_strip (purL_strs _))) (pur_apfV _ (purL_strs _)) z3 rfl rfl
 obtain ⟨s,hs⟩ : ∃ s,l[i]? = some s:=⟨l[i],by simp [hi]⟩
 have hlt : (i : Int) < l.length:=by omega
 have hne : l ≠ []:=by rintro rfl; simp at hi
 have wi : IntKind.i64.wrap ((i : Int) + 1) = (i : Int) + 1:=IntWalk.i64_in _ (by omega)
 have hst:=labF_step hs
 have hll:=labF_len l i
 cases hlab : isLab s with
 | false =>
  rw [hlab] at hst
  simp only [Bool.false_eq_true,if_false,List.append_nil] at hst
  have hk:=of_decide_eq_false hlab
  have k3 : ¬ s.kind = 3:=fun e=>hk (.inl e)
  have k4 : ¬ s.kind = 4:=fun e=>hk (.inr (.inl e))
  have k6 : ¬ s.kind = 6:=fun e=>hk (.inr (.inr (.inl e)))
  have k7 : ¬ s.kind = 7:=fun e=>hk (.inr (.inr (.inr e)))
  simp -implicitDefEqProofs [lp0_ref04_Labels,hlt,hne,hs,encSt,k3,k4,k6,k7,wi]
  exact ⟨⟨i + 1,T,H⟩,by simp; omega,⟨by simp; omega,by simp only; rw [hst]; exact z2,z3⟩,le_of (by simp [dslot,hst]),rfl⟩
 | true =>
  rw [hlab] at hst
  simp only [if_true] at hst
  have hk:=of_decide_eq_true hlab
  have fin : ∃ st : LS,l.length - st.i < l.length - i ∧ (st.i ≤ l.length ∧ Grow h.length st.H (labF (l.take st.i)).length st.T ∧ Low h.length h st.H) ∧ st.i = i + 1 ∧
    apf 1 ((labF (l.take st.i)).map sv) st.T = apf 1 ((labF (l.take i)).map sv ++ [sv s.label]) (apT H (labF (l.take i)).length 1 T) ∧ st.H = apG H (labF (l.take i)).length 1 T:=by
   refine ⟨⟨i + 1,apT H (labF (l.take i)).length 1 T,apG H (labF (l.take i)).length 1 T⟩,by simp; omega,⟨by simp; omega,?_,?_⟩,rfl,by simp [hst],rfl⟩
   ·simp only
    rw [hst,List.length_append]
    exact z2.app 1
   ·exact z3.trans (z2.lowG 1)
  obtain ⟨st,f1,f2,f3,f4,f5⟩:=fin
  rcases hk with k | k | k | k
  all_goals
   simp -implicitDefEqProofs [lp0_ref04_Labels,hlt,hne,hs,encSt,k]
   refine appF ((labF (l.take i)).map sv) [sv s.label] T (by simp) (by simp [sv]) (fun hne=>by simpa using z2.tok (by simpa using hne)) (by simp; unfold maxLenA; omega) ?_
   simp -implicitDefEqProofs [wi]
   refine ⟨st,f1,f2,le_of ?_,?_⟩
   ·rw [f4,f3]; simp [dslot]
   ·rw [f5]
end Go.Apx
end
section
namespace Go.Apx
open Go.Proofs
set_option linter.unusedVariables false
set_option linter.unusedSimpArgs false
set_option linter.unnecessarySimpa false
set_option maxRecDepth 4000
theorem awake_c {h : AHeap} : AEx PP Gl 9 [] h (.ret (.sc (.bool true))) h:=KOk.at aw_root rfl rfl
set_option maxHeartbeats 4000000 in
theorem ends_c (l : List St) (lc : Cap) (i : Int) (hl : l.length ≤ 2 ^ 30) {h : AHeap} :
  AEx PP Gl 3 [.sl 4 (l.map encSt) lc,i64 i] h (.ret (.sc (.bool true))) h:=by
 refine enter_law04_ScopeEnds (by simp) ?_
 simp -implicitDefEqProofs [code_law04_ScopeEnds,res_law04_ScopeEnds,ann_law04_ScopeEnds]
 by_cases h200 : 200 < l.length
 ·have h200' : (200 : Int) < l.length:=by omega
  have h201 : ¬ (l.length : Int) ≤ 200:=by omega
  simp -implicitDefEqProofs [h200',h201]
  refine callk awake_c rfl rfl ?_
  simp -implicitDefEqProofs
  exact retE (by simp [deferred,dslot]) rfl rfl rfl
 have h200' : ¬ (200 : Int) < l.length:=by omega
 have h201 : (l.length : Int) ≤ 200:=by omega
 simp -implicitDefEqProofs [h200',h201]
 refine callk (scope_c l lc i hl) rfl rfl ?_
 simp -implicitDefEqProofs
 refine callk (rscope_c l lc i hl) rfl rfl ?_
 rw [rscope_eq]
 simp -implicitDefEqProofs
 refine callk (labels_c l lc hl) rfl rfl ?_
 simp -implicitDefEqProofs
 refine callk (rlabels_c l lc hl) rfl rfl ?_
 simp -implicitDefEqProofs
 have hlab : (labF l).length ≤ 2 ^ 31:=by have:=labF_len l l.length; rw [List.take_of_length_le (Nat.le_refl _)] at this; omega
 refine callk2 (eqS_c (labF l) (labF l) 1 1 _ _ (.inl rfl) (.inl rfl) hlab) (.cons (AVLe.grown 1 _) (.cons (AVLe.refl _) .nil)) rfl ?_
 simp -implicitDefEqProofs
 refine callk awake_c rfl rfl ?_
 simp -implicitDefEqProofs
 exact retE (by simp [deferred,dslot]) rfl rfl rfl
end Go.Apx
end
