/- Walks: slices.Equal at strings and at pairs. -/
import Derived.Test.YtmgajcmigkcmdaaGreatDoorCode
import Derived.Test.YtmgajcmigkcmdaaGreatDoorAmC
import Derived.Test.YtmgajcmigkcmdaaGreatDoorNA
import Derived.Test.YtmgajcmigkcmdaaGreatDoorAw
set_option linter.unusedVariables false
set_option linter.unusedSimpArgs false
set_option linter.unnecessarySimpa false
section
namespace Go.Apx
open Go.Proofs
set_option maxRecDepth 4000
theorem take_ext {α:Type} {a b:List α} {i:Nat} {x y:α} (ha:a[i]?=some x) (hb:b[i]?=some y):a.take (i+1)=b.take (i+1) ↔ a.take i=b.take i /\ x=y:=by
 rw [List.take_add_one,List.take_add_one,ha,hb]
 have hl:(a.take i).length=(b.take i).length:=by
  have:=lt_of ha; have:=lt_of hb
  simp; omega
 constructor
 .intro h
  have:=List.append_inj h hl
  exact ⟨this.1,by simpa using this.2⟩
 .rintro ⟨h,rfl⟩; rw [h]
set_option maxHeartbeats 4000000 in
theorem eqS_c (a b:List ByteArray) (j1 j2:Nat) (c1 c2:Cap) (h1:j1=1 \/ a=[]) (h2:j2=1 \/ b=[]) (hl:a.length <= 2 ^ 31) {h:AHeap} :
  AEx PP Gl 12 [.sl j1 (a.map sv) c1,.sl j2 (b.map sv) c2] h (.ret (.sc (.bool (decide (a=b))))) h:=by
 refine enter_12 (by simp) ?_
 simp -implicitDefEqProofs [code_12,res_12,ann_12]
 by_cases hlen:a.length=b.length
 case neg =>
  have hlen':¬ ((a.length:Int)=b.length):=by omega
  simp -implicitDefEqProofs [hlen,hlen']
  exact retE (by simp [deferred,dslot]) rfl (by rw [decide_eq_false (by rintro rfl; exact hlen rfl)]) rfl
 simp -implicitDefEqProofs [hlen]
 refine AWp.cnt b.length [0,1,12] (fun i=>[(13,i64 (i:Int))]) (fun _=>h) (fun i=>a.take i=b.take i) mixed (by simp) (le_of (by simp [dslot])) rfl ?_ ?_
 .intro i hi hz
  obtain ⟨x,hx⟩:∃ x,a[i]?=some x:=⟨a[i],by simp [show i < a.length by omega]⟩
  obtain ⟨y,hy⟩:∃ y,b[i]?=some y:=⟨b[i],by simp [hi]⟩
  obtain rfl:=h1.resolve_right (by rintro rfl; simp at hx)
  obtain rfl:=h2.resolve_right (by rintro rfl; simp at hy)
  have hlt:(i:Int) < b.length:=by omega
  have wi:IntKind.i64.wrap ((i:Int)+1)=(i:Int)+1:=IntWalk.i64_in _ (by omega)
  have hiff:=take_ext hx hy
  by_cases e:x=y
  .simp -implicitDefEqProofs [lp0_12,hlt,hx,hy,e,wi]
   exact ⟨hiff.2 ⟨hz,e⟩,le_of (by simp [dslot])⟩
  .simp -implicitDefEqProofs [lp0_12,hlt,hx,hy,e,wi]
   refine retE (by simp [deferred,dslot]) rfl ?_ rfl
   rw [decide_eq_false (fun hab=>e (by rw [hab,hy] at hx; exact (Option.some.inj hx).symm))]
 .intro hz
  have hab:a=b:=by rwa [<- hlen,List.take_of_length_le (Nat.le_refl _),hlen,List.take_of_length_le (Nat.le_refl _)] at hz
  simp -implicitDefEqProofs [lp0_12]
  exact retE (by simp [deferred,dslot]) rfl (by rw [decide_eq_true hab]) rfl
abbrev Pr:=ByteArray × ByteArray
def encP (p:Pr):AV:=.agg [sv p.1,sv p.2]
@[simp] theorem isPend_encP (p:Pr):(encP p).isPend=false:=rfl
@[simp] theorem cells_encP (p:Pr):(encP p).cells=[sv p.1,sv p.2]:=rfl
theorem pur_encP (p:Pr):(encP p).pur=true:=rfl
set_option maxHeartbeats 4000000 in
theorem eqP_c (a b:List Pr) (j1 j2:Nat) (c1 c2:Cap) (h1:j1=2 \/ a=[]) (h2:j2=2 \/ b=[]) (hl:a.length <= 2 ^ 31) {h:AHeap} :
  AEx PP Gl 25 [.sl j1 (a.map encP) c1,.sl j2 (b.map encP) c2] h (.ret (.sc (.bool (decide (a=b))))) h:=by
 refine enter_25 (by simp) ?_
 simp -implicitDefEqProofs [code_25,res_25,ann_25]
 by_cases hlen:a.length=b.length
 case neg =>
  have hlen':¬ ((a.length:Int)=b.length):=by omega
  simp -implicitDefEqProofs [hlen,hlen']
  exact retE (by simp [deferred,dslot]) rfl (by rw [decide_eq_false (by rintro rfl; exact hlen rfl)]) rfl
 simp -implicitDefEqProofs [hlen]
 refine AWp.cnt b.length [0,1,12] (fun i=>[(13,i64 (i:Int))]) (fun _=>h) (fun i=>a.take i=b.take i) mixed (by simp) (le_of (by simp [dslot])) rfl ?_ ?_
 .intro i hi hz
  obtain ⟨⟨x,x'⟩,hx⟩:∃ x,a[i]?=some x:=⟨a[i],by simp [show i < a.length by omega]⟩
  obtain ⟨⟨y,y'⟩,hy⟩:∃ y,b[i]?=some y:=⟨b[i],by simp [hi]⟩
  obtain rfl:=h1.resolve_right (by rintro rfl; simp at hx)
  obtain rfl:=h2.resolve_right (by rintro rfl; simp at hy)
  have hlt:(i:Int) < b.length:=by omega
  have wi:IntKind.i64.wrap ((i:Int)+1)=(i:Int)+1:=IntWalk.i64_in _ (by omega)
  have hiff:=take_ext hx hy
  have hne:¬ (x=y /\ x'=y') -> decide (a=b)=false:=fun e=>decide_eq_false (fun hab=>e (by rw [hab,hy] at hx; have:=Option.some.inj hx; simp at this; exact ⟨this.1.symm,this.2.symm⟩))
  by_cases e:x=y
  .by_cases e':x'=y'
   .subst e e'
    simp -implicitDefEqProofs [lp0_25,hlt,hx,hy,wi,encP,cellsEq]
    exact ⟨hiff.2 ⟨hz,rfl⟩,le_of (by simp [dslot])⟩
   .simp -implicitDefEqProofs [lp0_25,hlt,hx,hy,e,e',wi,encP,cellsEq]
    exact retE (by simp [deferred,dslot]) rfl (by rw [hne (fun h=>e' h.2)]) rfl
  .simp -implicitDefEqProofs [lp0_25,hlt,hx,hy,e,wi,encP,cellsEq]
   exact retE (by simp [deferred,dslot]) rfl (by rw [hne (fun h=>e h.1)]) rfl
 .intro hz
  have hab:a=b:=by rwa [<- hlen,List.take_of_length_le (Nat.le_refl _),hlen,List.take_of_length_le (Nat.le_refl _)] at hz
  simp -implicitDefEqProofs [lp0_25]
  exact retE (by simp [deferred,dslot]) rfl (by rw [decide_eq_true hab]) rfl
end Go.Apx
end
section
namespace Go.Apx
open Go.Proofs
set_option maxRecDepth 4000
structure St where
 kind:Int
 label:ByteArray
 text:List ByteArray
 proof:List ByteArray
 tc:Cap
 pc:Cap
def encSt (s:St):AV:=.agg [i64 s.kind,.sc (.string s.label),.sl 1 (s.text.map sv) s.tc,.sl 1 (s.proof.map sv) s.pc]
end Go.Apx
end
section
namespace Go.Apx
open Go.Proofs
set_option maxRecDepth 4000
theorem awake_c {h:AHeap}:AEx PP Gl 9 [] h (.ret (.sc (.bool true))) h:=KOk.at aw_root rfl rfl
end Go.Apx
end
