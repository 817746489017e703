/- Walks: the reference's classes of words (leaves by program gen50.py). -/
import Derived.Test.YtmgajcmigkcmdaaGreatDoorNK
set_option linter.unusedVariables false
set_option linter.unusedSimpArgs false
set_option linter.unnecessarySimpa false
section
namespace Go.Apx
open Go.Proofs Go.Shelf
set_option maxRecDepth 4000
def prB (b:Nat):Bool:=decide (33 <= b) && decide (b <= 126)
def lcB (b:Nat):Bool:=(decide (97 <= b) && decide (b <= 122)) || ((decide (65 <= b) && decide (b <= 90)) || ((decide (48 <= b) && decide (b <= 57)) || (decide (b=45) || (decide (b=95) || decide (b=46)))))
set_option maxHeartbeats 2000000 in
theorem printable_c (b:Nat) {h:AHeap}:AEx PP Gl 139 [.sc (.int .u8 (b:Int))] h (.ret (.sc (.bool (prB b)))) h:=by
 have fin:∀ x:Bool,x=prB b -> AEnd.ret (.sc (.bool x))=AEnd.ret (.sc (.bool (prB b))):=fun x e=>by rw [e]
 refine enter_139 (by simp) ?_
 by_cases c1:33 <= b
 .have c1':(33:Int) <= b:=by omega
  by_cases c2:b <= 126
  .have c2':(b:Int) <= 126:=by omega
   simp -implicitDefEqProofs [code_139,res_139,ann_139,c1',c2',c1,c2]
   exact retE (v:=.sc (.bool true)) (by simp [deferred,dslot]) rfl (fin _ (by simp [prB,c1,c2])) rfl
  .have c2':¬ (b:Int) <= 126:=by omega
   have c2'':(126:Int) < b:=by omega
   simp -implicitDefEqProofs [code_139,res_139,ann_139,c1',c2',c1,c2,c2'']
   exact retE (v:=.sc (.bool false)) (by simp [deferred,dslot]) rfl (fin _ (by simp [prB,c1,c2])) rfl
 .have c1':¬ (33:Int) <= b:=by omega
  have c1'':(b:Int) < 33:=by omega
  simp -implicitDefEqProofs [code_139,res_139,ann_139,c1',c1,c1'']
  exact retE (v:=.sc (.bool false)) (by simp [deferred,dslot]) rfl (fin _ (by simp [prB,c1])) rfl
def wordR (s:ByteArray):Bool:=allB prB s && decide (s ≠ ⟨#[]⟩)
theorem allB_more {p:Nat -> Bool} {s:ByteArray} {i:Nat} (z:∀ j,j < i -> p (bAt s j)=true) (hp:p (bAt s i)=true):∀ j,j < i+1 -> p (bAt s j)=true:=fun j hj=>by
 rcases Nat.lt_or_ge j i with h1 | h1
 .exact z j h1
 .obtain rfl:j=i:=by omega
  exact hp
set_option maxHeartbeats 4000000 in
theorem isWord_c (s:ByteArray) (hs:s.size <= 2 ^ 31) {h:AHeap}:AEx PP Gl 131 [sv s] h (.ret (.sc (.bool (wordR s)))) h:=by
 refine enter_131 (by simp) ?_
 simp -implicitDefEqProofs [code_131,res_131,ann_131]
 refine AWp.till (S:=PuS) ⟨0⟩ (fun x=>s.size - x.i) [0] (fun x=>[(3,i64 (x.i:Int))]) (fun _=>h)
  (fun x=>x.i <= s.size /\ ∀ j,j < x.i -> prB (bAt s j)=true) mixed ⟨by simp,by intro j hj; simp at hj⟩ (le_of (by simp [dslot])) rfl ?_
 rintro ⟨i⟩ ⟨z1,z2⟩
 simp only at z1 z2
 by_cases hi:i < s.size
 case neg =>
  have hno:¬ (i:Int) < s.size:=by omega
  obtain rfl:i=s.size:=by omega
  have ht:=allB_true.2 z2
  simp -implicitDefEqProofs [lp0_131,hno]
  exact retE (v:=.sc (.bool (!decide (s=⟨#[]⟩)))) (by simp [deferred,dslot]) rfl (by simp [wordR,ht]) rfl
 have hlt:(i:Int) < s.size:=by omega
 have wi:IntKind.i64.wrap ((i:Int)+1)=(i:Int)+1:=IntWalk.i64_in _ (by omega)
 obtain ⟨b,hb,hb2⟩:=bAt_get hi
 simp -implicitDefEqProofs [lp0_131,hlt,hi,<- hb]
 refine callk (printable_c b.toNat) rfl rfl ?_
 cases hp:prB b.toNat with
 | true =>
  simp -implicitDefEqProofs [wi]
  exact ⟨⟨i+1⟩,by simp; omega,⟨by simp; omega,allB_more z2 (by rw [<- hb2]; exact hp)⟩,le_of (by simp [dslot])⟩
 | false =>
  simp -implicitDefEqProofs
  exact retE (v:=.sc (.bool false)) (by simp [deferred,dslot]) rfl (by simp [wordR,allB_false hi (by rw [<- hb2]; exact hp)]) rfl
def symR (s:ByteArray):Bool:=allB (fun b=>decide (b ≠ 36)) s && (wordR s && decide (s.size <= 60))
set_option maxHeartbeats 4000000 in
theorem isSymR_c (s:ByteArray) (hs:s.size <= 2 ^ 31) {h:AHeap}:AEx PP Gl 109 [sv s] h (.ret (.sc (.bool (symR s)))) h:=by
 refine enter_109 (by simp) ?_
 simp -implicitDefEqProofs [code_109,res_109,ann_109]
 refine AWp.till (S:=PuS) ⟨0⟩ (fun x=>s.size - x.i) [0] (fun x=>[(3,i64 (x.i:Int))]) (fun _=>h)
  (fun x=>x.i <= s.size /\ ∀ j,j < x.i -> decide (bAt s j ≠ 36)=true) mixed ⟨by simp,by intro j hj; simp at hj⟩ (le_of (by simp [dslot])) rfl ?_
 rintro ⟨i⟩ ⟨z1,z2⟩
 simp only at z1 z2
 by_cases hi:i < s.size
 case neg =>
  have hno:¬ (i:Int) < s.size:=by omega
  obtain rfl:i=s.size:=by omega
  have ht:allB (fun b=>decide (b ≠ 36)) s=true:=allB_true.2 z2
  simp -implicitDefEqProofs [lp0_109,hno]
  refine callk (isWord_c s hs) rfl rfl ?_
  cases hw:wordR s with
  | false =>
   simp -implicitDefEqProofs
   exact retE (v:=.sc (.bool false)) (by simp [deferred,dslot]) rfl (by unfold symR; rw [hw]; simp) rfl
  | true =>
   have h60:decide ((s.size:Int) <= 60)=decide (s.size <= 60):=decide_eq_decide.2 (by omega)
   simp -implicitDefEqProofs
   exact retE (v:=.sc (.bool (decide ((s.size:Int) <= 60)))) (by simp [deferred,dslot]) rfl (by unfold symR; rw [hw,ht,h60]; simp) rfl
 have hlt:(i:Int) < s.size:=by omega
 have wi:IntKind.i64.wrap ((i:Int)+1)=(i:Int)+1:=IntWalk.i64_in _ (by omega)
 obtain ⟨b,hb,hb2⟩:=bAt_get hi
 by_cases h36:b.toNat=36
 .have h36':(b.toNat:Int)=36:=by omega
  simp -implicitDefEqProofs [lp0_109,hlt,hi,<- hb,h36,h36']
  exact retE (v:=.sc (.bool false)) (by simp [deferred,dslot]) rfl (by unfold symR; rw [allB_false hi (by rw [<- hb2,h36]; rfl)]; rfl) rfl
 .have h36':¬ (b.toNat:Int)=36:=by omega
  simp -implicitDefEqProofs [lp0_109,hlt,hi,<- hb,h36,h36',wi]
  exact ⟨⟨i+1⟩,by simp; omega,⟨by simp; omega,fun j hj=>by have:=allB_more (p:=fun b=>decide (b ≠ 36)) z2 (by simpa [<- hb2] using h36) j hj; simpa using this⟩,le_of (by simp [dslot])⟩
def labR2 (s:ByteArray):Bool:=allB lcB s && (decide (s ≠ ⟨#[]⟩) && decide (s.size <= 60))
set_option maxHeartbeats 16000000 in
theorem isLabR_c (s:ByteArray) (hs:s.size <= 2 ^ 31) {h:AHeap}:AEx PP Gl 106 [sv s] h (.ret (.sc (.bool (labR2 s)))) h:=by
 refine enter_106 (by simp) ?_
 simp -implicitDefEqProofs [code_106,res_106,ann_106]
 refine AWp.till (S:=PuS) ⟨0⟩ (fun x=>s.size - x.i) [0] (fun x=>[(3,i64 (x.i:Int))]) (fun _=>h)
  (fun x=>x.i <= s.size /\ ∀ j,j < x.i -> lcB (bAt s j)=true) mixed ⟨by simp,by intro j hj; simp at hj⟩ (le_of (by simp [dslot])) rfl ?_
 rintro ⟨i⟩ ⟨z1,z2⟩
 simp only at z1 z2
 by_cases hi:i < s.size
 case neg =>
  have hno:¬ (i:Int) < s.size:=by omega
  obtain rfl:i=s.size:=by omega
  have ht:=allB_true.2 z2
  by_cases he:s=⟨#[]⟩
  .simp -implicitDefEqProofs [lp0_106,hno,he]
   exact retE (v:=.sc (.bool false)) (by simp [deferred,dslot]) rfl (by unfold labR2; simp) rfl
  .have h60:decide ((s.size:Int) <= 60)=decide (s.size <= 60):=decide_eq_decide.2 (by omega)
   simp -implicitDefEqProofs [lp0_106,hno,he]
   exact retE (v:=.sc (.bool (decide ((s.size:Int) <= 60)))) (by simp [deferred,dslot]) rfl (by unfold labR2; rw [ht,h60]; simp [he]) rfl
 have hlt:(i:Int) < s.size:=by omega
 have wi:IntKind.i64.wrap ((i:Int)+1)=(i:Int)+1:=IntWalk.i64_in _ (by omega)
 obtain ⟨b,hb,hb2⟩:=bAt_get hi
 obtain ⟨n,hn⟩:∃ n,n=b.toNat:=⟨_,rfl⟩
 have yes:lcB n=true -> ∀ j,j < i+1 -> lcB (bAt s j)=true:=fun e=>allB_more z2 (by rw [<- hb2,<- hn]; exact e)
 have no:lcB n=false -> labR2 s=false:=fun e=>by unfold labR2; rw [allB_false hi (by rw [<- hb2,<- hn]; exact e)]; rfl
 by_cases x2:97 <= n
 .by_cases x4:n <= 122
  .have ka:(97:Int) <= n:=by omega
   have kb:(n:Int) <= 122:=by omega
   simp -implicitDefEqProofs [lp0_106,hlt,hi,<- hb,<- hn,wi,ka,kb]
   exact ⟨⟨i+1⟩,by simp; omega,⟨by simp; omega,yes (by simp [lcB]; omega)⟩,le_of (by simp [dslot])⟩
  .have ka:(97:Int) <= n:=by omega
   have kb:¬ (n:Int) <= 122:=by omega
   have lb:(122:Int) < n:=by omega
   have kc:(65:Int) <= n:=by omega
   have kd:¬ (n:Int) <= 90:=by omega
   have ld:(90:Int) < n:=by omega
   have ke:¬ (n:Int) < 48:=by omega
   have le:(48:Int) <= n:=by omega
   have kf:(57:Int) < n:=by omega
   have lf:¬ (n:Int) <= 57:=by omega
   have kg:¬ (n:Int)=45:=by omega
   have kh:¬ (n:Int)=95:=by omega
   have ki:¬ (n:Int)=46:=by omega
   simp -implicitDefEqProofs [lp0_106,hlt,hi,<- hb,<- hn,wi,ka,kb,lb,kc,kd,ld,ke,le,kf,lf,kg,kh,ki]
   exact retE (v:=.sc (.bool false)) (by simp [deferred,dslot]) rfl (by rw [no (by simp [lcB]; omega)]) rfl
 .by_cases x4:65 <= n
  .by_cases x6:n <= 90
   .have ka:¬ (97:Int) <= n:=by omega
    have la:(n:Int) < 97:=by omega
    have kc:(65:Int) <= n:=by omega
    have kd:(n:Int) <= 90:=by omega
    simp -implicitDefEqProofs [lp0_106,hlt,hi,<- hb,<- hn,wi,ka,la,kc,kd]
    exact ⟨⟨i+1⟩,by simp; omega,⟨by simp; omega,yes (by simp [lcB]; omega)⟩,le_of (by simp [dslot])⟩
   .by_cases x8:n=95
    .have ka:¬ (97:Int) <= n:=by omega
     have la:(n:Int) < 97:=by omega
     have kc:(65:Int) <= n:=by omega
     have kd:¬ (n:Int) <= 90:=by omega
     have ld:(90:Int) < n:=by omega
     have ke:¬ (n:Int) < 48:=by omega
     have le:(48:Int) <= n:=by omega
     have kf:(57:Int) < n:=by omega
     have lf:¬ (n:Int) <= 57:=by omega
     have kg:¬ (n:Int)=45:=by omega
     have kh:(n:Int)=95:=by omega
     simp -implicitDefEqProofs [lp0_106,hlt,hi,<- hb,<- hn,wi,ka,la,kc,kd,ld,ke,le,kf,lf,kg,kh]
     exact ⟨⟨i+1⟩,by simp; omega,⟨by simp; omega,yes (by simp [lcB]; omega)⟩,le_of (by simp [dslot])⟩
    .have ka:¬ (97:Int) <= n:=by omega
     have la:(n:Int) < 97:=by omega
     have kc:(65:Int) <= n:=by omega
     have kd:¬ (n:Int) <= 90:=by omega
     have ld:(90:Int) < n:=by omega
     have ke:¬ (n:Int) < 48:=by omega
     have le:(48:Int) <= n:=by omega
     have kf:(57:Int) < n:=by omega
     have lf:¬ (n:Int) <= 57:=by omega
     have kg:¬ (n:Int)=45:=by omega
     have kh:¬ (n:Int)=95:=by omega
     have ki:¬ (n:Int)=46:=by omega
     simp -implicitDefEqProofs [lp0_106,hlt,hi,<- hb,<- hn,wi,ka,la,kc,kd,ld,ke,le,kf,lf,kg,kh,ki]
     exact retE (v:=.sc (.bool false)) (by simp [deferred,dslot]) rfl (by rw [no (by simp [lcB]; omega)]) rfl
  .by_cases x6:n < 48
   .by_cases x8:n=45
    .have ka:¬ (97:Int) <= n:=by omega
     have la:(n:Int) < 97:=by omega
     have kc:¬ (65:Int) <= n:=by omega
     have lc:(n:Int) < 65:=by omega
     have ke:(n:Int) < 48:=by omega
     have le:¬ (48:Int) <= n:=by omega
     have kg:(n:Int)=45:=by omega
     simp -implicitDefEqProofs [lp0_106,hlt,hi,<- hb,<- hn,wi,ka,la,kc,lc,ke,le,kg]
     exact ⟨⟨i+1⟩,by simp; omega,⟨by simp; omega,yes (by simp [lcB]; omega)⟩,le_of (by simp [dslot])⟩
    .by_cases x10:n=46
     .have ka:¬ (97:Int) <= n:=by omega
      have la:(n:Int) < 97:=by omega
      have kc:¬ (65:Int) <= n:=by omega
      have lc:(n:Int) < 65:=by omega
      have ke:(n:Int) < 48:=by omega
      have le:¬ (48:Int) <= n:=by omega
      have kg:¬ (n:Int)=45:=by omega
      have kh:¬ (n:Int)=95:=by omega
      have ki:(n:Int)=46:=by omega
      simp -implicitDefEqProofs [lp0_106,hlt,hi,<- hb,<- hn,wi,ka,la,kc,lc,ke,le,kg,kh,ki]
      exact ⟨⟨i+1⟩,by simp; omega,⟨by simp; omega,yes (by simp [lcB]; omega)⟩,le_of (by simp [dslot])⟩
     .have ka:¬ (97:Int) <= n:=by omega
      have la:(n:Int) < 97:=by omega
      have kc:¬ (65:Int) <= n:=by omega
      have lc:(n:Int) < 65:=by omega
      have ke:(n:Int) < 48:=by omega
      have le:¬ (48:Int) <= n:=by omega
      have kg:¬ (n:Int)=45:=by omega
      have kh:¬ (n:Int)=95:=by omega
      have ki:¬ (n:Int)=46:=by omega
      simp -implicitDefEqProofs [lp0_106,hlt,hi,<- hb,<- hn,wi,ka,la,kc,lc,ke,le,kg,kh,ki]
      exact retE (v:=.sc (.bool false)) (by simp [deferred,dslot]) rfl (by rw [no (by simp [lcB]; omega)]) rfl
   .by_cases x8:57 < n
    .have ka:¬ (97:Int) <= n:=by omega
     have la:(n:Int) < 97:=by omega
     have kc:¬ (65:Int) <= n:=by omega
     have lc:(n:Int) < 65:=by omega
     have ke:¬ (n:Int) < 48:=by omega
     have le:(48:Int) <= n:=by omega
     have kf:(57:Int) < n:=by omega
     have lf:¬ (n:Int) <= 57:=by omega
     have kg:¬ (n:Int)=45:=by omega
     have kh:¬ (n:Int)=95:=by omega
     have ki:¬ (n:Int)=46:=by omega
     simp -implicitDefEqProofs [lp0_106,hlt,hi,<- hb,<- hn,wi,ka,la,kc,lc,ke,le,kf,lf,kg,kh,ki]
     exact retE (v:=.sc (.bool false)) (by simp [deferred,dslot]) rfl (by rw [no (by simp [lcB]; omega)]) rfl
    .have ka:¬ (97:Int) <= n:=by omega
     have la:(n:Int) < 97:=by omega
     have kc:¬ (65:Int) <= n:=by omega
     have lc:(n:Int) < 65:=by omega
     have ke:¬ (n:Int) < 48:=by omega
     have le:(48:Int) <= n:=by omega
     have kf:¬ (57:Int) < n:=by omega
     have lf:(n:Int) <= 57:=by omega
     simp -implicitDefEqProofs [lp0_106,hlt,hi,<- hb,<- hn,wi,ka,la,kc,lc,ke,le,kf,lf]
     exact ⟨⟨i+1⟩,by simp; omega,⟨by simp; omega,yes (by simp [lcB]; omega)⟩,le_of (by simp [dslot])⟩
def proR (s:ByteArray):Bool:=decide (s=⟨#[40]⟩) || (decide (s=⟨#[41]⟩) || (allB (fun b=>decide (b=63) || lcB b) s && decide (s ≠ ⟨#[]⟩)))
theorem labR2_one {t:ByteArray} {b:Nat} (h1:t.size=1) (hb:bAt t 0=b):labR2 t=lcB b:=by
 unfold labR2 allB
 have hne:t ≠ ⟨#[]⟩:=fun e=>by rw [empty_size.1 e] at h1; cases h1
 rw [h1]
 simp [hb,hne]
set_option maxHeartbeats 8000000 in
theorem isProR_c (s:ByteArray) (hs:s.size <= 2 ^ 31) {h:AHeap}:AEx PP Gl 110 [sv s] h (.ret (.sc (.bool (proR s)))) h:=by
 refine enter_110 (by simp) ?_
 by_cases e1:s=⟨#[40]⟩
 .simp -implicitDefEqProofs [code_110,res_110,ann_110,e1]
  exact retE (v:=.sc (.bool true)) (by simp [deferred,dslot]) rfl (by simp [proR]) rfl
 by_cases e2:s=⟨#[41]⟩
 .simp -implicitDefEqProofs [code_110,res_110,ann_110,e1,e2]
  exact retE (v:=.sc (.bool true)) (by simp [deferred,dslot]) rfl (by simp [proR]) rfl
 have hp:proR s=(allB (fun b=>decide (b=63) || lcB b) s && decide (s ≠ ⟨#[]⟩)):=by unfold proR; simp [e1,e2]
 rw [hp]
 simp -implicitDefEqProofs [code_110,res_110,ann_110,e1,e2]
 refine AWp.till (S:=PuS) ⟨0⟩ (fun x=>s.size - x.i) [0] (fun x=>[(3,i64 (x.i:Int))]) (fun _=>h)
  (fun x=>x.i <= s.size /\ ∀ j,j < x.i -> (decide (bAt s j=63) || lcB (bAt s j))=true) mixed ⟨by simp,by intro j hj; simp at hj⟩ (le_of (by simp [dslot])) rfl ?_
 rintro ⟨i⟩ ⟨z1,z2⟩
 simp only at z1 z2
 by_cases hi:i < s.size
 case neg =>
  have hno:¬ (i:Int) < s.size:=by omega
  obtain rfl:i=s.size:=by omega
  have ht:allB (fun b=>decide (b=63) || lcB b) s=true:=allB_true.2 z2
  simp -implicitDefEqProofs [lp0_110,hno]
  exact retE (v:=.sc (.bool (!decide (s=⟨#[]⟩)))) (by simp [deferred,dslot]) rfl (by rw [ht]; simp) rfl
 have hlt:(i:Int) < s.size:=by omega
 have wi:IntKind.i64.wrap ((i:Int)+1)=(i:Int)+1:=IntWalk.i64_in _ (by omega)
 obtain ⟨b,hb,hb2⟩:=bAt_get hi
 have yes:(decide (b.toNat=63) || lcB b.toNat)=true -> ∀ j,j < i+1 -> (decide (bAt s j=63) || lcB (bAt s j))=true:=fun e=>allB_more (p:=fun b=>decide (b=63) || lcB b) z2 (by rw [<- hb2]; exact e)
 by_cases h63:b.toNat=63
 .have h63':(b.toNat:Int)=63:=by omega
  simp -implicitDefEqProofs [lp0_110,hlt,hi,<- hb,h63,h63',wi]
  exact ⟨⟨i+1⟩,by simp; omega,⟨by simp; omega,fun j hj=>by have:=yes (by rw [h63]; rfl) j hj; simpa using this⟩,le_of (by simp [dslot])⟩
 have h63':¬ (b.toNat:Int)=63:=by omega
 have h01:(0:Int) <= (i:Int)+1:=by omega
 have hi1:i+1 <= s.size:=hi
 obtain ⟨t,ht⟩:∃ t,t=s.extract i (i+1):=⟨_,rfl⟩
 have t1:t.size=1:=by rw [ht,ByteArray.size_extract]; omega
 have tb:bAt t 0=b.toNat:=by
  rw [hb2]
  have h1:0 < (s.extract i (i+1)).size:=by rw [ByteArray.size_extract]; omega
  have h2:(s.extract i (i+1))[0]'h1=s[i]:=by simp [ByteArray.getElem_extract]
  rw [ht]; unfold bAt; rw [getElem?_pos _ 0 h1,h2,getElem?_pos s i hi]
 have hl:=isLabR_c t (by rw [t1]; decide) (h:=h)
 rw [labR2_one t1 tb] at hl
 simp -implicitDefEqProofs [lp0_110,hlt,hi,<- hb,h63,h63',wi,h01,hi1,<- ht]
 refine callk hl rfl rfl ?_
 cases hc:lcB b.toNat with
 | true =>
  simp -implicitDefEqProofs [wi]
  exact ⟨⟨i+1⟩,by simp; omega,⟨by simp; omega,fun j hj=>by have:=yes (by rw [hc]; simp) j hj; simpa using this⟩,le_of (by simp [dslot])⟩
 | false =>
  simp -implicitDefEqProofs
  exact retE (v:=.sc (.bool false)) (by simp [deferred,dslot]) rfl (by rw [allB_false hi (by rw [<- hb2,hc]; simp [h63])]; rfl) rfl
theorem lc_cls (b:Nat):decide (cls b ∈ [2])=lcB b:=by
 unfold cls lcB
 rw [<- Bool.decide_and,<- Bool.decide_and,<- Bool.decide_and,<- Bool.decide_or,<- Bool.decide_or,<- Bool.decide_or,<- Bool.decide_or,<- Bool.decide_or]
 refine decide_eq_decide.2 ?_
 simp only [List.mem_singleton]
 split
 .simp; omega
 split
 .simp; omega
 split
 .rename_i h; simp; omega
 split
 .simp; omega
 .simp; omega
theorem sy_cls (b:Nat):decide (cls b ∈ [2,3])=(decide (b ≠ 36) && prB b):=by
 unfold cls prB
 rw [<- Bool.decide_and,<- Bool.decide_and]
 refine decide_eq_decide.2 ?_
 simp only [List.mem_cons,List.not_mem_nil,or_false]
 split
 .simp; omega
 split
 .simp; omega
 split
 .rename_i h; simp; omega
 split
 .simp; omega
 .simp; omega
theorem allB_and (p q:Nat -> Bool) (s:ByteArray):allB (fun b=>p b && q b) s=(allB p s && allB q s):=by
 unfold allB
 induction List.range s.size with
 | nil=>rfl
 | cons a l ih=>simp only [List.all_cons,ih]; cases p (bAt s a) <;> cases q (bAt s a) <;> simp
theorem labR2_eq (s:ByteArray):labR2 s=labB s:=by
 unfold labR2 labB onlyF
 rw [show (fun b=>decide (cls b ∈ [2]))=lcB from funext lc_cls,show decide (s ≠ ⟨#[]⟩)=decide (s.size ≠ 0) from decide_eq_decide.2 (not_congr (empty_size (s:=s)))]
 cases allB lcB s <;> simp
theorem symR_eq (s:ByteArray):symR s=symB s:=by
 unfold symR symB onlyF wordR
 rw [show (fun b=>decide (cls b ∈ [2,3]))=fun b=>decide (b ≠ 36) && prB b from funext sy_cls,allB_and,show decide (s ≠ ⟨#[]⟩)=decide (s.size ≠ 0) from decide_eq_decide.2 (not_congr (empty_size (s:=s)))]
 cases allB prB s <;> cases allB (fun b=>decide (b ≠ 36)) s <;> simp
theorem ir_iff:∀ b:Nat,b < 128 -> (decide (0 <= irF (b:Int))=(decide (b=45) || (decide (b=95) || (decide (b=46) || decide (b=63))))):=by decide +kernel
theorem ok_lc (b:Nat):okB b=(decide (b=63) || lcB b):=by
 rcases Nat.lt_or_ge b 128 with h | h
 .unfold okB okR lcB
  rw [ir_iff b h,Bool.eq_iff_iff]
  simp
  omega
 .rw [show okB b=false from okR_hi (by omega)]
  unfold lcB
  symm
  simp
  omega
theorem proR_eq (s:ByteArray):proR s=prfB s:=by
 unfold proR prfB
 rw [show (fun b=>decide (b=63) || lcB b)=okB from (funext ok_lc).symm]
 cases allB okB s <;> simp
end Go.Apx
end
section
namespace Go.Apx
open Go.Proofs Go.Shelf
set_option maxRecDepth 4000
def lbK (k:Int):Bool:=decide (k=3) || (decide (k=4) || (decide (k=6) || decide (k=7)))
def leK (k:Int):Nat:=if k=3 then 2 else if k=8 \/ k=9 then 0 else 1
def moK (k:Int):Nat:=if k=3 then 2 else if k=8 \/ k=9 then 0 else 200
theorem labelledK_c (k:Int) {h:AHeap}:AEx PP Gl 105 [i64 k] h (.ret (.sc (.bool (lbK k)))) h:=by
 refine enter_105 (by simp) ?_
 by_cases e3:k=3
 .simp -implicitDefEqProofs [code_105,res_105,ann_105,e3]
  exact retE (v:=.sc (.bool true)) (by simp [deferred,dslot]) rfl (by simp [lbK]) rfl
 by_cases e4:k=4
 .simp -implicitDefEqProofs [code_105,res_105,ann_105,e3,e4]
  exact retE (v:=.sc (.bool true)) (by simp [deferred,dslot]) rfl (by simp [lbK]) rfl
 by_cases e6:k=6
 .simp -implicitDefEqProofs [code_105,res_105,ann_105,e3,e4,e6]
  exact retE (v:=.sc (.bool true)) (by simp [deferred,dslot]) rfl (by simp [lbK]) rfl
 .simp -implicitDefEqProofs [code_105,res_105,ann_105,e3,e4,e6]
  exact retE (v:=.sc (.bool (decide (k=7)))) (by simp [deferred,dslot]) rfl (by simp [lbK,e3,e4,e6]) rfl
theorem leastK_c (k:Int) {h:AHeap}:AEx PP Gl 107 [i64 k] h (.ret (i64 (leK k:Int))) h:=by
 refine enter_107 (by simp) ?_
 by_cases e3:k=3
 .simp -implicitDefEqProofs [code_107,res_107,ann_107,e3]
  exact retE (v:=i64 2) (by simp [deferred,dslot]) rfl (by simp [leK]) rfl
 by_cases e8:k=8
 .simp -implicitDefEqProofs [code_107,res_107,ann_107,e3,e8]
  exact retE (v:=i64 0) (by simp [deferred,dslot]) rfl (by simp [leK]) rfl
 by_cases e9:k=9
 .simp -implicitDefEqProofs [code_107,res_107,ann_107,e3,e8,e9]
  exact retE (v:=i64 0) (by simp [deferred,dslot]) rfl (by simp [leK]) rfl
 .simp -implicitDefEqProofs [code_107,res_107,ann_107,e3,e8,e9]
  exact retE (v:=i64 1) (by simp [deferred,dslot]) rfl (by simp [leK,e3,e8,e9]) rfl
theorem mostK_c (k:Int) {h:AHeap}:AEx PP Gl 108 [i64 k] h (.ret (i64 (moK k:Int))) h:=by
 refine enter_108 (by simp) ?_
 by_cases e3:k=3
 .simp -implicitDefEqProofs [code_108,res_108,ann_108,e3]
  exact retE (v:=i64 2) (by simp [deferred,dslot]) rfl (by simp [moK]) rfl
 by_cases e8:k=8
 .simp -implicitDefEqProofs [code_108,res_108,ann_108,e3,e8]
  exact retE (v:=i64 0) (by simp [deferred,dslot]) rfl (by simp [moK]) rfl
 by_cases e9:k=9
 .simp -implicitDefEqProofs [code_108,res_108,ann_108,e3,e8,e9]
  exact retE (v:=i64 0) (by simp [deferred,dslot]) rfl (by simp [moK]) rfl
 .simp -implicitDefEqProofs [code_108,res_108,ann_108,e3,e8,e9]
  exact retE (v:=i64 200) (by simp [deferred,dslot]) rfl (by simp [moK,e3,e8,e9]) rfl
def formG (s:St):Bool :=
 if s.kind < 1 \/ 9 < s.kind then false else if lbK s.kind ≠ labB s.label then false else if lbK s.kind=false /\ s.label ≠ ⟨#[]⟩ then false
 else if s.text.length < leK s.kind then false else if moK s.kind < s.text.length then false else if 0 < s.proof.length /\ s.kind ≠ 7 then false
 else s.text.all symB && s.proof.all prfB
theorem formG_eq (s:St):formG s=formF2 s:=by
 unfold formG formF2
 by_cases h0:s.kind < 1 \/ 9 < s.kind
 .rw [if_pos h0,if_pos h0]
 rw [if_neg h0,if_neg h0]
 have labE:labB (⟨#[]⟩:ByteArray)=false:=by decide
 obtain ⟨k,hk⟩:∃ k:Nat,s.kind=(k:Int):=⟨s.kind.toNat,by omega⟩
 rw [hk,Int.toNat_natCast]
 have h1:1 <= k:=by omega
 have h9:k <= 9:=by omega
 have fact:lbK (k:Int)=(frow k).2.1 /\ leK (k:Int)=(frow k).2.2.1 /\ moK (k:Int)=(frow k).2.2.2:=by
  match k,h1,h9 with
  | 1,_,_=>decide
  | 2,_,_=>decide
  | 3,_,_=>decide
  | 4,_,_=>decide
  | 5,_,_=>decide
  | 6,_,_=>decide
  | 7,_,_=>decide
  | 8,_,_=>decide
  | 9,_,_=>decide
 obtain ⟨f1,f2,f3⟩:=fact
 rw [f1,f2,f3]
 obtain ⟨⟨kw,lb,le,mo⟩,hf⟩:∃ f,f=frow k:=⟨_,rfl⟩
 rw [<- hf]
 simp only
 have hp0:s.proof.length=0 -> s.proof.all prfB=true:=fun h=>by rw [List.eq_nil_of_length_eq_zero h]; rfl
 by_cases a1:lb ≠ labB s.label
 .rw [if_pos a1]
  cases lb with
  | true =>
   have:labB s.label=false:=by cases h:labB s.label with
    | false=>rfl
    | true=>exact (a1 h.symm).elim
   rw [if_pos (.inl ⟨rfl,this⟩)]
  | false =>
   have:s.label ≠ ⟨#[]⟩:=fun e=>a1 (by rw [e,labE])
   rw [if_pos (.inr (.inl ⟨rfl,this⟩))]
 rw [if_neg a1]
 have a1:lb=labB s.label:=Decidable.not_not.1 a1
 by_cases a2:lb=false /\ s.label ≠ ⟨#[]⟩
 .rw [if_pos a2,if_pos (.inr (.inl a2))]
 rw [if_neg a2]
 by_cases a3:s.text.length < le
 .rw [if_pos a3,if_pos (.inr (.inr (.inl a3)))]
 rw [if_neg a3]
 by_cases a4:mo < s.text.length
 .rw [if_pos a4,if_pos (.inr (.inr (.inr a4)))]
 rw [if_neg a4]
 have hne:¬ ((lb=true /\ labB s.label=false) \/ (lb=false /\ s.label ≠ ⟨#[]⟩) \/ s.text.length < le \/ mo < s.text.length):=by
  rintro (h | h | h | h)
  .rw [<- a1,h.1] at h; cases h.2
  .exact a2 h
  .exact a3 h
  .exact a4 h
 rw [if_neg hne]
 have e7:decide ((k:Int)=7)=decide (k=7):=decide_eq_decide.2 (by omega)
 by_cases a5:0 < s.proof.length /\ (k:Int) ≠ 7
 .rw [if_pos a5]
  simp [a5.2,show ¬ s.proof.length=0 by omega]
 .rw [if_neg a5]
  by_cases h7:(k:Int)=7
  .simp [h7]
  .have:s.proof.length=0:=by omega
   simp [List.eq_nil_of_length_eq_zero this]
theorem isLab3_c (s:ByteArray) (hs:s.size <= 2 ^ 31) {h:AHeap}:AEx PP Gl 106 [sv s] h (.ret (.sc (.bool (labB s)))) h:=by rw [<- labR2_eq]; exact isLabR_c s hs
theorem isSym3_c (s:ByteArray) (hs:s.size <= 2 ^ 31) {h:AHeap}:AEx PP Gl 109 [sv s] h (.ret (.sc (.bool (symB s)))) h:=by rw [<- symR_eq]; exact isSymR_c s hs
theorem isPro3_c (s:ByteArray) (hs:s.size <= 2 ^ 31) {h:AHeap}:AEx PP Gl 110 [sv s] h (.ret (.sc (.bool (prfB s)))) h:=by rw [<- proR_eq]; exact isProR_c s hs
theorem all_drop {p:ByteArray -> Bool} {l:List ByteArray} {i:Nat} {w:ByteArray} (hw:l[i]?=some w) (hp:p w=false):l.all p=false:=by
 cases h:l.all p with
 | false=>rfl
 | true=>rw [List.all_eq_true.1 h w (List.mem_of_getElem? hw)] at hp; cases hp
noncomputable abbrev fC (h:AHeap):Cx:=⟨PP,Gl,88,[1],h.length,none⟩
noncomputable abbrev fQ (s:St) (h:AHeap):APost:=retPost PP Gl h [ResA.t 2] (fun r h'=>r=.ret (.sc (.bool (formG s))) /\ h'=h)
noncomputable abbrev fK (s:St) (h:AHeap):APost:=thenP (codeK (fC h) (.seq (.seq (.reg [⟨some 4,.mv (.c (.sc (.int .i64 0))),none,[]⟩]) (.block 2 (.loop lp1_72))) (.seq (.reg [⟨some 2,.mv (.c (.sc (.bool true))),none,[]⟩]) .ret)) (fQ s h)) (fQ s h)
set_option maxHeartbeats 16000000 in
theorem formedR_c (s:St) (hl:s.label.size <= 2 ^ 31) (tl:s.text.length <= 1000) (pl:s.proof.length <= 1000) (ht:∀ w ∈ s.text,w.size <= 2 ^ 31) (hp:∀ w ∈ s.proof,w.size <= 2 ^ 31) {h:AHeap} :
  AEx PP Gl 72 [encSt s] h (.ret (.sc (.bool (formG s)))) h:=by
 have fin:∀ b:Bool,b=formG s -> AEnd.ret (.sc (.bool b))=AEnd.ret (.sc (.bool (formG s))):=fun b e=>by rw [e]
 refine enter_72 (by simp) ?_
 by_cases k1:s.kind < 1
 .simp -implicitDefEqProofs [code_72,res_72,ann_72,encSt,k1]
  exact retE (v:=.sc (.bool false)) (by simp [deferred,dslot]) rfl (fin _ (by unfold formG; rw [if_pos (.inl k1)])) rfl
 by_cases k9:9 < s.kind
 .simp -implicitDefEqProofs [code_72,res_72,ann_72,encSt,k1,k9]
  exact retE (v:=.sc (.bool false)) (by simp [deferred,dslot]) rfl (fin _ (by unfold formG; rw [if_pos (.inr k9)])) rfl
 have hg0:formG s=if lbK s.kind ≠ labB s.label then false else if lbK s.kind=false /\ s.label ≠ ⟨#[]⟩ then false
   else if s.text.length < leK s.kind then false else if moK s.kind < s.text.length then false else if 0 < s.proof.length /\ s.kind ≠ 7 then false
   else s.text.all symB && s.proof.all prfB:=by unfold formG; rw [if_neg (by omega)]
 have loops:formG s=(s.text.all symB && s.proof.all prfB) -> AWp (fC h) (.loop lp0_72) (blockP 0 (fK s h))
   [(1,(AV.agg [i64 s.kind,.sc (.string s.label),.sl 1 (s.text.map sv) s.tc,.sl 1 (s.proof.map sv) s.pc]).ip),(3,i64 0)] h:=fun hfin=>by
  refine AWp.till (S:=PuS) ⟨0⟩ (fun x=>s.text.length - x.i) [1] (fun x=>[(3,i64 (x.i:Int))]) (fun _=>h)
   (fun x=>x.i <= s.text.length /\ (s.text.take x.i).all symB=true) mixed ⟨by simp,by simp⟩ (le_of (by simp [dslot])) rfl ?_
  rintro ⟨i⟩ ⟨z1,z2⟩
  simp only at z1 z2
  by_cases hi:i < s.text.length
  case pos =>
   have hlt:(i:Int) < s.text.length:=by omega
   have wi:IntKind.i64.wrap ((i:Int)+1)=(i:Int)+1:=IntWalk.i64_in _ (by omega)
   obtain ⟨w,hw⟩:∃ w,w=s.text[i]:=⟨_,rfl⟩
   have hw2:s.text[i]?=some w:=by rw [hw]; simp [hi]
   simp -implicitDefEqProofs [lp0_72,hlt,hi,<- hw]
   refine callk (isSym3_c w (ht w (List.mem_of_getElem? hw2))) rfl rfl ?_
   cases hb:symB w with
   | true =>
    simp -implicitDefEqProofs [wi]
    exact ⟨⟨i+1⟩,by simp; omega,⟨by simp; omega,fun x hx=>List.all_eq_true.1 (by rw [List.take_add_one,hw2,List.all_append,z2]; simp [hb]:(s.text.take (i+1)).all symB=true) x hx⟩,le_of (by simp [dslot])⟩
   | false =>
    simp -implicitDefEqProofs
    exact retE (v:=.sc (.bool false)) (by simp [deferred,dslot]) rfl (fin _ (by rw [hfin,all_drop hw2 hb]; rfl)) rfl
  have hno:¬ (i:Int) < s.text.length:=by omega
  rw [List.take_of_length_le (by omega)] at z2
  simp -implicitDefEqProofs [lp0_72,hno]
  refine AWp.till (S:=PuS) ⟨0⟩ (fun x=>s.proof.length - x.i) [1] (fun x=>[(4,i64 (x.i:Int))]) (fun _=>h)
   (fun x=>x.i <= s.proof.length /\ (s.proof.take x.i).all prfB=true) mixed ⟨by simp,by simp⟩ (le_of (by simp [dslot])) rfl ?_
  rintro ⟨j⟩ ⟨y1,y2⟩
  simp only at y1 y2
  by_cases hj:j < s.proof.length
  case pos =>
   have hlt:(j:Int) < s.proof.length:=by omega
   have wi:IntKind.i64.wrap ((j:Int)+1)=(j:Int)+1:=IntWalk.i64_in _ (by omega)
   obtain ⟨w,hw⟩:∃ w,w=s.proof[j]:=⟨_,rfl⟩
   have hw2:s.proof[j]?=some w:=by rw [hw]; simp [hj]
   simp -implicitDefEqProofs [lp1_72,hlt,hj,<- hw]
   refine callk (isPro3_c w (hp w (List.mem_of_getElem? hw2))) rfl rfl ?_
   cases hb:prfB w with
   | true =>
    simp -implicitDefEqProofs [wi]
    exact ⟨⟨j+1⟩,by simp; omega,⟨by simp; omega,fun x hx=>List.all_eq_true.1 (by rw [List.take_add_one,hw2,List.all_append,y2]; simp [hb]:(s.proof.take (j+1)).all prfB=true) x hx⟩,le_of (by simp [dslot])⟩
   | false =>
    simp -implicitDefEqProofs
    exact retE (v:=.sc (.bool false)) (by simp [deferred,dslot]) rfl (fin _ (by rw [hfin,all_drop hw2 hb]; simp)) rfl
  have hno2:¬ (j:Int) < s.proof.length:=by omega
  rw [List.take_of_length_le (by omega)] at y2
  simp -implicitDefEqProofs [lp1_72,hno2]
  exact retE (v:=.sc (.bool true)) (by simp [deferred,dslot]) rfl (fin _ (by rw [hfin,z2,y2]; rfl)) rfl
 obtain ⟨LB,hLB⟩:∃ LB,LB=lbK s.kind:=⟨_,rfl⟩
 obtain ⟨LE,hLE⟩:∃ LE,LE=leK s.kind:=⟨_,rfl⟩
 obtain ⟨MO,hMO⟩:∃ MO,MO=moK s.kind:=⟨_,rfl⟩
 obtain ⟨IL,hIL⟩:∃ IL,IL=labB s.label:=⟨_,rfl⟩
 have d1:=labelledK_c s.kind (h:=h)
 have d2:=isLab3_c s.label hl (h:=h)
 have d3:=leastK_c s.kind (h:=h)
 have d4:=mostK_c s.kind (h:=h)
 rw [<- hLB] at d1 hg0
 rw [<- hIL] at d2 hg0
 rw [<- hLE] at d3 hg0
 rw [<- hMO] at d4 hg0
 simp -implicitDefEqProofs [code_72,res_72,ann_72,encSt,k1,k9]
 refine callk d1 rfl rfl ?_
 simp -implicitDefEqProofs
 refine callk d2 rfl rfl ?_
 by_cases a1:LB ≠ IL
 .have hft:formG s=false:=by rw [hg0,if_pos a1]
  cases hb:LB with
  | true =>
   have hi:IL=false:=by rw [hb] at a1; simpa using a1
   rw [hi]
   simp -implicitDefEqProofs
   exact retE (v:=.sc (.bool false)) (by simp [deferred,dslot]) rfl (by rw [hft]) rfl
  | false =>
   have hi:IL=true:=by rw [hb] at a1; simpa using a1
   rw [hi]
   simp -implicitDefEqProofs
   exact retE (v:=.sc (.bool false)) (by simp [deferred,dslot]) rfl (by rw [hft]) rfl
 rw [if_neg a1] at hg0
 have a1:LB=IL:=Decidable.not_not.1 a1
 rw [<- a1]
 simp -implicitDefEqProofs
 refine callk d1 rfl rfl ?_
 by_cases a2:LB=false /\ s.label ≠ ⟨#[]⟩
 .simp -implicitDefEqProofs [a2.1,a2.2]
  exact retE (v:=.sc (.bool false)) (by simp [deferred,dslot]) rfl (fin _ (by rw [hg0,if_pos a2])) rfl
 rw [if_neg a2] at hg0
 have rest:(LB=true \/ (LB=false /\ s.label=⟨#[]⟩)):=by
  cases hb:LB with
  | true=>exact .inl rfl
  | false=>exact .inr ⟨rfl,Decidable.byContradiction fun h=>a2 ⟨hb,h⟩⟩
 rcases rest with hLt | ⟨hLf,hlb⟩
 .simp -implicitDefEqProofs [hLt]
  refine callk d3 rfl rfl ?_
  by_cases a3:s.text.length < LE
  .have a3':(s.text.length:Int) < LE:=by omega
   simp -implicitDefEqProofs [a3,a3']
   exact retE (v:=.sc (.bool false)) (by simp [deferred,dslot]) rfl (fin _ (by rw [hg0,if_pos a3])) rfl
  rw [if_neg a3] at hg0
  have a3':¬ (s.text.length:Int) < LE:=by omega
  simp -implicitDefEqProofs [a3,a3']
  refine callk d4 rfl rfl ?_
  by_cases a4:MO < s.text.length
  .have a4':(MO:Int) < s.text.length:=by omega
   simp -implicitDefEqProofs [a4,a4']
   exact retE (v:=.sc (.bool false)) (by simp [deferred,dslot]) rfl (fin _ (by rw [hg0,if_pos a4])) rfl
  rw [if_neg a4] at hg0
  have a4':¬ (MO:Int) < s.text.length:=by omega
  by_cases a5:0 < s.proof.length /\ s.kind ≠ 7
  .have a5':(0:Int) < s.proof.length:=by omega
   simp -implicitDefEqProofs [a4,a4',a5.1,a5',a5.2]
   exact retE (v:=.sc (.bool false)) (by simp [deferred,dslot]) rfl (fin _ (by rw [hg0,if_pos a5])) rfl
  rw [if_neg a5] at hg0
  have hfin:formG s=(s.text.all symB && s.proof.all prfB):=hg0
  have go:(0 < s.proof.length /\ s.kind=7) \/ ¬ 0 < s.proof.length:=by omega
  rcases go with ⟨a6,a7⟩ | a6
  .have a6':(0:Int) < s.proof.length:=by omega
   simp -implicitDefEqProofs [a4,a4',a6,a6',eq_true a7]
   exact AWp.weaken (loops hfin) (le_of (by simp [dslot]))
  .have a6':¬ (0:Int) < s.proof.length:=by omega
   simp -implicitDefEqProofs [a4,a4',a6,a6']
   exact AWp.weaken (loops hfin) (le_of (by simp [dslot]))
 .simp -implicitDefEqProofs [hLf,eq_true hlb]
  refine callk d3 rfl rfl ?_
  by_cases a3:s.text.length < LE
  .have a3':(s.text.length:Int) < LE:=by omega
   simp -implicitDefEqProofs [a3,a3']
   exact retE (v:=.sc (.bool false)) (by simp [deferred,dslot]) rfl (fin _ (by rw [hg0,if_pos a3])) rfl
  rw [if_neg a3] at hg0
  have a3':¬ (s.text.length:Int) < LE:=by omega
  simp -implicitDefEqProofs [a3,a3']
  refine callk d4 rfl rfl ?_
  by_cases a4:MO < s.text.length
  .have a4':(MO:Int) < s.text.length:=by omega
   simp -implicitDefEqProofs [a4,a4']
   exact retE (v:=.sc (.bool false)) (by simp [deferred,dslot]) rfl (fin _ (by rw [hg0,if_pos a4])) rfl
  rw [if_neg a4] at hg0
  have a4':¬ (MO:Int) < s.text.length:=by omega
  by_cases a5:0 < s.proof.length /\ s.kind ≠ 7
  .have a5':(0:Int) < s.proof.length:=by omega
   simp -implicitDefEqProofs [a4,a4',a5.1,a5',a5.2]
   exact retE (v:=.sc (.bool false)) (by simp [deferred,dslot]) rfl (fin _ (by rw [hg0,if_pos a5])) rfl
  rw [if_neg a5] at hg0
  have hfin:formG s=(s.text.all symB && s.proof.all prfB):=hg0
  have go:(0 < s.proof.length /\ s.kind=7) \/ ¬ 0 < s.proof.length:=by omega
  rcases go with ⟨a6,a7⟩ | a6
  .have a6':(0:Int) < s.proof.length:=by omega
   simp -implicitDefEqProofs [a4,a4',a6,a6',eq_true a7]
   exact AWp.weaken (loops hfin) (le_of (by simp [dslot]))
  .have a6':¬ (0:Int) < s.proof.length:=by omega
   simp -implicitDefEqProofs [a4,a4',a6,a6']
   exact AWp.weaken (loops hfin) (le_of (by simp [dslot]))
end Go.Apx
end
