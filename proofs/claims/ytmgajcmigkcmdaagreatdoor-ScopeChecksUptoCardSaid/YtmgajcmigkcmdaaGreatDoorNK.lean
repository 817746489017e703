/- Walks: classes of words. -/
import Derived.Test.YtmgajcmigkcmdaaGreatDoorNC
import Derived.Test.YtmgajcmigkcmdaaGreatDoorNI
import Derived.Test.YtmgajcmigkcmdaaGreatDoorAmI
import Derived.Test.YtmgajcmigkcmdaaGreatDoorLaysB
import Derived.Laws.RangeAny
import Derived.Laws.RangeString
set_option linter.unusedVariables false
set_option linter.unusedSimpArgs false
set_option linter.unnecessarySimpa false
section
namespace Go.Apx
open Go.Proofs Go.Shelf
set_option maxRecDepth 4000
def bAt (s:ByteArray) (j:Nat):Nat:=((s[j]?).getD 0).toNat
def allB (p:Nat -> Bool) (s:ByteArray):Bool:=(List.range s.size).all fun j=>p (bAt s j)
theorem allB_true {p:Nat -> Bool} {s:ByteArray}:allB p s=true ↔ ∀ j,j < s.size -> p (bAt s j)=true:=by simp [allB]
theorem allB_false {p:Nat -> Bool} {s:ByteArray} {j:Nat} (hj:j < s.size) (hp:p (bAt s j)=false):allB p s=false:=by
 cases h:allB p s with
 | false=>rfl
 | true=>rw [allB_true.1 h j hj] at hp; cases hp
theorem bAt_get {s:ByteArray} {j:Nat} (hj:j < s.size):∃ b:UInt8,b=s[j] /\ b.toNat=bAt s j:=⟨s[j],rfl,by simp [bAt,hj]⟩
def idxB (w:Nat):Nat -> List Nat -> Int
 | _,[]=>-1
 | i,s :: r=>if w=s then (i:Int) else idxB w (i+1) r
theorem idxB_mem (w:Nat):∀ (l:List Nat) (i:Nat),(0 <= idxB w i l) ↔ w ∈ l
 | [],i=>by simp [idxB]
 | s :: r,i=>by
  simp only [idxB,List.mem_cons]
  by_cases e:w=s
  .rw [if_pos e]; constructor
   .exact fun _=>.inl e
   .exact fun _=>by omega
  .rw [if_neg e,idxB_mem w r (i+1)]; simp [e]
theorem idxB_step (w:Nat) (l:List Nat) (i:Nat) (s:Nat) (h:l[i]?=some s):idxB w i (l.drop i)=if w=s then (i:Int) else idxB w (i+1) (l.drop (i+1)):=by
 obtain ⟨hl,rfl⟩:=List.getElem?_eq_some_iff.1 h
 rw [List.drop_eq_getElem_cons hl]; rfl
set_option maxHeartbeats 2000000 in
theorem indexB_c (l:List Nat) (w:Nat) (c:Cap) (hl:l.length <= 2 ^ 31) {h:AHeap}:AEx PP Gl 144 [.sl 1 (l.map u8c) c,u8c w] h (.ret (i64 (idxB w 0 l))) h:=by
 refine enter_144 (by simp) ?_
 simp -implicitDefEqProofs [code_144,res_144,ann_144,u8c]
 refine AWp.till (S:=PuS) ⟨0⟩ (fun s=>l.length - s.i) [0,1,7] (fun s=>[(8,i64 (s.i:Int))]) (fun s=>h)
  (fun s=>s.i <= l.length /\ idxB w s.i (l.drop s.i)=idxB w 0 l) mixed (by simp) (le_of (by simp [dslot])) rfl ?_
 rintro ⟨i⟩ ⟨z1,z2⟩
 simp only at z1 z2
 by_cases hi:i < l.length
 case neg =>
  have hno:¬ (i:Int) < l.length:=by omega
  obtain rfl:i=l.length:=by omega
  rw [List.drop_length] at z2
  simp -implicitDefEqProofs [lp0_144,hno]
  exact retE (v:=i64 (-1)) (by simp [deferred,dslot]) rfl (by rw [<- z2]; rfl) rfl
 have hlt:(i:Int) < l.length:=by omega
 have wi:IntKind.i64.wrap ((i:Int)+1)=(i:Int)+1:=IntWalk.i64_in _ (by omega)
 obtain ⟨s,hs⟩:∃ s,s=l[i]:=⟨_,rfl⟩
 have hs2:l[i]?=some s:=by rw [hs]; simp [hi]
 have hstep:=idxB_step w l i s hs2
 rw [z2] at hstep
 by_cases e:w=s
 .rw [if_pos e] at hstep
  rw [hstep]
  simp -implicitDefEqProofs [lp0_144,hlt,hi,<- hs,e,u8c]
  exact retE (v:=i64 (i:Int)) (by simp [deferred,dslot]) rfl rfl rfl
 .have e':¬ (w:Int)=s:=by omega
  rw [if_neg e] at hstep
  simp -implicitDefEqProofs [lp0_144,hlt,hi,<- hs,e,e',wi,u8c]
  exact ⟨⟨i+1⟩,by simp; omega,⟨by simp; omega,by rw [hstep]⟩,le_of (by simp [dslot])⟩
theorem containsB_c (l:List Nat) (w:Nat) (c:Cap) (hl:l.length <= 2 ^ 31) {h:AHeap}:AEx PP Gl 141 [.sl 1 (l.map u8c) c,u8c w] h (.ret (.sc (.bool (decide (w ∈ l))))) h:=by
 have hb:(decide (0 <= idxB w 0 l))=decide (w ∈ l):=decide_eq_decide.2 (idxB_mem w l 0)
 refine enter_141 (by simp) ?_
 simp -implicitDefEqProofs [code_141,res_141,ann_141,u8c]
 refine callk (indexB_c l w c hl) rfl rfl ?_
 simp -implicitDefEqProofs
 exact retE (v:=.sc (.bool (decide (w ∈ l)))) (by simp [deferred,dslot]) (by simp [evalRes,evalRes1,<- hb]) rfl rfl
def onlyF (s:ByteArray) (l:List Nat):Bool:=decide (s.size ≠ 0) && (decide (s.size <= 60) && allB (fun b=>decide (cls b ∈ l)) s)
theorem clsC_at (b:Nat) (hb:b < 256):(clsC 256)[b]?=some (u8c (cls b)):=by
 unfold clsC
 rw [List.getElem?_map,List.getElem?_range hb]
 simp [hb]
theorem empty_size {s:ByteArray}:s=⟨#[]⟩ ↔ s.size=0:=by
 constructor
 .rintro rfl; rfl
 .intro h; exact ByteArray.ext (Array.eq_empty_of_size_eq_zero h)
set_option maxHeartbeats 4000000 in
theorem only_c (s:ByteArray) (l:List Nat) (c:Cap) (hl:l.length <= 2 ^ 31) {h:AHeap}:AEx PP Gl 133 [sv s,.sl 1 (l.map u8c) c] h (.ret (.sc (.bool (onlyF s l)))) h:=by
 refine enter_133 (by simp) ?_
 by_cases e0:s=⟨#[]⟩
 .simp -implicitDefEqProofs [code_133,res_133,ann_133,e0]
  exact retE (v:=.sc (.bool false)) (by simp [deferred,dslot]) rfl rfl rfl
 have e0':s.size ≠ 0:=fun h=>e0 (empty_size.2 h)
 by_cases e1:60 < s.size
 .have e1':(60:Int) < s.size:=by omega
  simp -implicitDefEqProofs [code_133,res_133,ann_133,e0,e1']
  exact retE (v:=.sc (.bool false)) (by simp [deferred,dslot]) rfl (by simp [onlyF]; omega) rfl
 have e1':¬ (60:Int) < s.size:=by omega
 have hon:onlyF s l=allB (fun b=>decide (cls b ∈ l)) s:=by unfold onlyF; simp [e0',show s.size <= 60 by omega]
 rw [hon]
 simp -implicitDefEqProofs [code_133,res_133,ann_133,e0,e1']
 refine callk classes_c rfl rfl ?_
 have hcl:=clsC_len 256
 have hco:∀ x ∈ clsC 256,x.one=true:=clsC_one 256
 obtain ⟨C,hC⟩:∃ C,C=clsC 256:=⟨_,rfl⟩
 rw [<- hC] at hcl hco ⊢
 simp -implicitDefEqProofs [hcl]
 rw [if_pos hco]
 refine ⟨rfl,hcl,?_⟩
 refine AWp.till (S:=PuS) ⟨0⟩ (fun x=>s.size - x.i) [0,1,5,16] (fun x=>[(17,i64 (x.i:Int))]) (fun _=>h)
  (fun x=>x.i <= s.size /\ ∀ j,j < x.i -> decide (cls (bAt s j) ∈ l)=true) mixed ⟨by simp,by intro j hj; simp at hj⟩ (le_of (by simp [dslot])) rfl ?_
 rintro ⟨i⟩ ⟨z1,z2⟩
 simp only at z1 z2
 by_cases hi:i < s.size
 case neg =>
  have hno:¬ (i:Int) < s.size:=by omega
  obtain rfl:i=s.size:=by omega
  simp -implicitDefEqProofs [lp0_133,hno]
  exact retE (v:=.sc (.bool true)) (by simp [deferred,dslot]) rfl (by rw [allB_true.2 z2]) rfl
 have hlt:(i:Int) < s.size:=by omega
 have wi:IntKind.i64.wrap ((i:Int)+1)=(i:Int)+1:=IntWalk.i64_in _ (by omega)
 obtain ⟨b,hb,hb2⟩:=bAt_get hi
 have hb3:b.toNat < 256:=UInt8.toNat_lt b
 have hCb:C[b.toNat]?=some (u8c (cls b.toNat)):=by rw [hC]; exact clsC_at _ hb3
 simp -implicitDefEqProofs [lp0_133,hlt,hi,<- hb,hb3,hCb,u8c]
 refine callk (containsB_c l (cls b.toNat) c hl) rfl rfl ?_
 by_cases hm:cls b.toNat ∈ l
 .simp -implicitDefEqProofs [hm,wi]
  refine ⟨⟨i+1⟩,by simp; omega,⟨by simp; omega,fun j hj=>?_⟩,le_of (by simp [dslot])⟩
  rcases Nat.lt_or_ge j i with h1 | h1
  .exact of_decide_eq_true (z2 j h1)
  .obtain rfl:j=i:=by simp at hj; omega
   rw [<- hb2]; exact hm
 .simp -implicitDefEqProofs [hm]
  exact retE (v:=.sc (.bool false)) (by simp [deferred,dslot]) rfl (by rw [allB_false hi (by rw [<- hb2]; exact decide_eq_false hm)]) rfl
def labB (s:ByteArray):Bool:=onlyF s [2]
def symB (s:ByteArray):Bool:=onlyF s [2,3]
theorem isLabel_c (s:ByteArray) {h:AHeap}:AEx PP Gl 122 [sv s] h (.ret (.sc (.bool (labB s)))) h:=by
 refine enter_122 (by simp) ?_
 simp -implicitDefEqProofs [code_122,res_122,ann_122]
 refine callk (only_c s [2] .full (by simp)) rfl rfl ?_
 simp -implicitDefEqProofs
 exact retE (v:=.sc (.bool (labB s))) (by simp [deferred,dslot]) rfl rfl rfl
theorem isSymbol_c (s:ByteArray) {h:AHeap}:AEx PP Gl 126 [sv s] h (.ret (.sc (.bool (symB s)))) h:=by
 refine enter_126 (by simp) ?_
 simp -implicitDefEqProofs [code_126,res_126,ann_126]
 refine callk (only_c s [2,3] .full (by simp)) rfl rfl ?_
 simp -implicitDefEqProofs
 exact retE (v:=.sc (.bool (symB s))) (by simp [deferred,dslot]) rfl rfl rfl
end Go.Apx
end
section
namespace Go.Apx
open Go.Proofs Go.Shelf
set_option maxRecDepth 4000
theorem ib_hb:hasBody PP 150=true:=by kernel_rfl
theorem slIndexByte_c (s:ByteArray) (c:Int) {h:AHeap}:AEx PP Gl 150 [sv s,.sc (.int .u8 c)] h (.ret (i64 (Lib.indexByte s.data.toList c.toNat.toUInt8))) h :=
 flat_lib (xs:=[.string s,.int .u8 c]) ib_hb (fun w=>Any.stringslite_IndexByte laysIB s c w)
theorem indexByte_c (s:ByteArray) (c:Int) {h:AHeap}:AEx PP Gl 146 [sv s,.sc (.int .u8 c)] h (.ret (i64 (Lib.indexByte s.data.toList c.toNat.toUInt8))) h:=by
 refine enter_146 (by simp) ?_
 simp -implicitDefEqProofs [code_146,res_146,ann_146]
 refine callk (slIndexByte_c s c) rfl rfl ?_
 simp -implicitDefEqProofs
 exact retE (v:=i64 (Lib.indexByte s.data.toList c.toNat.toUInt8)) (by simp [deferred,dslot]) rfl rfl rfl
theorem valid_c (r:Int) {h:AHeap}:AEx PP Gl 147 [.sc (.int .i32 r)] h (.ret (.sc (.bool (Utf8.valid r)))) h:=by
 refine enter_147 (by simp) ?_
 by_cases h0:0 <= r
 .by_cases h1:r < 55296
  .simp -implicitDefEqProofs [code_147,res_147,ann_147,h0,h1]
   exact retE (v:=.sc (.bool true)) (by simp [deferred,dslot]) rfl (by rw [show Utf8.valid r=true by simp [Utf8.valid]; omega]) rfl
  .by_cases h2:57343 < r
   .by_cases h3:r <= 1114111
    .simp -implicitDefEqProofs [code_147,res_147,ann_147,h0,h1,h2,h3]
     exact retE (v:=.sc (.bool true)) (by simp [deferred,dslot]) rfl (by rw [show Utf8.valid r=true by simp [Utf8.valid]; omega]) rfl
    .simp -implicitDefEqProofs [code_147,res_147,ann_147,h0,h1,h2,h3]
     exact retE (v:=.sc (.bool false)) (by simp [deferred,dslot]) rfl (by rw [show Utf8.valid r=false by simp [Utf8.valid]; omega]) rfl
   .simp -implicitDefEqProofs [code_147,res_147,ann_147,h0,h1,h2]
    exact retE (v:=.sc (.bool false)) (by simp [deferred,dslot]) rfl (by rw [show Utf8.valid r=false by simp [Utf8.valid]; omega]) rfl
 .have h2:¬ 57343 < r:=by omega
  simp -implicitDefEqProofs [code_147,res_147,ann_147,h0,h2]
  exact retE (v:=.sc (.bool false)) (by simp [deferred,dslot]) rfl (by rw [show Utf8.valid r=false by simp [Utf8.valid]; omega]) rfl
theorem encode_hi {r:Int} (h:128 <= r) (hv:Utf8.valid r=true):∃ n lb,(n=1 \/ n=2 \/ n=3) /\ (Utf8.encode r).size=n+1 /\ ∃ hn:n < (Utf8.encode r).size,(Utf8.encode r)[n]=lb /\ 128 <= lb.toNat:=by
 have hc:(128:Nat) <= r.toNat:=by omega
 have hl:r.toNat <= 1114111:=by simp [Utf8.valid] at hv; omega
 have hlb:∀ k,k < 64 -> 128 <= (UInt8.ofNat (128+k)).toNat:=fun k hk=>by
  have:(UInt8.ofNat (128+k)).toNat=(128+k) % 256:=rfl
  omega
 obtain ⟨E,hE⟩:∃ E,E=Utf8.encode r:=⟨_,rfl⟩
 rw [<- hE]
 unfold Utf8.encode at hE
 simp only [hv,if_true] at hE
 rw [if_neg (by omega)] at hE
 split at hE
 .subst hE; exact ⟨1,_,.inl rfl,rfl,by simp [ByteArray.size],rfl,hlb _ (Nat.mod_lt _ (by omega))⟩
 .split at hE
  .subst hE; exact ⟨2,_,.inr (.inl rfl),rfl,by simp [ByteArray.size],rfl,hlb _ (Nat.mod_lt _ (by omega))⟩
  .subst hE; exact ⟨3,_,.inr (.inr rfl),rfl,by simp [ByteArray.size],rfl,hlb _ (Nat.mod_lt _ (by omega))⟩
theorem ib_none {lb:UInt8} (h:128 <= lb.toNat):∀ l:List UInt8,(∀ b ∈ l,b.toNat < 128) -> Lib.indexByte l lb=-1
 | [],_=>rfl
 | b :: l,hl=>by
  have h1:(b == lb)=false:=by
   have:=hl b (by simp)
   cases e:(b == lb) with
   | false=>rfl
   | true=>have:=eq_of_beq e; subst this; omega
  rw [Lib.indexByte,h1,ib_none h l (fun b hb=>hl b (by simp [hb]))]
  rfl
abbrev signs:ByteArray:=⟨#[45,95,46,63]⟩
def irF (r:Int):Int:=if 0 <= r /\ r < 128 then Lib.indexByte [45,95,46,63] r.toNat.toUInt8 else -1
set_option maxHeartbeats 8000000 in
theorem indexRune_c (r:Int) (hr:0 <= r) {h:AHeap}:AEx PP Gl 143 [.sc (.string signs),.sc (.int .i32 r)] h (.ret (i64 (irF r))) h:=by
 refine enter_143 (by simp) ?_
 by_cases h1:r < 128
 .have wr:IntKind.u8.wrap r=r:=by unfold IntKind.wrap; simp [IntKind.bits]; omega
  simp -implicitDefEqProofs [code_143,res_143,ann_143,hr,h1,wr]
  refine callk (indexByte_c signs r) rfl rfl ?_
  simp -implicitDefEqProofs
  exact retE (v:=i64 (Lib.indexByte [45,95,46,63] r.toNat.toUInt8)) (by simp [deferred,dslot]) rfl (by unfold irF; rw [if_pos ⟨hr,h1⟩]) rfl
 have hi:irF r=-1:=by unfold irF; rw [if_neg (fun e=>h1 e.2)]
 rw [hi]
 by_cases h2:r=65533
 .subst h2
  simp -implicitDefEqProofs [code_143,res_143,ann_143]
  have d0:Utf8.decode signs 0=(45,1):=by decide
  have d1:Utf8.decode signs 1=(95,1):=by decide
  have d2:Utf8.decode signs 2=(46,1):=by decide
  have d3:Utf8.decode signs 3=(63,1):=by decide
  have hs4:signs.size=4:=rfl
  refine AWp.till (S:=PuS) ⟨0⟩ (fun s=>4 - s.i) [175] (fun s=>[]) (fun s=>h++[.siter signs s.i]) (fun s=>s.i <= 4) mixed (by simp) (le_of (by simp [dslot])) rfl ?_
  rintro ⟨i⟩ hz
  simp only at hz
  match i,hz with
  | 0,_ =>
   simp -implicitDefEqProofs [lp0_143,d0,hs4]
   exact ⟨⟨1⟩,by simp,by simp,le_of (by simp [dslot]),rfl⟩
  | 1,_ =>
   simp -implicitDefEqProofs [lp0_143,d1,hs4]
   exact ⟨⟨2⟩,by simp,by simp,le_of (by simp [dslot]),rfl⟩
  | 2,_ =>
   simp -implicitDefEqProofs [lp0_143,d2,hs4]
   exact ⟨⟨3⟩,by simp,by simp,le_of (by simp [dslot]),rfl⟩
  | 3,_ =>
   simp -implicitDefEqProofs [lp0_143,d3,hs4]
   exact ⟨⟨4⟩,by simp,by simp,le_of (by simp [dslot]),rfl⟩
  | 4,_ =>
   simp -implicitDefEqProofs [lp0_143,hs4]
   exact retP (v:=i64 (-1)) (v':=i64 (-1)) (by simp [deferred,dslot]) rfl rfl rfl (Low.app _ _ _) rfl rfl
 simp -implicitDefEqProofs [code_143,res_143,ann_143,hr,h1,h2]
 refine callk (valid_c r) rfl rfl ?_
 cases hv:Utf8.valid r with
 | false =>
  simp -implicitDefEqProofs
  exact retE (v:=i64 (-1)) (by simp [deferred,dslot]) rfl rfl rfl
 | true =>
  obtain ⟨n,lb,hn,hsz,hlt,hlb,h128⟩:=encode_hi (by omega) hv
  obtain ⟨E,hE⟩:∃ E,E=Utf8.encode r:=⟨_,rfl⟩
  simp only [<- hE] at hsz hlt hlb
  have hsz':(E.size:Int)=(n:Int)+1:=by omega
  have wn:IntKind.i64.wrap ((n:Int)+1 - 1)=n:=by rw [show (n:Int)+1 - 1=n by omega]; exact IntWalk.i64_in _ (by omega)
  have wn1:IntKind.i64.wrap ((n:Int)+1)=(n:Int)+1:=IntWalk.i64_in _ (by omega)
  have fin:∀ t:ByteArray,(∀ b ∈ t.data.toList,b.toNat < 128) -> (lb.toNat:Int).toNat.toUInt8=lb -> AEx PP Gl 146 [sv t,.sc (.int .u8 (lb.toNat:Int))] h (.ret (i64 (-1))) h:=fun t ht e=>by
   have:=indexByte_c t (lb.toNat:Int) (h:=h)
   rw [e,ib_none h128 _ ht] at this
   exact this
  have elb:(lb.toNat:Int).toNat.toUInt8=lb:=by simp
  have n45:¬ (95:Int)=lb.toNat:=by omega
  have n46:¬ (46:Int)=lb.toNat:=by omega
  have n63:¬ (63:Int)=lb.toNat:=by omega
  simp -implicitDefEqProofs
  refine AWp.scope (codeWp_sound mixed ?_)
  simp -implicitDefEqProofs [<- hE,hsz',wn]
  refine AWp.till (S:=PuS) ⟨0⟩ (fun s=>1 - s.i) [0,1,7,8,9,10] (fun s=>[]) (fun _=>h) (fun s=>s.i=0) mixed rfl (le_of (by simp [dslot])) rfl ?_
  rintro ⟨i⟩ hz
  simp only at hz
  subst hz
  have wnn:IntKind.i64.wrap (n:Int)=n:=IntWalk.i64_in _ (by omega)
  have hs4:signs.size=4:=rfl
  have hn4:(n:Int) < 4:=by omega
  simp -implicitDefEqProofs [lp1_143,wnn,hs4,hn4]
  refine AWp.scope (codeWp_sound mixed ?_)
  rcases hn with rfl | rfl | rfl
  .have k1:(1:Nat) < signs.size:=by decide
   have k2:signs[1]=95:=rfl
   have kl:(signs.extract 2 4).data.toList=[46,63]:=by decide
   simp -implicitDefEqProofs [hlt,hlb,hs4,k1,k2,n45,n46,n63]
   refine callk (fin (signs.extract 2 4) (fun b hb=>by rw [kl] at hb; simp at hb; rcases hb with rfl | rfl <;> decide) elb) rfl rfl ?_
   simp -implicitDefEqProofs
   exact retE (v:=i64 (-1)) (by simp [deferred,dslot]) rfl rfl rfl
  .have k1:(2:Nat) < signs.size:=by decide
   have k2:signs[2]=46:=rfl
   have kl:(signs.extract 3 4).data.toList=[63]:=by decide
   simp -implicitDefEqProofs [hlt,hlb,hs4,k1,k2,n45,n46,n63]
   refine callk (fin (signs.extract 3 4) (fun b hb=>by rw [kl] at hb; simp at hb; subst hb; decide) elb) rfl rfl ?_
   simp -implicitDefEqProofs
   exact retE (v:=i64 (-1)) (by simp [deferred,dslot]) rfl rfl rfl
  .have k1:(3:Nat) < signs.size:=by decide
   have k2:signs[3]=63:=rfl
   have kl:(signs.extract 4 4).data.toList=[]:=by decide
   simp -implicitDefEqProofs [hlt,hlb,hs4,k1,k2,n45,n46,n63]
   refine callk (fin (signs.extract 4 4) (fun b hb=>by rw [kl] at hb; simp at hb; skip) elb) rfl rfl ?_
   simp -implicitDefEqProofs
   exact retE (v:=i64 (-1)) (by simp [deferred,dslot]) rfl rfl rfl
end Go.Apx
end
section
namespace Go.Apx
open Go.Proofs Go.Shelf
set_option maxRecDepth 4000
theorem containsRune_c (r:Int) (hr:0 <= r) {h:AHeap}:AEx PP Gl 137 [.sc (.string signs),.sc (.int .i32 r)] h (.ret (.sc (.bool (decide (0 <= irF r))))) h:=by
 refine enter_137 (by simp) ?_
 simp -implicitDefEqProofs [code_137,res_137,ann_137]
 refine callk (indexRune_c r hr) rfl rfl ?_
 simp -implicitDefEqProofs
 exact retE (v:=.sc (.bool (decide (0 <= irF r)))) (by simp [deferred,dslot]) (by simp [evalRes,evalRes1]) rfl rfl
def okR (r:Int):Bool:=(decide (97 <= r) && decide (r <= 122)) || ((decide (65 <= r) && decide (r <= 90)) || ((decide (48 <= r) && decide (r <= 57)) || decide (0 <= irF r)))
theorem okR_hi {r:Int} (h:128 <= r):okR r=false:=by
 have:irF r=-1:=by unfold irF; rw [if_neg (by omega)]
 unfold okR
 rw [this]
 simp
 omega
set_option maxHeartbeats 4000000 in
theorem isProof1_c (r:Int) (hr:0 <= r) {h:AHeap}:AEx PP Gl 136 [.sc (.int .i32 r)] h (.ret (.sc (.bool (!okR r)))) h:=by
 have fin:∀ b:Bool,b=okR r -> AEnd.ret (.sc (.bool (!b)))=AEnd.ret (.sc (.bool (!okR r))):=fun b e=>by rw [e]
 refine enter_136 (by simp) ?_
 by_cases a:97 <= r /\ r <= 122
 .simp -implicitDefEqProofs [code_136,res_136,ann_136,a.1,a.2]
  exact retE (v:=.sc (.bool false)) (by simp [deferred,dslot]) rfl (fin true (by simp [okR,a.1,a.2])) rfl
 .have ea:¬ 97 <= r \/ (97 <= r /\ ¬ r <= 122):=by omega
  have oa:(decide (97 <= r) && decide (r <= 122))=false:=by simp; omega
  by_cases b:65 <= r /\ r <= 90
  .have n1:¬ 97 <= r:=by omega
   simp -implicitDefEqProofs [code_136,res_136,ann_136,n1,b.1,b.2]
   exact retE (v:=.sc (.bool false)) (by simp [deferred,dslot]) rfl (fin true (by simp [okR,b.1,b.2])) rfl
  .have ob:(decide (65 <= r) && decide (r <= 90))=false:=by simp; omega
   by_cases c:48 <= r /\ r <= 57
   .have n1:¬ 97 <= r:=by omega
    have n2:¬ 65 <= r:=by omega
    simp -implicitDefEqProofs [code_136,res_136,ann_136,n1,n2,c.1,c.2]
    exact retE (v:=.sc (.bool false)) (by simp [deferred,dslot]) rfl (fin true (by simp [okR,c.1,c.2])) rfl
   .have oc:(decide (48 <= r) && decide (r <= 57))=false:=by simp; omega
    have fin2:AEnd.ret (.sc (.bool (!decide (0 <= irF r))))=AEnd.ret (.sc (.bool (!okR r))):=fin _ (by unfold okR; rw [oa,ob,oc]; simp)
    rcases ea with n1 | ⟨n1,n1'⟩
    .have eb:¬ 65 <= r \/ (65 <= r /\ ¬ r <= 90):=by omega
     rcases eb with n2 | ⟨n2,n2'⟩
     .have ec:¬ 48 <= r \/ (48 <= r /\ ¬ r <= 57):=by omega
      rcases ec with n3 | ⟨n3,n3'⟩
      .simp -implicitDefEqProofs [code_136,res_136,ann_136,n1,n2,n3]
       refine callk (containsRune_c r hr) rfl rfl ?_
       simp -implicitDefEqProofs
       exact retE (v:=.sc (.bool (!decide (0 <= irF r)))) (by simp [deferred,dslot]) (by simp [evalRes,evalRes1]) fin2 rfl
      .simp -implicitDefEqProofs [code_136,res_136,ann_136,n1,n2,n3,n3']
       refine callk (containsRune_c r hr) rfl rfl ?_
       simp -implicitDefEqProofs
       exact retE (v:=.sc (.bool (!decide (0 <= irF r)))) (by simp [deferred,dslot]) (by simp [evalRes,evalRes1]) fin2 rfl
     .have n3:48 <= r:=by omega
      have n3':¬ r <= 57:=by omega
      simp -implicitDefEqProofs [code_136,res_136,ann_136,n1,n2,n2',n3,n3']
      refine callk (containsRune_c r hr) rfl rfl ?_
      simp -implicitDefEqProofs
      exact retE (v:=.sc (.bool (!decide (0 <= irF r)))) (by simp [deferred,dslot]) (by simp [evalRes,evalRes1]) fin2 rfl
    .have n2:65 <= r:=by omega
     have n2':¬ r <= 90:=by omega
     have n3:48 <= r:=by omega
     have n3':¬ r <= 57:=by omega
     simp -implicitDefEqProofs [code_136,res_136,ann_136,n1,n1',n2,n2',n3,n3']
     refine callk (containsRune_c r hr) rfl rfl ?_
     simp -implicitDefEqProofs
     exact retE (v:=.sc (.bool (!decide (0 <= irF r)))) (by simp [deferred,dslot]) (by simp [evalRes,evalRes1]) fin2 rfl
abbrev okB (b:Nat):Bool:=okR (b:Int)
abbrev proofFn:AV:=.fn (.func 136) [] []
set_option maxHeartbeats 4000000 in
theorem indexFunc_c (s:ByteArray) (hs:s.size <= 2 ^ 31) {h:AHeap}:ACalls PP Gl 145 [sv s,proofFn,.sc (.bool true)] h (fun r h'=>h'=h /\ ∃ v:Int,r=.ret (i64 v) /\ (0 <= v ↔ allB okB s=false)):=by
 refine enter_145 (by simp) ?_
 simp -implicitDefEqProofs [code_145,res_145,ann_145]
 have ret:∀ (v:Int) (p:Nat) (env:Env),deferred env=some [] -> evalRes Gl env (h++[AObj.siter s p]) [ResA.t 6]=some (i64 v) -> (0 <= v ↔ allB okB s=false) ->
   retPost PP Gl h [ResA.t 6] (fun r h'=>h'=h /\ ∃ v:Int,r=.ret (i64 v) /\ (0 <= v ↔ allB okB s=false)) .ret env (h++[AObj.siter s p]):=fun v p env hd he hv=>by
  refine retCut (v:=i64 v) h.length hd he (Nat.le_refl _) (by simp) rfl (Low.app _ _ _).cl ?_
  rw [(Low.app h.length h _).take]
  exact ⟨rfl,v,rfl,hv⟩
 refine AWp.till (S:=PuS) ⟨0⟩ (fun x=>s.size - x.i) [1,2,10] (fun x=>[]) (fun x=>h++[.siter s x.i]) (fun x=>x.i <= s.size /\ ∀ j,j < x.i -> okB (bAt s j)=true) mixed ⟨by simp,by intro j hj; simp at hj⟩ (le_of (by simp [dslot])) rfl ?_
 rintro ⟨i⟩ ⟨z1,z2⟩
 simp only at z1 z2
 by_cases hi:i < s.size
 case neg =>
  obtain rfl:i=s.size:=by omega
  have hall:allB okB s=true:=allB_true.2 z2
  simp -implicitDefEqProofs [lp0_145]
  exact ret (-1) s.size _ (by simp [deferred,dslot]) rfl (by rw [hall]; simp)
 obtain ⟨b,hb,hb2⟩:=bAt_get hi
 by_cases h128:b.toNat < 128
 .have hd:Utf8.decode s i=(b.toNat,1):=by rw [decode_ascii s i hi (by rw [<- hb]; exact h128),<- hb]
  simp -implicitDefEqProofs [lp0_145,hi,hd]
  refine callk (isProof1_c (b.toNat:Int) (by omega)) rfl rfl ?_
  cases ho:okR (b.toNat:Int) with
  | true =>
   simp -implicitDefEqProofs
   refine ⟨⟨i+1⟩,by simp; omega,⟨by simp; omega,fun j hj=>?_⟩,le_of (by simp [dslot]),rfl⟩
   rcases Nat.lt_or_ge j i with h1 | h1
   .exact z2 j h1
   .obtain rfl:j=i:=by simp at hj; omega
    rw [<- hb2]; exact ho
  | false =>
   simp -implicitDefEqProofs
   exact ret i (i+1) _ (by simp [deferred,dslot]) rfl ⟨fun _=>allB_false hi (by rw [<- hb2]; exact ho),fun _=>by omega⟩
 .obtain ⟨g1,g2⟩:=decode_high s i hi (by rw [<- hb]; omega)
  simp -implicitDefEqProofs [lp0_145,hi]
  refine callk (isProof1_c ((Utf8.decode s i).1:Int) (by omega)) rfl rfl ?_
  have ho:okR ((Utf8.decode s i).1:Int)=false:=okR_hi (by omega)
  have ho2:okB (bAt s i)=false:=okR_hi (by omega)
  rw [ho]
  simp -implicitDefEqProofs
  exact ret i (i+(Utf8.decode s i).2) _ (by simp [deferred,dslot]) rfl ⟨fun _=>allB_false hi ho2,fun _=>by omega⟩
theorem idxFunc_c (s:ByteArray) (hs:s.size <= 2 ^ 31) {h:AHeap}:ACalls PP Gl 142 [sv s,proofFn] h (fun r h'=>h'=h /\ ∃ v:Int,r=.ret (i64 v) /\ (0 <= v ↔ allB okB s=false)):=by
 refine enter_142 (by simp) ?_
 simp -implicitDefEqProofs [code_142,res_142,ann_142]
 refine callr (indexFunc_c s hs) rfl rfl ?_
 rintro r h' ⟨rfl,v,rfl,hv⟩
 simp -implicitDefEqProofs
 exact ret1 (v:=i64 v) (by simp [deferred,dslot]) rfl ⟨rfl,v,rfl,hv⟩
theorem contFunc_c (s:ByteArray) (hs:s.size <= 2 ^ 31) {h:AHeap}:AEx PP Gl 135 [sv s,proofFn] h (.ret (.sc (.bool (!allB okB s)))) h:=by
 refine enter_135 (by simp) ?_
 simp -implicitDefEqProofs [code_135,res_135,ann_135]
 refine callr (idxFunc_c s hs) rfl rfl ?_
 rintro r h' ⟨rfl,v,rfl,hv⟩
 have hb:decide (0 <= v)=!allB okB s:=by
  cases ha:allB okB s with
  | true=>rw [ha] at hv; simp at hv ⊢; exact hv
  | false=>rw [ha] at hv; simp at hv ⊢; exact hv
 simp -implicitDefEqProofs
 exact retE (v:=.sc (.bool (!allB okB s))) (by simp [deferred,dslot]) (by simp [evalRes,evalRes1,hb]) rfl rfl
def prfB (s:ByteArray):Bool:=decide (s=⟨#[40]⟩) || (decide (s=⟨#[41]⟩) || (decide (s ≠ ⟨#[]⟩) && allB okB s))
theorem isProof_c (s:ByteArray) (hs:s.size <= 2 ^ 31) {h:AHeap}:AEx PP Gl 127 [sv s] h (.ret (.sc (.bool (prfB s)))) h:=by
 refine enter_127 (by simp) ?_
 by_cases e1:s=⟨#[40]⟩
 .simp -implicitDefEqProofs [code_127,res_127,ann_127,e1]
  exact retE (v:=.sc (.bool true)) (by simp [deferred,dslot]) rfl (by simp [prfB]) rfl
 .by_cases e2:s=⟨#[41]⟩
  .have e1':¬ ((⟨#[41]⟩:ByteArray)=⟨#[40]⟩):=by decide
   simp -implicitDefEqProofs [code_127,res_127,ann_127,e2,e1']
   exact retE (v:=.sc (.bool true)) (by simp [deferred,dslot]) rfl (by simp [prfB]) rfl
  .by_cases e3:s=⟨#[]⟩
   .have e1':¬ ((⟨#[]⟩:ByteArray)=⟨#[40]⟩):=by decide
    have e2':¬ ((⟨#[]⟩:ByteArray)=⟨#[41]⟩):=by decide
    simp -implicitDefEqProofs [code_127,res_127,ann_127,e3,e1',e2']
    exact retE (v:=.sc (.bool false)) (by simp [deferred,dslot]) rfl (by simp [prfB,e1',e2']) rfl
   .simp -implicitDefEqProofs [code_127,res_127,ann_127,e1,e2,e3]
    refine callk (contFunc_c s hs) rfl rfl ?_
    simp -implicitDefEqProofs
    exact retE (v:=.sc (.bool (allB okB s))) (by simp [deferred,dslot]) (by simp [evalRes,evalRes1]) (by simp [prfB,e1,e2,e3]) rfl
end Go.Apx
end
section
namespace Go.Apx
open Go.Proofs Go.Shelf
set_option maxRecDepth 4000
abbrev noFn (fid:Nat):AV:=.fn (.func 124) [] [(AV.fn (.func fid) [] []).ip]
theorem mkNo_c (fid:Nat) {h:AHeap}:AEx PP Gl 123 [.fn (.func fid) [] []] h (.ret (noFn fid)) h:=by
 refine enter_123 (by simp) ?_
 simp -implicitDefEqProofs [code_123,res_123,ann_123]
 exact retE (v:=noFn fid) (by simp [deferred,dslot]) rfl rfl rfl
theorem no_c (fid:Nat) (s:ByteArray) (b:Bool) {h:AHeap} (hf:AEx PP Gl fid [sv s] h (.ret (.sc (.bool b))) h):AEx PP Gl 124 [sv s,(AV.fn (.func fid) [] []).ip] h (.ret (.sc (.bool (!b)))) h:=by
 refine enter_124 (by simp) ?_
 simp -implicitDefEqProofs [code_124,res_124,ann_124]
 refine callk hf rfl rfl ?_
 simp -implicitDefEqProofs
 exact retE (v:=.sc (.bool (!b))) (by simp [deferred,dslot]) rfl rfl rfl
def idxNo (p:ByteArray -> Bool):Nat -> List ByteArray -> Int
 | _,[]=>-1
 | i,s :: r=>if p s=false then (i:Int) else idxNo p (i+1) r
theorem idxNo_iff (p:ByteArray -> Bool):∀ (l:List ByteArray) (i:Nat),(0 <= idxNo p i l) ↔ l.all p=false
 | [],i=>by simp [idxNo]
 | s :: r,i=>by
  simp only [idxNo,List.all_cons]
  cases e:p s with
  | false=>simp
  | true=>simp [idxNo_iff p r (i+1)]
theorem idxNo_step (p:ByteArray -> Bool) (l:List ByteArray) (i:Nat) (s:ByteArray) (h:l[i]?=some s):idxNo p i (l.drop i)=if p s=false then (i:Int) else idxNo p (i+1) (l.drop (i+1)):=by
 obtain ⟨hl,rfl⟩:=List.getElem?_eq_some_iff.1 h
 rw [List.drop_eq_getElem_cons hl]; rfl
set_option maxHeartbeats 2000000 in
theorem indexNo_c (l:List ByteArray) (fid:Nat) (p:ByteArray -> Bool) (c:Cap) (hl:l.length <= 2 ^ 31) {h:AHeap} (hf:∀ s ∈ l,AEx PP Gl fid [sv s] h (.ret (.sc (.bool (p s)))) h) :
  AEx PP Gl 134 [.sl 1 (l.map sv) c,noFn fid] h (.ret (i64 (idxNo p 0 l))) h:=by
 refine enter_134 (by simp) ?_
 simp -implicitDefEqProofs [code_134,res_134,ann_134]
 refine AWp.till (S:=PuS) ⟨0⟩ (fun s=>l.length - s.i) [0,1,7] (fun s=>[(8,i64 (s.i:Int))]) (fun s=>h)
  (fun s=>s.i <= l.length /\ idxNo p s.i (l.drop s.i)=idxNo p 0 l) mixed (by simp) (le_of (by simp [dslot])) rfl ?_
 rintro ⟨i⟩ ⟨z1,z2⟩
 simp only at z1 z2
 by_cases hi:i < l.length
 case neg =>
  have hno:¬ (i:Int) < l.length:=by omega
  obtain rfl:i=l.length:=by omega
  rw [List.drop_length] at z2
  simp -implicitDefEqProofs [lp0_134,hno]
  exact retE (v:=i64 (-1)) (by simp [deferred,dslot]) rfl (by rw [<- z2]; rfl) rfl
 have hlt:(i:Int) < l.length:=by omega
 have wi:IntKind.i64.wrap ((i:Int)+1)=(i:Int)+1:=IntWalk.i64_in _ (by omega)
 obtain ⟨s,hs⟩:∃ s,s=l[i]:=⟨_,rfl⟩
 have hs2:l[i]?=some s:=by rw [hs]; simp [hi]
 have hstep:=idxNo_step p l i s hs2
 rw [z2] at hstep
 simp -implicitDefEqProofs [lp0_134,hlt,hi,<- hs]
 refine callk (no_c fid s (p s) (hf s (List.mem_of_getElem? hs2))) rfl rfl ?_
 cases e:p s with
 | false =>
  rw [if_pos e] at hstep
  rw [hstep]
  simp -implicitDefEqProofs
  exact retE (v:=i64 (i:Int)) (by simp [deferred,dslot]) rfl rfl rfl
 | true =>
  rw [if_neg (by rw [e]; simp)] at hstep
  simp -implicitDefEqProofs [wi]
  exact ⟨⟨i+1⟩,by simp; omega,⟨by simp; omega,by rw [hstep]⟩,le_of (by simp [dslot])⟩
theorem containsNo_c (l:List ByteArray) (fid:Nat) (p:ByteArray -> Bool) (c:Cap) (hl:l.length <= 2 ^ 31) {h:AHeap} (hf:∀ s ∈ l,AEx PP Gl fid [sv s] h (.ret (.sc (.bool (p s)))) h) :
  AEx PP Gl 125 [.sl 1 (l.map sv) c,noFn fid] h (.ret (.sc (.bool (!(l.all p))))) h:=by
 have hb:(decide (0 <= idxNo p 0 l))=!(l.all p):=by
  have:=idxNo_iff p l 0
  cases ha:l.all p with
  | true=>rw [ha] at this; simp at this ⊢; exact this
  | false=>rw [ha] at this; simp at this ⊢; exact this
 refine enter_125 (by simp) ?_
 simp -implicitDefEqProofs [code_125,res_125,ann_125]
 refine callk (indexNo_c l fid p c hl hf) rfl rfl ?_
 simp -implicitDefEqProofs
 exact retE (v:=.sc (.bool (!(l.all p)))) (by simp [deferred,dslot]) (by rw [<- hb]; simp [evalRes,evalRes1]) rfl rfl
abbrev FRow:=ByteArray × Bool × Nat × Nat
def frow (k:Nat):FRow:=(formT[k]?).getD (⟨#[]⟩,false,0,0)
def formF2 (s:St):Bool :=
 if s.kind < 1 \/ 9 < s.kind then false else
  let f:=frow s.kind.toNat
  if (f.2.1=true /\ labB s.label=false) \/ (f.2.1=false /\ s.label ≠ ⟨#[]⟩) \/ s.text.length < f.2.2.1 \/ f.2.2.2 < s.text.length then false
  else s.text.all symB && (s.proof.all prfB && (decide (s.kind=7) || decide (s.proof.length=0)))
abbrev FC:List AV:=formT.flatMap fun x=>[AV.sc (.string x.1),.sc (.bool x.2.1),.sc (.int .i64 (x.2.2.1:Int)),.sc (.int .i64 (x.2.2.2:Int))]
theorem frow_cut (k:Nat) (hk:k < 10):List.take 4 (List.drop (k * 4) FC)=[sv (frow k).1,.sc (.bool (frow k).2.1),i64 ((frow k).2.2.1:Int),i64 ((frow k).2.2.2:Int)]:=by
 have hx:formT[k]?=some (frow k):=by
  unfold frow
  rw [List.getElem?_eq_getElem (show k < formT.length from hk)]; rfl
 have:=rowCut (k:=4) (f:=fun x:FRow=>[AV.sc (.string x.1),.sc (.bool x.2.1),.sc (.int .i64 (x.2.2.1:Int)),.sc (.int .i64 (x.2.2.2:Int))]) (fun _=>rfl) formT [] k (frow k) hx
 rw [List.append_nil] at this
 exact this
theorem Gl_forms:Gl 1=some (AV.agg FC).ip:=rfl
set_option maxHeartbeats 16000000 in
theorem formed2_c (s:St) (hl:s.text.length <= 2 ^ 31) (hp:s.proof.length <= 2 ^ 31) (hps:∀ w ∈ s.proof,w.size <= 2 ^ 31) {h:AHeap}:AEx PP Gl 91 [encSt s] h (.ret (.sc (.bool (formF2 s)))) h:=by
 refine enter_91 (by simp) ?_
 by_cases k0:s.kind < 1
 .simp -implicitDefEqProofs [code_91,res_91,ann_91,encSt,k0]
  exact retE (v:=.sc (.bool false)) (by simp [deferred,dslot]) rfl (by unfold formF2; rw [if_pos (.inl k0)]) rfl
 by_cases k1:9 < s.kind
 .simp -implicitDefEqProofs [code_91,res_91,ann_91,encSt,k0,k1]
  exact retE (v:=.sc (.bool false)) (by simp [deferred,dslot]) rfl (by unfold formF2; rw [if_pos (.inr k1)]) rfl
 obtain ⟨k,hk⟩:∃ k:Nat,s.kind=(k:Int):=⟨s.kind.toNat,by omega⟩
 have hk9:k <= 9:=by omega
 have hk10:k < 10:=by omega
 have hrow:=frow_cut k hk10
 have hFl:FC.length=40:=by decide
 obtain ⟨C,hC⟩:∃ C,C=FC:=⟨_,rfl⟩
 have hG:Gl 1=some (AV.agg C).ip:=by rw [hC]; exact Gl_forms
 rw [<- hC] at hrow hFl
 obtain ⟨⟨kw,lb,le,mo⟩,hf⟩:∃ f,f=frow k:=⟨_,rfl⟩
 rw [<- hf] at hrow
 simp only at hrow
 have hlen:k * 4+4 <= 40:=by omega
 have k0':¬ (k:Int) < 1:=by omega
 have k1':¬ (9:Int) < k:=by omega
 have k2':(k:Int) < 10:=by omega
 have spec:formF2 s=if (lb=true /\ labB s.label=false) \/ (lb=false /\ s.label ≠ ⟨#[]⟩) \/ s.text.length < le \/ mo < s.text.length then false
  else s.text.all symB && (s.proof.all prfB && (decide ((k:Int)=7) || decide (s.proof.length=0))):=by
  unfold formF2
  rw [if_neg (by omega),hk,Int.toNat_natCast,<- hf]
 have bad:((lb=true /\ labB s.label=false) \/ (lb=false /\ s.label ≠ ⟨#[]⟩) \/ s.text.length < le \/ mo < s.text.length) -> AEnd.ret (.sc (.bool false))=AEnd.ret (.sc (.bool (formF2 s))):=fun hb=>by rw [spec,if_pos hb]
 have hct:=containsNo_c s.text 126 symB s.tc hl (h:=h) (fun w _=>isSymbol_c w)
 have hcp:=containsNo_c s.proof 127 prfB s.pc hp (h:=h) (fun w hw=>isProof_c w (hps w hw))
 cases lb with
 | true =>
  cases hlab:labB s.label with
  | false =>
   simp -implicitDefEqProofs [code_91,res_91,ann_91,encSt,hk,k0',k1',k2',hk10,hG,hrow,hFl,hlen]
   refine callk (isLabel_c s.label) rfl rfl ?_
   simp -implicitDefEqProofs [hlab]
   exact retE (v:=.sc (.bool false)) (by simp [deferred,dslot]) rfl (bad (.inl ⟨rfl,hlab⟩)) rfl
  | true =>
   simp -implicitDefEqProofs [code_91,res_91,ann_91,encSt,hk,k0',k1',k2',hk10,hG,hrow,hFl,hlen]
   refine callk (isLabel_c s.label) rfl rfl ?_
   by_cases l1:s.text.length < le
   .have l1':(s.text.length:Int) < le:=Int.ofNat_lt.2 ‹_›
    simp -implicitDefEqProofs [hlab,l1,l1']
    exact retE (v:=.sc (.bool false)) (by simp [deferred,dslot]) rfl (bad (.inr (.inr (.inl l1)))) rfl
   have l1':¬ (s.text.length:Int) < le:=fun e=>l1 (Int.ofNat_lt.1 e)
   by_cases l2:mo < s.text.length
   .have l2':(mo:Int) < s.text.length:=Int.ofNat_lt.2 ‹_›
    simp -implicitDefEqProofs [hlab,l1,l1',l2,l2']
    exact retE (v:=.sc (.bool false)) (by simp [deferred,dslot]) rfl (bad (.inr (.inr (.inr l2)))) rfl
   have l2':¬ (mo:Int) < s.text.length:=fun e=>l2 (Int.ofNat_lt.1 e)
   have spec2:formF2 s=(s.text.all symB && (s.proof.all prfB && (decide ((k:Int)=7) || decide (s.proof.length=0)))):=by rw [spec,if_neg (by rintro (⟨_,e⟩ | ⟨e,e'⟩ | e | e) <;> simp_all)]
   simp -implicitDefEqProofs [hlab,l1,l1',l2,l2']
   refine callk (mkNo_c 126) rfl rfl ?_
   simp -implicitDefEqProofs
   refine callk hct rfl rfl ?_
   cases ht:s.text.all symB with
   | false =>
    simp -implicitDefEqProofs [ht]
    exact retE (v:=.sc (.bool false)) (by simp [deferred,dslot]) rfl (by rw [spec2,ht]; rfl) rfl
   | true =>
    simp -implicitDefEqProofs [ht]
    refine callk (mkNo_c 127) rfl rfl ?_
    simp -implicitDefEqProofs
    refine callk hcp rfl rfl ?_
    cases hpf:s.proof.all prfB with
    | false =>
     simp -implicitDefEqProofs [hpf]
     exact retE (v:=.sc (.bool false)) (by simp [deferred,dslot]) rfl (by rw [spec2,ht,hpf]; rfl) rfl
    | true =>
     by_cases k7:k=7
     .have k7':(k:Int)=7:=by subst k7; rfl
      simp -implicitDefEqProofs [hpf,k7,k7']
      exact retE (v:=.sc (.bool true)) (by simp [deferred,dslot]) rfl (by rw [spec2,ht,hpf,k7']; rfl) rfl
     .have k7':¬ (k:Int)=7:=fun e=>k7 (Int.ofNat_inj.1 e)
      by_cases pl:s.proof=[]
      .simp -implicitDefEqProofs [hpf,k7,k7',pl]
       exact retE (v:=.sc (.bool true)) (by simp [deferred,dslot]) rfl (by rw [spec2,ht,hpf,pl]; simp) rfl
      .have pl':¬ s.proof.length=0:=fun e=>pl (List.eq_nil_of_length_eq_zero e)
       have pl2:¬ (s.proof.length:Int)=0:=fun e=>pl' (Int.ofNat_inj.1 e)
       simp -implicitDefEqProofs [hpf,k7,k7',pl,pl',pl2]
       exact retE (v:=.sc (.bool false)) (by simp [deferred,dslot]) rfl (by rw [spec2,ht,hpf,decide_eq_false k7',decide_eq_false pl']; rfl) rfl
 | false =>
  by_cases he:s.label=⟨#[]⟩
  case neg =>
   simp -implicitDefEqProofs [code_91,res_91,ann_91,encSt,hk,k0',k1',k2',hk10,hG,hrow,hFl,hlen,he]
   exact retE (v:=.sc (.bool false)) (by simp [deferred,dslot]) rfl (bad (.inr (.inl ⟨rfl,he⟩))) rfl
  by_cases l1:s.text.length < le
  .have l1':(s.text.length:Int) < le:=Int.ofNat_lt.2 ‹_›
   simp -implicitDefEqProofs [code_91,res_91,ann_91,encSt,hk,k0',k1',k2',hk10,hG,hrow,hFl,hlen,he,l1,l1']
   exact retE (v:=.sc (.bool false)) (by simp [deferred,dslot]) rfl (bad (.inr (.inr (.inl l1)))) rfl
  have l1':¬ (s.text.length:Int) < le:=fun e=>l1 (Int.ofNat_lt.1 e)
  by_cases l2:mo < s.text.length
  .have l2':(mo:Int) < s.text.length:=Int.ofNat_lt.2 ‹_›
   simp -implicitDefEqProofs [code_91,res_91,ann_91,encSt,hk,k0',k1',k2',hk10,hG,hrow,hFl,hlen,he,l1,l1',l2,l2']
   exact retE (v:=.sc (.bool false)) (by simp [deferred,dslot]) rfl (bad (.inr (.inr (.inr l2)))) rfl
  have l2':¬ (mo:Int) < s.text.length:=fun e=>l2 (Int.ofNat_lt.1 e)
  have spec2:formF2 s=(s.text.all symB && (s.proof.all prfB && (decide ((k:Int)=7) || decide (s.proof.length=0)))):=by rw [spec,if_neg (by rintro (⟨_,e⟩ | ⟨e,e'⟩ | e | e) <;> simp_all)]
  simp -implicitDefEqProofs [code_91,res_91,ann_91,encSt,hk,k0',k1',k2',hk10,hG,hrow,hFl,hlen,he,l1,l1',l2,l2']
  refine callk (mkNo_c 126) rfl rfl ?_
  simp -implicitDefEqProofs
  refine callk hct rfl rfl ?_
  cases ht:s.text.all symB with
  | false =>
   simp -implicitDefEqProofs [ht]
   exact retE (v:=.sc (.bool false)) (by simp [deferred,dslot]) rfl (by rw [spec2,ht]; rfl) rfl
  | true =>
   simp -implicitDefEqProofs [ht]
   refine callk (mkNo_c 127) rfl rfl ?_
   simp -implicitDefEqProofs
   refine callk hcp rfl rfl ?_
   cases hpf:s.proof.all prfB with
   | false =>
    simp -implicitDefEqProofs [hpf]
    exact retE (v:=.sc (.bool false)) (by simp [deferred,dslot]) rfl (by rw [spec2,ht,hpf]; rfl) rfl
   | true =>
    by_cases k7:k=7
    .have k7':(k:Int)=7:=by subst k7; rfl
     simp -implicitDefEqProofs [hpf,k7,k7']
     exact retE (v:=.sc (.bool true)) (by simp [deferred,dslot]) rfl (by rw [spec2,ht,hpf,k7']; rfl) rfl
    .have k7':¬ (k:Int)=7:=fun e=>k7 (Int.ofNat_inj.1 e)
     by_cases pl:s.proof=[]
     .simp -implicitDefEqProofs [hpf,k7,k7',pl]
      exact retE (v:=.sc (.bool true)) (by simp [deferred,dslot]) rfl (by rw [spec2,ht,hpf,pl]; simp) rfl
     .have pl':¬ s.proof.length=0:=fun e=>pl (List.eq_nil_of_length_eq_zero e)
      have pl2:¬ (s.proof.length:Int)=0:=fun e=>pl' (Int.ofNat_inj.1 e)
      simp -implicitDefEqProofs [hpf,k7,k7',pl,pl',pl2]
      exact retE (v:=.sc (.bool false)) (by simp [deferred,dslot]) rfl (by rw [spec2,ht,hpf,decide_eq_false k7',decide_eq_false pl']; rfl) rfl
end Go.Apx
end
section
namespace Go.Apx
open Go.Proofs Go.Shelf
set_option maxRecDepth 4000
theorem appX {C:Cx} {k b base:Nat} {x y:Opd} {d:Option Nat} {env:Env} {H:AHeap} {K:Env -> AHeap -> Prop} (es xs:List AV) (T:Nat) (g:Grow base H es.length T) (hx:evalOpd C.G env x=some (apd k es T)) (hy:(evalOpd C.G env y).bind (elems H k)=some xs)
  (hm:es.length+xs.length <= maxLenA) (hK:∀ H' T',Grow base H' (es++xs).length T' -> Low base H H' -> K (putD env d (apd k (es++xs) T')) H'):appW C k b x y d env H K :=
 appG es xs T hx hy (fun h=>g.tok (by simpa using h)) hm (hK _ _ (by rw [List.length_append]; exact g.app _) (g.lowG _))
theorem appY {C:Cx} {b base:Nat} {x y:Opd} {d:Option Nat} {env:Env} {H:AHeap} {K:Env -> AHeap -> Prop} (E X:List ByteArray) (T:Nat) (g:Grow base H E.length T) (hx:evalOpd C.G env x=some (apd 1 (E.map sv) T)) (hy:(evalOpd C.G env y).bind (elems H 1)=some (X.map sv))
  (hm:E.length+X.length <= maxLenA) (hK:∀ H' T' E',E'=E++X -> Grow base H' E'.length T' -> Low base H H' -> K (putD env d (apd 1 (E'.map sv) T')) H'):appW C 1 b x y d env H K :=
 appX (base:=base) (E.map sv) (X.map sv) T (by rw [List.length_map]; exact g) hx hy (by simpa using hm) fun H' T' g' l'=>by
  rw [<- List.map_append]
  exact hK H' T' _ rfl (by simpa using g') l'
def wordsF (lb:Bool) (kw:ByteArray) (k mo:Nat) (s:St):List ByteArray :=
 let a:=(if lb=true then [s.label] else [])++[kw]++s.text
 let b:=if k=7 then a++[⟨#[36,61]⟩]++s.proof else a
 if 0 < mo then b++[⟨#[36,46]⟩] else b
theorem wordsF_len (lb:Bool) (kw:ByteArray) (k mo:Nat) (s:St):(wordsF lb kw k mo s).length <= s.text.length+s.proof.length+4:=by
 unfold wordsF
 cases lb <;> simp only [] <;> split <;> split <;> simp <;> omega
set_option maxHeartbeats 16000000 in
theorem wordsOf_c (s:St) (k:Nat) (hk:s.kind=(k:Int)) (hk1:1 <= k) (hk10:k < 10) (hl:s.text.length <= 2 ^ 30) (hp:s.proof.length <= 2 ^ 30) {h:AHeap} :
  AEx PP Gl 92 [encSt s] h (.ret (grown 1 ((wordsF (frow k).2.1 (frow k).1 k (frow k).2.2.2 s).map sv))) h:=by
 refine enter_92 (by simp) ?_
 have hrow:=frow_cut k hk10
 have hFl:FC.length=40:=by decide
 obtain ⟨C,hC⟩:∃ C,C=FC:=⟨_,rfl⟩
 have hG:Gl 1=some (AV.agg C).ip:=by rw [hC]; exact Gl_forms
 rw [<- hC] at hrow hFl
 obtain ⟨⟨kw,lb,le,mo⟩,hf⟩:∃ f,f=frow k:=⟨_,rfl⟩
 rw [<- hf] at hrow ⊢
 simp only at hrow ⊢
 obtain ⟨W,hW⟩:∃ W,W=wordsF lb kw k mo s:=⟨_,rfl⟩
 rw [<- hW]
 have hlen:k * 4+4 <= 40:=by omega
 have g0:Grow h.length h ([]:List ByteArray).length 0:=.nil _ _ _ (Nat.le_refl _)
 have l0:Low h.length h h:=.refl _ _
 have hpu:∀ l:List ByteArray,purL (l.map sv)=true:=fun l=>purL_map (fun a=>(rfl:(sv a).pur=true)) l
 cases lb with
 | true =>
  by_cases k7:k=7
  .have k7':(k:Int)=7:=by subst k7; rfl
   by_cases m0:0 < mo
   .have m0':(0:Int) < mo:=Int.ofNat_lt.2 m0
    simp -implicitDefEqProofs [code_92,res_92,ann_92,encSt,hk,hk10,hG,hrow,hFl,hlen]
    refine appY (base:=h.length) [] [s.label] 0 g0 (by simp) (by simp) (by simp []; unfold maxLenA; omega) ?_
    intro H1 T1 E1 e1 g1 l1
    simp -implicitDefEqProofs [k7,k7',m0,m0']
    refine appY (base:=h.length) E1 [kw] T1 g1 (by simp) (by simp) (by simp [e1]; unfold maxLenA; omega) ?_
    intro H2 T2 E2 e2 g2 l2
    simp -implicitDefEqProofs [k7,k7',m0,m0']
    refine appY (base:=h.length) E2 s.text T2 g2 (by simp) (by simp) (by simp [e1,e2]; unfold maxLenA; omega) ?_
    intro H3 T3 E3 e3 g3 l3
    simp -implicitDefEqProofs [k7,k7',m0,m0']
    refine appY (base:=h.length) E3 [⟨#[36,61]⟩] T3 g3 (by simp) (by simp) (by simp [e1,e2,e3]; unfold maxLenA; omega) ?_
    intro H4 T4 E4 e4 g4 l4
    simp -implicitDefEqProofs [k7,k7',m0,m0']
    refine appY (base:=h.length) E4 s.proof T4 g4 (by simp) (by simp) (by simp [e1,e2,e3,e4]; unfold maxLenA; omega) ?_
    intro H5 T5 E5 e5 g5 l5
    simp -implicitDefEqProofs [k7,k7',m0,m0']
    refine appY (base:=h.length) E5 [⟨#[36,46]⟩] T5 g5 (by simp) (by simp) (by simp [e1,e2,e3,e4,e5]; unfold maxLenA; omega) ?_
    intro H6 T6 E6 e6 g6 l6
    simp -implicitDefEqProofs [k7,k7',m0,m0']
    have ew:W=E6:=by rw [hW]; simp [wordsF,k7,m0,e1,e2,e3,e4,e5,e6]
    rw [ew]
    exact retP (v':=grown 1 (E6.map sv)) (by simp [deferred,dslot]) (by simp [evalRes,evalRes1]; rfl) (strip_apd _ _ _ _ (purL_strip (hpu _))) (pur_grown _ (hpu _)) ((((((l0.trans l1).trans l2).trans l3).trans l4).trans l5).trans l6) rfl rfl
   .have m0':¬ (0:Int) < mo:=fun e=>m0 (Int.ofNat_lt.1 e)
    simp -implicitDefEqProofs [code_92,res_92,ann_92,encSt,hk,hk10,hG,hrow,hFl,hlen]
    refine appY (base:=h.length) [] [s.label] 0 g0 (by simp) (by simp) (by simp []; unfold maxLenA; omega) ?_
    intro H7 T7 E7 e7 g7 l7
    simp -implicitDefEqProofs [k7,k7',m0,m0']
    refine appY (base:=h.length) E7 [kw] T7 g7 (by simp) (by simp) (by simp [e7]; unfold maxLenA; omega) ?_
    intro H8 T8 E8 e8 g8 l8
    simp -implicitDefEqProofs [k7,k7',m0,m0']
    refine appY (base:=h.length) E8 s.text T8 g8 (by simp) (by simp) (by simp [e7,e8]; unfold maxLenA; omega) ?_
    intro H9 T9 E9 e9 g9 l9
    simp -implicitDefEqProofs [k7,k7',m0,m0']
    refine appY (base:=h.length) E9 [⟨#[36,61]⟩] T9 g9 (by simp) (by simp) (by simp [e7,e8,e9]; unfold maxLenA; omega) ?_
    intro H10 T10 E10 e10 g10 l10
    simp -implicitDefEqProofs [k7,k7',m0,m0']
    refine appY (base:=h.length) E10 s.proof T10 g10 (by simp) (by simp) (by simp [e7,e8,e9,e10]; unfold maxLenA; omega) ?_
    intro H11 T11 E11 e11 g11 l11
    simp -implicitDefEqProofs [k7,k7',m0,m0']
    have ew:W=E11:=by rw [hW]; simp [wordsF,k7,m0,e7,e8,e9,e10,e11]
    rw [ew]
    exact retP (v':=grown 1 (E11.map sv)) (by simp [deferred,dslot]) (by simp [evalRes,evalRes1]; rfl) (strip_apd _ _ _ _ (purL_strip (hpu _))) (pur_grown _ (hpu _)) (((((l0.trans l7).trans l8).trans l9).trans l10).trans l11) rfl rfl
  .have k7':¬ (k:Int)=7:=fun e=>k7 (Int.ofNat_inj.1 e)
   by_cases m0:0 < mo
   .have m0':(0:Int) < mo:=Int.ofNat_lt.2 m0
    simp -implicitDefEqProofs [code_92,res_92,ann_92,encSt,hk,hk10,hG,hrow,hFl,hlen]
    refine appY (base:=h.length) [] [s.label] 0 g0 (by simp) (by simp) (by simp []; unfold maxLenA; omega) ?_
    intro H12 T12 E12 e12 g12 l12
    simp -implicitDefEqProofs [k7,k7',m0,m0']
    refine appY (base:=h.length) E12 [kw] T12 g12 (by simp) (by simp) (by simp [e12]; unfold maxLenA; omega) ?_
    intro H13 T13 E13 e13 g13 l13
    simp -implicitDefEqProofs [k7,k7',m0,m0']
    refine appY (base:=h.length) E13 s.text T13 g13 (by simp) (by simp) (by simp [e12,e13]; unfold maxLenA; omega) ?_
    intro H14 T14 E14 e14 g14 l14
    simp -implicitDefEqProofs [k7,k7',m0,m0']
    refine appY (base:=h.length) E14 [⟨#[36,46]⟩] T14 g14 (by simp) (by simp) (by simp [e12,e13,e14]; unfold maxLenA; omega) ?_
    intro H15 T15 E15 e15 g15 l15
    simp -implicitDefEqProofs [k7,k7',m0,m0']
    have ew:W=E15:=by rw [hW]; simp [wordsF,k7,m0,e12,e13,e14,e15]
    rw [ew]
    exact retP (v':=grown 1 (E15.map sv)) (by simp [deferred,dslot]) (by simp [evalRes,evalRes1]; rfl) (strip_apd _ _ _ _ (purL_strip (hpu _))) (pur_grown _ (hpu _)) ((((l0.trans l12).trans l13).trans l14).trans l15) rfl rfl
   .have m0':¬ (0:Int) < mo:=fun e=>m0 (Int.ofNat_lt.1 e)
    simp -implicitDefEqProofs [code_92,res_92,ann_92,encSt,hk,hk10,hG,hrow,hFl,hlen]
    refine appY (base:=h.length) [] [s.label] 0 g0 (by simp) (by simp) (by simp []; unfold maxLenA; omega) ?_
    intro H16 T16 E16 e16 g16 l16
    simp -implicitDefEqProofs [k7,k7',m0,m0']
    refine appY (base:=h.length) E16 [kw] T16 g16 (by simp) (by simp) (by simp [e16]; unfold maxLenA; omega) ?_
    intro H17 T17 E17 e17 g17 l17
    simp -implicitDefEqProofs [k7,k7',m0,m0']
    refine appY (base:=h.length) E17 s.text T17 g17 (by simp) (by simp) (by simp [e16,e17]; unfold maxLenA; omega) ?_
    intro H18 T18 E18 e18 g18 l18
    simp -implicitDefEqProofs [k7,k7',m0,m0']
    have ew:W=E18:=by rw [hW]; simp [wordsF,k7,m0,e16,e17,e18]
    rw [ew]
    exact retP (v':=grown 1 (E18.map sv)) (by simp [deferred,dslot]) (by simp [evalRes,evalRes1]; rfl) (strip_apd _ _ _ _ (purL_strip (hpu _))) (pur_grown _ (hpu _)) (((l0.trans l16).trans l17).trans l18) rfl rfl
 | false =>
  by_cases k7:k=7
  .have k7':(k:Int)=7:=by subst k7; rfl
   by_cases m0:0 < mo
   .have m0':(0:Int) < mo:=Int.ofNat_lt.2 m0
    simp -implicitDefEqProofs [code_92,res_92,ann_92,encSt,hk,hk10,hG,hrow,hFl,hlen]
    refine appY (base:=h.length) [] [kw] 0 g0 (by simp) (by simp) (by simp []; unfold maxLenA; omega) ?_
    intro H19 T19 E19 e19 g19 l19
    simp -implicitDefEqProofs [k7,k7',m0,m0']
    refine appY (base:=h.length) E19 s.text T19 g19 (by simp) (by simp) (by simp [e19]; unfold maxLenA; omega) ?_
    intro H20 T20 E20 e20 g20 l20
    simp -implicitDefEqProofs [k7,k7',m0,m0']
    refine appY (base:=h.length) E20 [⟨#[36,61]⟩] T20 g20 (by simp) (by simp) (by simp [e19,e20]; unfold maxLenA; omega) ?_
    intro H21 T21 E21 e21 g21 l21
    simp -implicitDefEqProofs [k7,k7',m0,m0']
    refine appY (base:=h.length) E21 s.proof T21 g21 (by simp) (by simp) (by simp [e19,e20,e21]; unfold maxLenA; omega) ?_
    intro H22 T22 E22 e22 g22 l22
    simp -implicitDefEqProofs [k7,k7',m0,m0']
    refine appY (base:=h.length) E22 [⟨#[36,46]⟩] T22 g22 (by simp) (by simp) (by simp [e19,e20,e21,e22]; unfold maxLenA; omega) ?_
    intro H23 T23 E23 e23 g23 l23
    simp -implicitDefEqProofs [k7,k7',m0,m0']
    have ew:W=E23:=by rw [hW]; simp [wordsF,k7,m0,e19,e20,e21,e22,e23]
    rw [ew]
    exact retP (v':=grown 1 (E23.map sv)) (by simp [deferred,dslot]) (by simp [evalRes,evalRes1]; rfl) (strip_apd _ _ _ _ (purL_strip (hpu _))) (pur_grown _ (hpu _)) (((((l0.trans l19).trans l20).trans l21).trans l22).trans l23) rfl rfl
   .have m0':¬ (0:Int) < mo:=fun e=>m0 (Int.ofNat_lt.1 e)
    simp -implicitDefEqProofs [code_92,res_92,ann_92,encSt,hk,hk10,hG,hrow,hFl,hlen]
    refine appY (base:=h.length) [] [kw] 0 g0 (by simp) (by simp) (by simp []; unfold maxLenA; omega) ?_
    intro H24 T24 E24 e24 g24 l24
    simp -implicitDefEqProofs [k7,k7',m0,m0']
    refine appY (base:=h.length) E24 s.text T24 g24 (by simp) (by simp) (by simp [e24]; unfold maxLenA; omega) ?_
    intro H25 T25 E25 e25 g25 l25
    simp -implicitDefEqProofs [k7,k7',m0,m0']
    refine appY (base:=h.length) E25 [⟨#[36,61]⟩] T25 g25 (by simp) (by simp) (by simp [e24,e25]; unfold maxLenA; omega) ?_
    intro H26 T26 E26 e26 g26 l26
    simp -implicitDefEqProofs [k7,k7',m0,m0']
    refine appY (base:=h.length) E26 s.proof T26 g26 (by simp) (by simp) (by simp [e24,e25,e26]; unfold maxLenA; omega) ?_
    intro H27 T27 E27 e27 g27 l27
    simp -implicitDefEqProofs [k7,k7',m0,m0']
    have ew:W=E27:=by rw [hW]; simp [wordsF,k7,m0,e24,e25,e26,e27]
    rw [ew]
    exact retP (v':=grown 1 (E27.map sv)) (by simp [deferred,dslot]) (by simp [evalRes,evalRes1]; rfl) (strip_apd _ _ _ _ (purL_strip (hpu _))) (pur_grown _ (hpu _)) ((((l0.trans l24).trans l25).trans l26).trans l27) rfl rfl
  .have k7':¬ (k:Int)=7:=fun e=>k7 (Int.ofNat_inj.1 e)
   by_cases m0:0 < mo
   .have m0':(0:Int) < mo:=Int.ofNat_lt.2 m0
    simp -implicitDefEqProofs [code_92,res_92,ann_92,encSt,hk,hk10,hG,hrow,hFl,hlen]
    refine appY (base:=h.length) [] [kw] 0 g0 (by simp) (by simp) (by simp []; unfold maxLenA; omega) ?_
    intro H28 T28 E28 e28 g28 l28
    simp -implicitDefEqProofs [k7,k7',m0,m0']
    refine appY (base:=h.length) E28 s.text T28 g28 (by simp) (by simp) (by simp [e28]; unfold maxLenA; omega) ?_
    intro H29 T29 E29 e29 g29 l29
    simp -implicitDefEqProofs [k7,k7',m0,m0']
    refine appY (base:=h.length) E29 [⟨#[36,46]⟩] T29 g29 (by simp) (by simp) (by simp [e28,e29]; unfold maxLenA; omega) ?_
    intro H30 T30 E30 e30 g30 l30
    simp -implicitDefEqProofs [k7,k7',m0,m0']
    have ew:W=E30:=by rw [hW]; simp [wordsF,k7,m0,e28,e29,e30]
    rw [ew]
    exact retP (v':=grown 1 (E30.map sv)) (by simp [deferred,dslot]) (by simp [evalRes,evalRes1]; rfl) (strip_apd _ _ _ _ (purL_strip (hpu _))) (pur_grown _ (hpu _)) (((l0.trans l28).trans l29).trans l30) rfl rfl
   .have m0':¬ (0:Int) < mo:=fun e=>m0 (Int.ofNat_lt.1 e)
    simp -implicitDefEqProofs [code_92,res_92,ann_92,encSt,hk,hk10,hG,hrow,hFl,hlen]
    refine appY (base:=h.length) [] [kw] 0 g0 (by simp) (by simp) (by simp []; unfold maxLenA; omega) ?_
    intro H31 T31 E31 e31 g31 l31
    simp -implicitDefEqProofs [k7,k7',m0,m0']
    refine appY (base:=h.length) E31 s.text T31 g31 (by simp) (by simp) (by simp [e31]; unfold maxLenA; omega) ?_
    intro H32 T32 E32 e32 g32 l32
    simp -implicitDefEqProofs [k7,k7',m0,m0']
    have ew:W=E32:=by rw [hW]; simp [wordsF,k7,m0,e31,e32]
    rw [ew]
    exact retP (v':=grown 1 (E32.map sv)) (by simp [deferred,dslot]) (by simp [evalRes,evalRes1]; rfl) (strip_apd _ _ _ _ (purL_strip (hpu _))) (pur_grown _ (hpu _)) ((l0.trans l31).trans l32) rfl rfl
end Go.Apx
end
