/- The program's state: what lies where; isActive, label, formula. -/
import Derived.Test.YtmgajcmigkcmdaaGreatDoorNG
import Derived.Test.YtmgajcmigkcmdaaGreatDoorNH
import Derived.Test.YtmgajcmigkcmdaaGreatDoorAmI
import Derived.Test.YtmgajcmigkcmdaaGreatDoorND
set_option linter.unusedVariables false
set_option linter.unusedSimpArgs false
set_option linter.unnecessarySimpa false
section
namespace Go.Apx
open Go.Proofs Go.Shelf
set_option maxRecDepth 4000
structure Hy where
 label:ByteArray
 fl:Bool
 text:List ByteArray
abbrev Hy.cells (x:Hy):List AV:=[sv x.label,.sc (.bool x.fl),.sl 1 (x.text.map sv) .any]
structure Lv where
 at_:Int
 nv:Nat
 nh:Nat
 na:Nat
abbrev Lv.cells (x:Lv):List AV:=[i64 x.at_,i64 (x.nv:Int),i64 (x.nh:Int),i64 (x.na:Int)]
structure Sx where
 cs:List ByteArray
 vs:List ByteArray
 hs:List Hy
 ap:List Pr
 d:Nat
 lv:List Lv
 con:List (ByteArray × Bool)
 dec:List (ByteArray × Bool)
 act:List (ByteArray × Bool)
 lab:List (ByteArray × Bool)
 typ:List (ByteArray × ByteArray)
 flo:List (ByteArray × Bool)
abbrev stCells (B:Nat) (VC VV VH VA VL:AV) (d:Int):List AV:=[VC,VV,VH,VA,i64 d,VL,.mp B,.mp (B+1),.mp (B+2),.mp (B+3),.mp (B+4),.mp (B+5)]
structure SR (ρ:Nat -> Nat) (B:Nat) (H:AHeap) (x:Sx) (VC VV VH VA VL:AV) (T:Nat):Prop where
 st:H[B+6]?=some (.cells 0 (stCells B VC VV VH VA VL x.d))
 con:H[B]?=some (.amap (smap bv x.con))
 dec:H[B+1]?=some (.amap (smap bv x.dec))
 act:H[B+2]?=some (.amap (smap bv x.act))
 lab:H[B+3]?=some (.amap (smap bv x.lab))
 typ:H[B+4]?=some (.amap (smap sv x.typ))
 flo:H[B+5]?=some (.amap (smap bv x.flo))
 vc:VC=apd 1 (x.cs.map sv) T
 tk:x.cs ≠ [] -> H[T]?=some (.tok x.cs.length) /\ B+7 <= T /\ ρ T=0
 vv:Ow ρ H (B+7) 1 1 x.vs.length (x.vs.map sv) VV
 vh:Ow ρ H (B+7) 2 3 x.hs.length (x.hs.flatMap Hy.cells) VH
 va:Ow ρ H (B+7) 3 2 x.ap.length (cellsP x.ap []) VA
 vl:Ow ρ H (B+7) 4 4 x.lv.length (x.lv.flatMap Lv.cells) VL
abbrev has (l:List (ByteArray × Bool)) (s:ByteArray):Bool:=(sfind l s).getD false
def formF (x:Sx):Nat -> List ByteArray -> Int
 | _,[]=>0
 | i,s :: r=>if (has x.con s || has x.act s)=false then 63 else if i=0 /\ has x.con s=false then 64 else if i ≠ 0 /\ has x.act s=true /\ has x.flo s=false then 65 else formF x (i+1) r
theorem formF_step (x:Sx) (l:List ByteArray) (i:Nat) (s:ByteArray) (h:l[i]?=some s):formF x i (l.drop i) =
  if (has x.con s || has x.act s)=false then 63 else if i=0 /\ has x.con s=false then 64 else if i ≠ 0 /\ has x.act s=true /\ has x.flo s=false then 65 else formF x (i+1) (l.drop (i+1)):=by
 obtain ⟨hl,rfl⟩:=List.getElem?_eq_some_iff.1 h
 rw [List.drop_eq_getElem_cons hl]; rfl
section
variable {ρ:Nat -> Nat} {B:Nat} {H:AHeap} {x:Sx} {VC VV VH VA VL:AV} {T:Nat}
set_option maxHeartbeats 1000000 in
theorem isActive_c (hR:SR ρ B H x VC VV VH VA VL T) (s:ByteArray):AEx PP Gl 88 [.ptr (B+6) 0 0,sv s] H (.ret (.sc (.bool (has x.con s || has x.act s)))) H:=by
 have h1:=hR.st
 have h2:=hR.con
 have h3:=hR.act
 refine enter_88 (by simp) ?_
 cases e:has x.con s with
 | true =>
  simp -implicitDefEqProofs [code_88,res_88,ann_88,h1,h2,h3,e]
  exact retE (v:=.sc (.bool true)) (by simp [deferred,dslot]) rfl rfl rfl
 | false =>
  simp -implicitDefEqProofs [code_88,res_88,ann_88,h1,h2,h3,e]
  exact retE (v:=.sc (.bool (has x.act s))) (by simp [deferred,dslot]) rfl rfl rfl
def labF2 (x:Sx) (s:ByteArray):Bool:=has x.lab s || has x.con s || has x.dec s
set_option maxHeartbeats 2000000 in
theorem label_c (hR:SR ρ B H x VC VV VH VA VL T) (s:ByteArray):AEx PP Gl 87 [.ptr (B+6) 0 0,sv s] H (.ret (i64 (if labF2 x s=true then 62 else 0))) (if labF2 x s=true then H else H.set (B+3) (.amap (smap bv (sset x.lab s true)))):=by
 have h1:=hR.st
 have h2:=hR.con
 have h3:=hR.lab
 have h4:=hR.dec
 refine enter_87 (by simp) ?_
 cases e:has x.lab s with
 | true =>
  simp -implicitDefEqProofs [code_87,res_87,ann_87,h1,h2,h3,h4,e]
  exact retE (v:=i64 62) (by simp [deferred,dslot]) rfl (by simp [labF2,e]) (by simp [labF2,e])
 | false =>
  cases e2:has x.con s with
  | true =>
   simp -implicitDefEqProofs [code_87,res_87,ann_87,h1,h2,h3,h4,e,e2]
   exact retE (v:=i64 62) (by simp [deferred,dslot]) rfl (by simp [labF2,e2]) (by simp [labF2,e2])
  | false =>
   cases e3:has x.dec s with
   | true =>
    simp -implicitDefEqProofs [code_87,res_87,ann_87,h1,h2,h3,h4,e,e2,e3]
    exact retE (v:=i64 62) (by simp [deferred,dslot]) rfl (by simp [labF2,e3]) (by simp [labF2,e3])
   | false =>
    simp -implicitDefEqProofs [code_87,res_87,ann_87,h1,h2,h3,h4,e,e2,e3]
    exact retE (v:=i64 0) (by simp [deferred,dslot]) rfl (by simp [labF2,e,e2,e3]) (by simp [labF2,e,e2,e3])
set_option maxHeartbeats 4000000 in
theorem formula_c (hR:SR ρ B H x VC VV VH VA VL T) (l:List ByteArray) (c:Cap) (hl:l.length <= 2 ^ 31):AEx PP Gl 89 [.ptr (B+6) 0 0,.sl 1 (l.map sv) c] H (.ret (i64 (formF x 0 l))) H:=by
 have h1:=hR.st
 have h2:=hR.con
 have h3:=hR.act
 have h4:=hR.flo
 refine enter_89 (by simp) ?_
 simp -implicitDefEqProofs [code_89,res_89,ann_89]
 refine AWp.till (S:=PuS) ⟨0⟩ (fun s=>l.length - s.i) [0,7,8] (fun s=>[(9,i64 (s.i:Int))]) (fun s=>H)
  (fun s=>s.i <= l.length /\ formF x s.i (l.drop s.i)=formF x 0 l) mixed (by simp) (le_of (by simp [dslot])) rfl ?_
 rintro ⟨i⟩ ⟨z1,z2⟩
 simp only at z1 z2
 rw [<- z2]
 by_cases hi:i < l.length
 case neg =>
  have hno:¬ (i:Int) < l.length:=by omega
  obtain rfl:i=l.length:=by omega
  rw [List.drop_length]
  simp -implicitDefEqProofs [lp0_89,hno]
  exact retE (v:=i64 0) (by simp [deferred,dslot]) rfl rfl rfl
 have hlt:(i:Int) < l.length:=by omega
 have wi:IntKind.i64.wrap ((i:Int)+1)=(i:Int)+1:=IntWalk.i64_in _ (by omega)
 obtain ⟨s,hs⟩:∃ s,s=l[i]:=⟨_,rfl⟩
 have hs2:l[i]?=some s:=by rw [hs]; simp [hi]
 have hstep:=formF_step x l i s hs2
 simp -implicitDefEqProofs [lp0_89,hlt,hi,<- hs]
 refine callk (isActive_c hR s) rfl rfl ?_
 have i0:(i:Int)=0 ↔ i=0:=by omega
 have i1:0 < i ↔ i ≠ 0:=by omega
 cases ea:(has x.con s || has x.act s) with
 | false =>
  simp -implicitDefEqProofs
  exact retE (v:=i64 63) (by simp [deferred,dslot]) rfl (by rw [hstep,if_pos ea]) rfl
 | true =>
  rw [if_neg (by rw [ea]; simp)] at hstep
  by_cases e0:i=0
  .subst e0
   cases ec:has x.con s with
   | false =>
    simp -implicitDefEqProofs [h1,h2,ec]
    exact retE (v:=i64 64) (by simp [deferred,dslot]) rfl (by rw [<- z2,hstep,if_pos ⟨rfl,ec⟩]) rfl
   | true =>
    rw [if_neg (by simp [ec]),if_neg (by simp)] at hstep
    simp -implicitDefEqProofs [h1,h2,h3,h4,ec]
    exact ⟨⟨1⟩,by simp; omega,⟨by simp; omega,by rw [<- hstep,z2]⟩,le_of (by simp [dslot])⟩
  .rw [if_neg (by simp [e0])] at hstep
   have e0':¬ (i:Int)=0:=by omega
   have e1:0 < i:=by omega
   have e1':(0:Int) < i:=by omega
   cases et:has x.act s with
   | false =>
    rw [if_neg (by simp [et])] at hstep
    simp -implicitDefEqProofs [h1,h2,h3,h4,e0,e0',e1,e1',et,wi]
    exact ⟨⟨i+1⟩,by simp; omega,⟨by simp; omega,by rw [<- hstep,z2]⟩,le_of (by simp [dslot])⟩
   | true =>
    cases ef:has x.flo s with
    | false =>
     rw [if_pos ⟨e0,et,ef⟩] at hstep
     simp -implicitDefEqProofs [h1,h2,h3,h4,e0,e0',e1,e1',et,ef,wi]
     exact retE (v:=i64 65) (by simp [deferred,dslot]) rfl (by rw [hstep]) rfl
    | true =>
     rw [if_neg (by simp [ef])] at hstep
     simp -implicitDefEqProofs [h1,h2,h3,h4,e0,e0',e1,e1',et,ef,wi]
     exact ⟨⟨i+1⟩,by simp; omega,⟨by simp; omega,by rw [<- hstep,z2]⟩,le_of (by simp [dslot])⟩
end
end Go.Apx
end
section
namespace Go.Apx
open Go.Proofs Go.Shelf
set_option maxRecDepth 4000
section
variable {ρ ρ':Nat -> Nat} {B:Nat} {H H':AHeap} {x:Sx} {VC VV VH VA VL:AV} {T:Nat}
theorem SR.len (hR:SR ρ B H x VC VV VH VA VL T):B+7 <= H.length:=lt_of hR.st
theorem SR.fr (hR:SR ρ B H x VC VV VH VA VL T) (i:Nat) (hρ:∀ z,z < H.length -> ρ' z=ρ z) (hH:∀ z,B+7 <= z -> z < H.length -> ρ z ≠ i -> H'[z]?=H[z]?) :
  (i ≠ 0 -> x.cs ≠ [] -> H'[T]?=some (.tok x.cs.length) /\ B+7 <= T /\ ρ' T=0) /\ (i ≠ 1 -> Ow ρ' H' (B+7) 1 1 x.vs.length (x.vs.map sv) VV) /\ (i ≠ 2 -> Ow ρ' H' (B+7) 2 3 x.hs.length (x.hs.flatMap Hy.cells) VH) /\
  (i ≠ 3 -> Ow ρ' H' (B+7) 3 2 x.ap.length (cellsP x.ap []) VA) /\ (i ≠ 4 -> Ow ρ' H' (B+7) 4 4 x.lv.length (x.lv.flatMap Lv.cells) VL):=by
 refine ⟨fun hi hc=>?_,fun hi=>hR.vv.frame fun z h1 h2 h3=>?_,fun hi=>hR.vh.frame fun z h1 h2 h3=>?_,fun hi=>hR.va.frame fun z h1 h2 h3=>?_,fun hi=>hR.vl.frame fun z h1 h2 h3=>?_⟩
 .obtain ⟨h1,h2,h3⟩:=hR.tk hc
  exact ⟨by rw [hH T h2 (lt_of h1) (by rw [h3]; exact fun e=>hi e.symm)]; exact h1,h2,by rw [hρ T (lt_of h1)]; exact h3⟩
 all_goals exact ⟨hH z h1 h2 (by rw [h3]; exact fun e=>hi e.symm),by rw [hρ z h2]; exact h3⟩
theorem SR.con' (hR:SR ρ B H x VC VV VH VA VL T) (l:List (ByteArray × Bool)):SR ρ B (H.set B (.amap (smap bv l))) { x with con:=l } VC VV VH VA VL T:=by
 have hlen:=hR.len
 obtain ⟨a0,a1,a2,a3,a4⟩:=hR.fr (ρ':=ρ) (H':=H.set B (.amap (smap bv l))) 9 (fun _ _=>rfl) (fun z h1 _ _=>by rw [List.getElem?_set_ne (by omega)])
 exact ⟨by rw [List.getElem?_set_ne (by omega)]; exact hR.st,by rw [List.getElem?_set_self (by omega)],by rw [List.getElem?_set_ne (by omega)]; exact hR.dec,by rw [List.getElem?_set_ne (by omega)]; exact hR.act,by rw [List.getElem?_set_ne (by omega)]; exact hR.lab,by rw [List.getElem?_set_ne (by omega)]; exact hR.typ,by rw [List.getElem?_set_ne (by omega)]; exact hR.flo,hR.vc,a0 (by decide),a1 (by decide),a2 (by decide),a3 (by decide),a4 (by decide)⟩
theorem SR.dec' (hR:SR ρ B H x VC VV VH VA VL T) (l:List (ByteArray × Bool)):SR ρ B (H.set (B+1) (.amap (smap bv l))) { x with dec:=l } VC VV VH VA VL T:=by
 have hlen:=hR.len
 obtain ⟨a0,a1,a2,a3,a4⟩:=hR.fr (ρ':=ρ) (H':=H.set (B+1) (.amap (smap bv l))) 9 (fun _ _=>rfl) (fun z h1 _ _=>by rw [List.getElem?_set_ne (by omega)])
 exact ⟨by rw [List.getElem?_set_ne (by omega)]; exact hR.st,by rw [List.getElem?_set_ne (by omega)]; exact hR.con,by rw [List.getElem?_set_self (by omega)],by rw [List.getElem?_set_ne (by omega)]; exact hR.act,by rw [List.getElem?_set_ne (by omega)]; exact hR.lab,by rw [List.getElem?_set_ne (by omega)]; exact hR.typ,by rw [List.getElem?_set_ne (by omega)]; exact hR.flo,hR.vc,a0 (by decide),a1 (by decide),a2 (by decide),a3 (by decide),a4 (by decide)⟩
theorem SR.act' (hR:SR ρ B H x VC VV VH VA VL T) (l:List (ByteArray × Bool)):SR ρ B (H.set (B+2) (.amap (smap bv l))) { x with act:=l } VC VV VH VA VL T:=by
 have hlen:=hR.len
 obtain ⟨a0,a1,a2,a3,a4⟩:=hR.fr (ρ':=ρ) (H':=H.set (B+2) (.amap (smap bv l))) 9 (fun _ _=>rfl) (fun z h1 _ _=>by rw [List.getElem?_set_ne (by omega)])
 exact ⟨by rw [List.getElem?_set_ne (by omega)]; exact hR.st,by rw [List.getElem?_set_ne (by omega)]; exact hR.con,by rw [List.getElem?_set_ne (by omega)]; exact hR.dec,by rw [List.getElem?_set_self (by omega)],by rw [List.getElem?_set_ne (by omega)]; exact hR.lab,by rw [List.getElem?_set_ne (by omega)]; exact hR.typ,by rw [List.getElem?_set_ne (by omega)]; exact hR.flo,hR.vc,a0 (by decide),a1 (by decide),a2 (by decide),a3 (by decide),a4 (by decide)⟩
theorem SR.lab' (hR:SR ρ B H x VC VV VH VA VL T) (l:List (ByteArray × Bool)):SR ρ B (H.set (B+3) (.amap (smap bv l))) { x with lab:=l } VC VV VH VA VL T:=by
 have hlen:=hR.len
 obtain ⟨a0,a1,a2,a3,a4⟩:=hR.fr (ρ':=ρ) (H':=H.set (B+3) (.amap (smap bv l))) 9 (fun _ _=>rfl) (fun z h1 _ _=>by rw [List.getElem?_set_ne (by omega)])
 exact ⟨by rw [List.getElem?_set_ne (by omega)]; exact hR.st,by rw [List.getElem?_set_ne (by omega)]; exact hR.con,by rw [List.getElem?_set_ne (by omega)]; exact hR.dec,by rw [List.getElem?_set_ne (by omega)]; exact hR.act,by rw [List.getElem?_set_self (by omega)],by rw [List.getElem?_set_ne (by omega)]; exact hR.typ,by rw [List.getElem?_set_ne (by omega)]; exact hR.flo,hR.vc,a0 (by decide),a1 (by decide),a2 (by decide),a3 (by decide),a4 (by decide)⟩
theorem SR.typ' (hR:SR ρ B H x VC VV VH VA VL T) (l:List (ByteArray × ByteArray)):SR ρ B (H.set (B+4) (.amap (smap sv l))) { x with typ:=l } VC VV VH VA VL T:=by
 have hlen:=hR.len
 obtain ⟨a0,a1,a2,a3,a4⟩:=hR.fr (ρ':=ρ) (H':=H.set (B+4) (.amap (smap sv l))) 9 (fun _ _=>rfl) (fun z h1 _ _=>by rw [List.getElem?_set_ne (by omega)])
 exact ⟨by rw [List.getElem?_set_ne (by omega)]; exact hR.st,by rw [List.getElem?_set_ne (by omega)]; exact hR.con,by rw [List.getElem?_set_ne (by omega)]; exact hR.dec,by rw [List.getElem?_set_ne (by omega)]; exact hR.act,by rw [List.getElem?_set_ne (by omega)]; exact hR.lab,by rw [List.getElem?_set_self (by omega)],by rw [List.getElem?_set_ne (by omega)]; exact hR.flo,hR.vc,a0 (by decide),a1 (by decide),a2 (by decide),a3 (by decide),a4 (by decide)⟩
theorem SR.flo' (hR:SR ρ B H x VC VV VH VA VL T) (l:List (ByteArray × Bool)):SR ρ B (H.set (B+5) (.amap (smap bv l))) { x with flo:=l } VC VV VH VA VL T:=by
 have hlen:=hR.len
 obtain ⟨a0,a1,a2,a3,a4⟩:=hR.fr (ρ':=ρ) (H':=H.set (B+5) (.amap (smap bv l))) 9 (fun _ _=>rfl) (fun z h1 _ _=>by rw [List.getElem?_set_ne (by omega)])
 exact ⟨by rw [List.getElem?_set_ne (by omega)]; exact hR.st,by rw [List.getElem?_set_ne (by omega)]; exact hR.con,by rw [List.getElem?_set_ne (by omega)]; exact hR.dec,by rw [List.getElem?_set_ne (by omega)]; exact hR.act,by rw [List.getElem?_set_ne (by omega)]; exact hR.lab,by rw [List.getElem?_set_ne (by omega)]; exact hR.typ,by rw [List.getElem?_set_self (by omega)],hR.vc,a0 (by decide),a1 (by decide),a2 (by decide),a3 (by decide),a4 (by decide)⟩
theorem SR.d' (hR:SR ρ B H x VC VV VH VA VL T) (d:Nat):SR ρ B (H.set (B+6) (.cells 0 (stCells B VC VV VH VA VL d))) { x with d:=d } VC VV VH VA VL T:=by
 have hlen:=hR.len
 obtain ⟨a0,a1,a2,a3,a4⟩:=hR.fr (ρ':=ρ) (H':=H.set (B+6) (.cells 0 (stCells B VC VV VH VA VL d))) 9 (fun _ _=>rfl) (fun z h1 _ _=>by rw [List.getElem?_set_ne (by omega)])
 exact ⟨by rw [List.getElem?_set_self (by omega)],by rw [List.getElem?_set_ne (by omega)]; exact hR.con,by rw [List.getElem?_set_ne (by omega)]; exact hR.dec,by rw [List.getElem?_set_ne (by omega)]; exact hR.act,by rw [List.getElem?_set_ne (by omega)]; exact hR.lab,by rw [List.getElem?_set_ne (by omega)]; exact hR.typ,by rw [List.getElem?_set_ne (by omega)]; exact hR.flo,hR.vc,a0 (by decide),a1 (by decide),a2 (by decide),a3 (by decide),a4 (by decide)⟩
theorem SR.pushV (hR:SR ρ B H x VC VV VH VA VL T) {VV':AV} (l:List ByteArray) (hO:Ow ρ' H' (B+7) 1 1 (x.vs.length+l.length) ((x.vs.map sv)++l.map sv) VV') (hlen':H.length <= H'.length) (hρ:∀ z,z < H.length -> ρ' z=ρ z) (hH:∀ z,z < H.length -> (z < B+7 \/ ρ z ≠ 1) -> H'[z]?=H[z]?) :
  SR ρ' B (H'.set (B+6) (.cells 0 (stCells B VC VV' VH VA VL x.d))) { x with vs:=x.vs++l } VC VV' VH VA VL T:=by
 have hlen:=hR.len
 obtain ⟨a0,a1,a2,a3,a4⟩:=hR.fr (ρ':=ρ') (H':=H'.set (B+6) (.cells 0 (stCells B VC VV' VH VA VL x.d))) 1 hρ (fun z h1 h2 h3=>by rw [List.getElem?_set_ne (by omega),hH z h2 (.inr h3)])
 have hO':Ow ρ' (H'.set (B+6) (.cells 0 (stCells B VC VV' VH VA VL x.d))) (B+7) 1 1 (x.vs++l).length ((x.vs.map sv)++l.map sv) VV':=by
  rw [List.length_append]
  exact hO.frame fun z h1 h2 h3=>⟨by rw [List.getElem?_set_ne (by omega)],h3⟩
 exact ⟨by rw [List.getElem?_set_self (by omega)],by rw [List.getElem?_set_ne (by omega),hH _ (by omega) (.inl (by omega))]; exact hR.con,by rw [List.getElem?_set_ne (by omega),hH _ (by omega) (.inl (by omega))]; exact hR.dec,by rw [List.getElem?_set_ne (by omega),hH _ (by omega) (.inl (by omega))]; exact hR.act,by rw [List.getElem?_set_ne (by omega),hH _ (by omega) (.inl (by omega))]; exact hR.lab,by rw [List.getElem?_set_ne (by omega),hH _ (by omega) (.inl (by omega))]; exact hR.typ,by rw [List.getElem?_set_ne (by omega),hH _ (by omega) (.inl (by omega))]; exact hR.flo,hR.vc,a0 (by decide),by simpa using hO',a2 (by decide),a3 (by decide),a4 (by decide)⟩
theorem SR.pushH (hR:SR ρ B H x VC VV VH VA VL T) {VH':AV} (l:List Hy) (hO:Ow ρ' H' (B+7) 2 3 (x.hs.length+l.length) ((x.hs.flatMap Hy.cells)++l.flatMap Hy.cells) VH') (hlen':H.length <= H'.length) (hρ:∀ z,z < H.length -> ρ' z=ρ z) (hH:∀ z,z < H.length -> (z < B+7 \/ ρ z ≠ 2) -> H'[z]?=H[z]?) :
  SR ρ' B (H'.set (B+6) (.cells 0 (stCells B VC VV VH' VA VL x.d))) { x with hs:=x.hs++l } VC VV VH' VA VL T:=by
 have hlen:=hR.len
 obtain ⟨a0,a1,a2,a3,a4⟩:=hR.fr (ρ':=ρ') (H':=H'.set (B+6) (.cells 0 (stCells B VC VV VH' VA VL x.d))) 2 hρ (fun z h1 h2 h3=>by rw [List.getElem?_set_ne (by omega),hH z h2 (.inr h3)])
 have hO':Ow ρ' (H'.set (B+6) (.cells 0 (stCells B VC VV VH' VA VL x.d))) (B+7) 2 3 (x.hs++l).length ((x.hs.flatMap Hy.cells)++l.flatMap Hy.cells) VH':=by
  rw [List.length_append]
  exact hO.frame fun z h1 h2 h3=>⟨by rw [List.getElem?_set_ne (by omega)],h3⟩
 exact ⟨by rw [List.getElem?_set_self (by omega)],by rw [List.getElem?_set_ne (by omega),hH _ (by omega) (.inl (by omega))]; exact hR.con,by rw [List.getElem?_set_ne (by omega),hH _ (by omega) (.inl (by omega))]; exact hR.dec,by rw [List.getElem?_set_ne (by omega),hH _ (by omega) (.inl (by omega))]; exact hR.act,by rw [List.getElem?_set_ne (by omega),hH _ (by omega) (.inl (by omega))]; exact hR.lab,by rw [List.getElem?_set_ne (by omega),hH _ (by omega) (.inl (by omega))]; exact hR.typ,by rw [List.getElem?_set_ne (by omega),hH _ (by omega) (.inl (by omega))]; exact hR.flo,hR.vc,a0 (by decide),a1 (by decide),by simpa using hO',a3 (by decide),a4 (by decide)⟩
theorem SR.pushA (hR:SR ρ B H x VC VV VH VA VL T) {VA':AV} (l:List Pr) (hO:Ow ρ' H' (B+7) 3 2 (x.ap.length+l.length) ((cellsP x.ap [])++cellsP l []) VA') (hlen':H.length <= H'.length) (hρ:∀ z,z < H.length -> ρ' z=ρ z) (hH:∀ z,z < H.length -> (z < B+7 \/ ρ z ≠ 3) -> H'[z]?=H[z]?) :
  SR ρ' B (H'.set (B+6) (.cells 0 (stCells B VC VV VH VA' VL x.d))) { x with ap:=x.ap++l } VC VV VH VA' VL T:=by
 have hlen:=hR.len
 obtain ⟨a0,a1,a2,a3,a4⟩:=hR.fr (ρ':=ρ') (H':=H'.set (B+6) (.cells 0 (stCells B VC VV VH VA' VL x.d))) 3 hρ (fun z h1 h2 h3=>by rw [List.getElem?_set_ne (by omega),hH z h2 (.inr h3)])
 have hO':Ow ρ' (H'.set (B+6) (.cells 0 (stCells B VC VV VH VA' VL x.d))) (B+7) 3 2 (x.ap++l).length ((cellsP x.ap [])++cellsP l []) VA':=by
  rw [List.length_append]
  exact hO.frame fun z h1 h2 h3=>⟨by rw [List.getElem?_set_ne (by omega)],h3⟩
 exact ⟨by rw [List.getElem?_set_self (by omega)],by rw [List.getElem?_set_ne (by omega),hH _ (by omega) (.inl (by omega))]; exact hR.con,by rw [List.getElem?_set_ne (by omega),hH _ (by omega) (.inl (by omega))]; exact hR.dec,by rw [List.getElem?_set_ne (by omega),hH _ (by omega) (.inl (by omega))]; exact hR.act,by rw [List.getElem?_set_ne (by omega),hH _ (by omega) (.inl (by omega))]; exact hR.lab,by rw [List.getElem?_set_ne (by omega),hH _ (by omega) (.inl (by omega))]; exact hR.typ,by rw [List.getElem?_set_ne (by omega),hH _ (by omega) (.inl (by omega))]; exact hR.flo,hR.vc,a0 (by decide),a1 (by decide),a2 (by decide),by simpa [cellsP] using hO',a4 (by decide)⟩
theorem SR.pushL (hR:SR ρ B H x VC VV VH VA VL T) {VL':AV} (l:List Lv) (hO:Ow ρ' H' (B+7) 4 4 (x.lv.length+l.length) ((x.lv.flatMap Lv.cells)++l.flatMap Lv.cells) VL') (hlen':H.length <= H'.length) (hρ:∀ z,z < H.length -> ρ' z=ρ z) (hH:∀ z,z < H.length -> (z < B+7 \/ ρ z ≠ 4) -> H'[z]?=H[z]?) :
  SR ρ' B (H'.set (B+6) (.cells 0 (stCells B VC VV VH VA VL' x.d))) { x with lv:=x.lv++l } VC VV VH VA VL' T:=by
 have hlen:=hR.len
 obtain ⟨a0,a1,a2,a3,a4⟩:=hR.fr (ρ':=ρ') (H':=H'.set (B+6) (.cells 0 (stCells B VC VV VH VA VL' x.d))) 4 hρ (fun z h1 h2 h3=>by rw [List.getElem?_set_ne (by omega),hH z h2 (.inr h3)])
 have hO':Ow ρ' (H'.set (B+6) (.cells 0 (stCells B VC VV VH VA VL' x.d))) (B+7) 4 4 (x.lv++l).length ((x.lv.flatMap Lv.cells)++l.flatMap Lv.cells) VL':=by
  rw [List.length_append]
  exact hO.frame fun z h1 h2 h3=>⟨by rw [List.getElem?_set_ne (by omega)],h3⟩
 exact ⟨by rw [List.getElem?_set_self (by omega)],by rw [List.getElem?_set_ne (by omega),hH _ (by omega) (.inl (by omega))]; exact hR.con,by rw [List.getElem?_set_ne (by omega),hH _ (by omega) (.inl (by omega))]; exact hR.dec,by rw [List.getElem?_set_ne (by omega),hH _ (by omega) (.inl (by omega))]; exact hR.act,by rw [List.getElem?_set_ne (by omega),hH _ (by omega) (.inl (by omega))]; exact hR.lab,by rw [List.getElem?_set_ne (by omega),hH _ (by omega) (.inl (by omega))]; exact hR.typ,by rw [List.getElem?_set_ne (by omega),hH _ (by omega) (.inl (by omega))]; exact hR.flo,hR.vc,a0 (by decide),a1 (by decide),a2 (by decide),a3 (by decide),by simpa using hO'⟩
theorem SR.cutL (hR:SR ρ B H x VC VV VH VA VL T) {VL':AV} (n:Nat) (hn:n <= x.lv.length) (hO:Ow ρ H (B+7) 4 4 n ((x.lv.flatMap Lv.cells).take (n * 4)) VL') :
  SR ρ B (H.set (B+6) (.cells 0 (stCells B VC VV VH VA VL' x.d))) { x with lv:=x.lv.take n } VC VV VH VA VL' T:=by
 have hlen:=hR.len
 obtain ⟨a0,a1,a2,a3,a4⟩:=hR.fr (ρ':=ρ) (H':=H.set (B+6) (.cells 0 (stCells B VC VV VH VA VL' x.d))) 9 (fun _ _=>rfl) (fun z h1 _ _=>by rw [List.getElem?_set_ne (by omega)])
 have hO':Ow ρ (H.set (B+6) (.cells 0 (stCells B VC VV VH VA VL' x.d))) (B+7) 4 4 (x.lv.take n).length ((x.lv.take n).flatMap Lv.cells) VL':=by
  rw [List.length_take,Nat.min_eq_left hn,<- rowTake (k:=4) (fun _=>rfl)]
  exact hO.frame fun z h1 h2 h3=>⟨by rw [List.getElem?_set_ne (by omega)],h3⟩
 exact ⟨by rw [List.getElem?_set_self (by omega)],by rw [List.getElem?_set_ne (by omega)]; exact hR.con,by rw [List.getElem?_set_ne (by omega)]; exact hR.dec,by rw [List.getElem?_set_ne (by omega)]; exact hR.act,by rw [List.getElem?_set_ne (by omega)]; exact hR.lab,by rw [List.getElem?_set_ne (by omega)]; exact hR.typ,by rw [List.getElem?_set_ne (by omega)]; exact hR.flo,hR.vc,a0 (by decide),a1 (by decide),a2 (by decide),a3 (by decide),hO'⟩
theorem SR.cutVHA (hR:SR ρ B H x VC VV VH VA VL T) {VV' VH' VA':AV} (nv nh na:Nat) (hv:nv <= x.vs.length) (hh:nh <= x.hs.length) (ha:na <= x.ap.length)
  (oV:Ow ρ H (B+7) 1 1 nv ((x.vs.map sv).take (nv * 1)) VV') (oH:Ow ρ H (B+7) 2 3 nh ((x.hs.flatMap Hy.cells).take (nh * 3)) VH') (oA:Ow ρ H (B+7) 3 2 na ((cellsP x.ap []).take (na * 2)) VA') :
  SR ρ B (H.set (B+6) (.cells 0 (stCells B VC VV' VH' VA' VL x.d))) { x with vs:=x.vs.take nv,hs:=x.hs.take nh,ap:=x.ap.take na } VC VV' VH' VA' VL T:=by
 have hlen:=hR.len
 obtain ⟨a0,a1,a2,a3,a4⟩:=hR.fr (ρ':=ρ) (H':=H.set (B+6) (.cells 0 (stCells B VC VV' VH' VA' VL x.d))) 9 (fun _ _=>rfl) (fun z h1 _ _=>by rw [List.getElem?_set_ne (by omega)])
 have oV':Ow ρ (H.set (B+6) (.cells 0 (stCells B VC VV' VH' VA' VL x.d))) (B+7) 1 1 (x.vs.take nv).length ((x.vs.take nv).map sv) VV':=by
  rw [List.length_take,Nat.min_eq_left hv,List.map_take,<- Nat.mul_one nv]
  exact (by simpa using oV:Ow ρ H (B+7) 1 1 (nv * 1) ((x.vs.map sv).take (nv * 1)) VV').frame fun z h1 h2 h3=>⟨by rw [List.getElem?_set_ne (by omega)],h3⟩
 have oH':Ow ρ (H.set (B+6) (.cells 0 (stCells B VC VV' VH' VA' VL x.d))) (B+7) 2 3 (x.hs.take nh).length ((x.hs.take nh).flatMap Hy.cells) VH':=by
  rw [List.length_take,Nat.min_eq_left hh,<- rowTake (k:=3) (fun _=>rfl)]
  exact oH.frame fun z h1 h2 h3=>⟨by rw [List.getElem?_set_ne (by omega)],h3⟩
 have oA':Ow ρ (H.set (B+6) (.cells 0 (stCells B VC VV' VH' VA' VL x.d))) (B+7) 3 2 (x.ap.take na).length (cellsP (x.ap.take na) []) VA':=by
  have:cellsP (x.ap.take na) []=(cellsP x.ap []).take (na * 2):=by unfold cellsP; rw [List.append_nil,List.append_nil,rowTake (k:=2) (fun _=>rfl)]
  rw [List.length_take,Nat.min_eq_left ha,this]
  exact oA.frame fun z h1 h2 h3=>⟨by rw [List.getElem?_set_ne (by omega)],h3⟩
 exact ⟨by rw [List.getElem?_set_self (by omega)],by rw [List.getElem?_set_ne (by omega)]; exact hR.con,by rw [List.getElem?_set_ne (by omega)]; exact hR.dec,by rw [List.getElem?_set_ne (by omega)]; exact hR.act,by rw [List.getElem?_set_ne (by omega)]; exact hR.lab,by rw [List.getElem?_set_ne (by omega)]; exact hR.typ,by rw [List.getElem?_set_ne (by omega)]; exact hR.flo,hR.vc,a0 (by decide),oV',oH',oA',a4 (by decide)⟩
theorem SR.pushC (hR:SR ρ B H x VC VV VH VA VL T) (c:ByteArray):∃ ρ',SR ρ' B ((apG H x.cs.length 1 T).set (B+6) (.cells 0 (stCells B (apd 1 ((x.cs++[c]).map sv) (apT H x.cs.length 1 T)) VV VH VA VL x.d))) { x with cs:=x.cs++[c] } (apd 1 ((x.cs++[c]).map sv) (apT H x.cs.length 1 T)) VV VH VA VL (apT H x.cs.length 1 T):=by
 have hlen:=hR.len
 have htk:x.cs.length ≠ 0 -> H[T]?=some (.tok x.cs.length):=fun h=>(hR.tk (fun e=>h (by rw [e]; rfl))).1
 have hT:x.cs.length ≠ 0 -> B+7 <= T /\ ρ T=0:=fun h=>(hR.tk (fun e=>h (by rw [e]; rfl))).2
 have htok:=apG_tok (H:=H) (m:=1) htk (by omega)
 have hgl:=apG_len H x.cs.length 1 T
 have hT':B+7 <= apT H x.cs.length 1 T:=by
  unfold apT
  rw [if_neg (by omega)]
  split
  .omega
  .rename_i h; exact (hT h).1
 refine ⟨fun z=>if z=apT H x.cs.length 1 T then 0 else ρ z,?_⟩
 have hρ:∀ z,z < H.length -> (if z=apT H x.cs.length 1 T then 0 else ρ z)=ρ z:=fun z hz=>by
  split
  .rename_i e
   unfold apT at e
   rw [if_neg (by omega)] at e
   split at e
   .omega
   .rename_i h; rw [e]; exact (hT h).2.symm
  .rfl
 have hk:∀ z,z < H.length -> (z < B+7 \/ ρ z ≠ 0) -> (apG H x.cs.length 1 T)[z]?=H[z]?:=fun z hz ho=>by
  have hx:H[z]?=some H[z]:=by simp [hz]
  rw [hx]
  refine apG_keep hx (fun hn e=>?_)
  rcases ho with ho | ho
  .have:=(hT hn).1; omega
  .rw [e] at ho; exact ho (hT hn).2
 obtain ⟨a0,a1,a2,a3,a4⟩:=hR.fr (ρ':=fun z=>if z=apT H x.cs.length 1 T then 0 else ρ z) (H':=(apG H x.cs.length 1 T).set (B+6) (.cells 0 (stCells B (apd 1 ((x.cs++[c]).map sv) (apT H x.cs.length 1 T)) VV VH VA VL x.d))) 0 hρ (fun z h1 h2 h3=>by rw [List.getElem?_set_ne (by omega),hk z h2 (.inr h3)])
 exact ⟨by rw [List.getElem?_set_self (by omega)],by rw [List.getElem?_set_ne (by omega),hk _ (by omega) (.inl (by omega))]; exact hR.con,by rw [List.getElem?_set_ne (by omega),hk _ (by omega) (.inl (by omega))]; exact hR.dec,by rw [List.getElem?_set_ne (by omega),hk _ (by omega) (.inl (by omega))]; exact hR.act,by rw [List.getElem?_set_ne (by omega),hk _ (by omega) (.inl (by omega))]; exact hR.lab,by rw [List.getElem?_set_ne (by omega),hk _ (by omega) (.inl (by omega))]; exact hR.typ,by rw [List.getElem?_set_ne (by omega),hk _ (by omega) (.inl (by omega))]; exact hR.flo,rfl,fun _=>⟨by rw [List.getElem?_set_ne (by omega),htok]; simp,hT',by simp⟩,a1 (by decide),a2 (by decide),a3 (by decide),a4 (by decide)⟩
end
end Go.Apx
end
section
namespace Go.Apx
open Go.Proofs Go.Shelf
set_option maxRecDepth 4000
section
variable {ρ ρ':Nat -> Nat} {B:Nat} {H H':AHeap} {x:Sx} {VC VV VH VA VL:AV} {T:Nat}
def StepP (B:Nat) (H:AHeap) (res:Int × Sx) (r:AEnd) (H':AHeap):Prop :=
 r=.ret (i64 res.1) /\ Low B H H' /\ (res.1=0 -> ∃ ρ VC VV VH VA VL T,SR ρ B H' res.2 VC VV VH VA VL T)
def openF (x:Sx) (a:Int):Int × Sx:=if 100 <= x.d then (9,x) else (0,{ x with d:=x.d+1,lv:=x.lv++[⟨a,x.vs.length,x.hs.length,x.ap.length⟩] })
theorem low_push {b:Nat} {i:Nat} {ρ:Nat -> Nat} {H1 H2:AHeap} (k:∀ z,z < H1.length -> (z < b+7 \/ ρ z ≠ i) -> H2[z]?=H1[z]?):Low b H1 H2:=fun z y hz hy=>by rw [k z (lt_of hy) (.inl (by omega))]; exact hy
set_option maxHeartbeats 4000000 in
theorem open_c (hR:SR ρ B H x VC VV VH VA VL T) (a:Int) (s:St) (hd:x.d <= 2 ^ 20) (hl:x.lv.length <= 2 ^ 20):ACalls PP Gl 62 [.ptr (B+6) 0 0,i64 a,encSt s] H (StepP B H (openF x a)):=by
 have h1:=hR.st
 have hlen:=hR.len
 refine enter_62 (by simp) ?_
 by_cases h100:100 <= x.d
 .have h100':(100:Int) <= x.d:=by omega
  simp -implicitDefEqProofs [code_62,res_62,ann_62,h1,h100',encSt]
  exact ret1 (v:=i64 9) (by simp [deferred,dslot]) rfl (by unfold openF; rw [if_pos h100]; exact ⟨rfl,.refl _ _,fun e=>by simp at e⟩)
 .have h100':¬ (100:Int) <= x.d:=by omega
  have wi:IntKind.i64.wrap ((x.d:Int)+1)=(x.d:Int)+1:=IntWalk.i64_in _ (by omega)
  have hR1:=hR.d' (x.d+1)
  have hcast:((x.d+1:Nat):Int)=(x.d:Int)+1:=rfl
  rw [hcast] at hR1
  obtain ⟨H1,hH1⟩:∃ H1,H1=H.set (B+6) (.cells 0 (stCells B VC VV VH VA VL ((x.d:Int)+1))):=⟨_,rfl⟩
  rw [<- hH1] at hR1
  have h2:H1[B+6]?=some (.cells 0 (stCells B VC VV VH VA VL ((x.d:Int)+1))):=hR1.st
  obtain ⟨VL',H2,ρ2,e2,o2,l2,r2,k2⟩:=hR1.vl.push 32 [.agg [i64 a,i64 (x.vs.length:Int),i64 (x.hs.length:Int),i64 (x.ap.length:Int)]] (by simp [AV.cells]) hR1.len (by simp [maxLenA]; omega)
  have hv:=fun X=>hR.vv.len Gl X
  have hh:=fun X=>hR.vh.len Gl X
  have ha:=fun X=>hR.va.len Gl X
  have hv0:=hR.vv.len Gl []
  have hh0:=hR.vh.len Gl []
  have ha0:=hR.va.len Gl []
  have pv:=hR.vv.pend
  have ph:=hR.vh.pend
  have pa:=hR.va.pend
  have pl:=hR.vl.pend
  have ov:=hR.vv.one
  have oh:=hR.vh.one
  have oa:=hR.va.one
  have ol:=hR.vl.one
  have pl':=o2.pend
  have cl':=o2.cells
  have ol':=o2.one
  have e3:=e2 Gl (.sl 4 [.agg [i64 a,i64 (x.vs.length:Int),i64 (x.hs.length:Int),i64 (x.ap.length:Int)]] .full) (by simp [elems]) rfl
  have h3:H2[B+6]?=some (.cells 0 (stCells B VC VV VH VA VL ((x.d:Int)+1))):=by rw [k2 _ (lt_of h2) (.inl (by omega))]; exact h2
  simp at hv hh ha e3 hv0 hh0 ha0
  simp -implicitDefEqProofs [code_62,res_62,ann_62,h1,h100',encSt,wi]
  rw [<- hH1]
  simp -implicitDefEqProofs [h2,h3,hv,hh,ha,hv0,hh0,ha0,pv,ph,pa,pl,ov,oh,oa,ol,pl',cl',ol',e3]
  have fin:=hR1.pushL [⟨a,x.vs.length,x.hs.length,x.ap.length⟩] o2 l2 r2 k2
  have low:Low B H (H2.set (B+6) (.cells 0 (stCells B VC VV VH VA VL' ((x.d:Int)+1)))):=((hH1 ▸ Low.set (by omega):Low B H H1).trans (low_push k2)).trans (Low.set (by omega))
  exact ret1 (v:=i64 0) (by simp [deferred,dslot]) (by simp [evalRes,evalRes1]) (by unfold openF; rw [if_neg h100]; exact ⟨rfl,low,fun _=>⟨_,_,_,_,_,_,_,fin⟩⟩)
def labX (x:Sx) (l:ByteArray):Sx:={ x with lab:=sset x.lab l true }
def assF (x:Sx) (s:St):Int × Sx:=if labF2 x s.label=true then (62,x) else (formF (labX x s.label) 0 s.text,labX x s.label)
set_option maxHeartbeats 4000000 in
theorem ass_c (hR:SR ρ B H x VC VV VH VA VL T) (a:Int) (s:St) (hl:s.text.length <= 2 ^ 31):ACalls PP Gl 61 [.ptr (B+6) 0 0,i64 a,encSt s] H (StepP B H (assF x s)):=by
 have h1:=hR.st
 have hlab:=label_c hR s.label
 refine enter_61 (by simp) ?_
 simp -implicitDefEqProofs [code_61,res_61,ann_61,encSt]
 refine callk hlab rfl rfl ?_
 by_cases e:labF2 x s.label=true
 .rw [if_pos e,if_pos e]
  simp -implicitDefEqProofs
  exact ret1 (v:=i64 62) (by simp [deferred,dslot]) rfl (by unfold assF; rw [if_pos e]; exact ⟨rfl,.refl _ _,fun e=>by simp at e⟩)
 .rw [if_neg e,if_neg e]
  have hR1:=hR.lab' (sset x.lab s.label true)
  have hform:=formula_c hR1 s.text s.tc hl
  simp -implicitDefEqProofs
  refine callk hform rfl rfl ?_
  simp -implicitDefEqProofs
  exact ret1 (v:=i64 (formF (labX x s.label) 0 s.text)) (by simp [deferred,dslot]) rfl (by unfold assF; rw [if_neg e]; exact ⟨rfl,Low.set (by omega),fun _=>⟨_,_,_,_,_,_,_,hR1⟩⟩)
theorem cloneFz (l:List ByteArray) (c:Cap) (hc:c ≠ .nil) (hne:l ≠ []) (hl:l.length <= 2 ^ 31) {h:AHeap}:AEx PP Gl 30 [.sl 1 (l.map sv) c] h (.ret (.sl 1 (l.map sv) .any)) h:=by
 have hml:¬ (l.map sv=[]):=by simpa using hne
 have h1:=cloneS_c l (.sl 1 (l.map sv) c) (h:=h) (by simpa [isNilK] using hc) (by simp [elems]) hl
 simp only [cpV,cpH,if_neg hml,List.length_map] at h1
 have hfl:(l.map sv).flatMap AV.cells=l.map sv:=by have:=cellsS_map l []; simpa [cellsS,List.flatMap_map] using this
 rw [hfl] at h1
 have h2:=ACalls.freeze h1 (i:=h.length) (g:=0) (cs:=l.map sv) 1 (by simp)
 have hrows:∀ l:List ByteArray,rows 1 l.length (l.map sv)=l.map sv:=fun l=>by
  induction l with
  | nil=>rfl
  | cons a l ih=>simp [rows,ih]
 have hz:(AV.rf h.length 0 0 l.length (.own 1)).frz h.length 0 1 (l.map sv)=.sl 1 (l.map sv) .any:=by simp [AV.frz,frz1,hrows]
 rw [hz,set_end] at h2
 exact h2.drop (pur_inb _ (by simp [AV.pur,purL_map (fun a=>(rfl:(sv a).pur=true))]))
def essF (x:Sx) (s:St):Int × Sx:=if labF2 x s.label=true then (62,x) else if formF (labX x s.label) 0 s.text ≠ 0 then (formF (labX x s.label) 0 s.text,labX x s.label)
 else (0,{ labX x s.label with hs:=x.hs++[⟨s.label,false,s.text⟩] })
set_option maxHeartbeats 8000000 in
theorem ess_c (hR:SR ρ B H x VC VV VH VA VL T) (a:Int) (s:St) (hne:s.text ≠ []) (hc:s.tc ≠ .nil) (hl:s.text.length <= 2 ^ 31) (hhs:x.hs.length <= 2 ^ 20):ACalls PP Gl 59 [.ptr (B+6) 0 0,i64 a,encSt s] H (StepP B H (essF x s)):=by
 have hlab:=label_c hR s.label
 refine enter_59 (by simp) ?_
 simp -implicitDefEqProofs [code_59,res_59,ann_59,encSt]
 refine callk hlab rfl rfl ?_
 by_cases e:labF2 x s.label=true
 .rw [if_pos e,if_pos e]
  simp -implicitDefEqProofs
  exact ret1 (v:=i64 62) (by simp [deferred,dslot]) rfl (by unfold essF; rw [if_pos e]; exact ⟨rfl,.refl _ _,fun e=>by simp at e⟩)
 rw [if_neg e,if_neg e]
 have hR1:=hR.lab' (sset x.lab s.label true)
 have hform:=formula_c hR1 s.text s.tc hl
 have lowL:Low B H (H.set (B+3) (.amap (smap bv (sset x.lab s.label true)))):=Low.set (by omega)
 obtain ⟨H1,hH1⟩:∃ H1,H1=H.set (B+3) (.amap (smap bv (sset x.lab s.label true))):=⟨_,rfl⟩
 rw [<- hH1] at hR1 hform lowL ⊢
 obtain ⟨E,hE⟩:∃ E,E=formF (labX x s.label) 0 s.text:=⟨_,rfl⟩
 have hform':AEx PP Gl 89 [.ptr (B+6) 0 0,.sl 1 (s.text.map sv) s.tc] H1 (.ret (i64 E)) H1:=by rw [hE]; exact hform
 simp -implicitDefEqProofs
 refine callk hform' rfl rfl ?_
 by_cases e0:E=0
 case neg =>
  simp -implicitDefEqProofs [e0]
  exact ret1 (v:=i64 E) (by simp [deferred,dslot]) rfl (by unfold essF; rw [if_neg e,<- hE,if_pos e0]; exact ⟨rfl,lowL,fun h=>(e0 h).elim⟩)
 have h2:H1[B+6]?=some (.cells 0 (stCells B VC VV VH VA VL x.d)):=hR1.st
 obtain ⟨VH',H2,ρ2,e2,o2,l2,r2,k2⟩:=hR1.vh.push 48 [.agg [sv s.label,.sc (.bool false),.sl 1 (s.text.map sv) .any]] (by simp [AV.cells]) hR1.len (by simp [maxLenA]; omega)
 have pv:=hR.vv.pend
 have ph:=hR.vh.pend
 have oh:=hR.vh.one
 have ph':=o2.pend
 have ch':=o2.cells
 have oh':=o2.one
 have e3:=e2 Gl (.sl 3 [.agg [sv s.label,.sc (.bool false),.sl 1 (s.text.map sv) .any]] .full) (by simp [elems]) rfl
 have h3:H2[B+6]?=some (.cells 0 (stCells B VC VV VH VA VL x.d)):=by rw [k2 _ (lt_of h2) (.inl (by omega))]; exact h2
 simp at e3
 simp -implicitDefEqProofs [e0,h2,h3,ph,oh]
 refine callk (cloneFz s.text s.tc hc hne hl) rfl rfl ?_
 simp -implicitDefEqProofs [h2,h3,ph,oh,ph',ch',oh',e3]
 have fin:=hR1.pushH [⟨s.label,false,s.text⟩] o2 l2 r2 k2
 have low:Low B H (H2.set (B+6) (.cells 0 (stCells B VC VV VH' VA VL x.d))):=(lowL.trans (low_push k2)).trans (Low.set (by omega))
 exact ret1 (v:=i64 0) (by simp [deferred,dslot]) (by simp [evalRes,evalRes1]) (by unfold essF; rw [if_neg e,<- hE,if_neg (by simpa using e0)]; exact ⟨rfl,low,fun _=>⟨_,_,_,_,_,_,_,fin⟩⟩)
def idxF (w:ByteArray):Nat -> List ByteArray -> Int
 | _,[]=>-1
 | i,s :: r=>if w=s then (i:Int) else idxF w (i+1) r
theorem idxF_mem (w:ByteArray):∀ (l:List ByteArray) (i:Nat),(0 <= idxF w i l) ↔ w ∈ l
 | [],i=>by simp [idxF]
 | s :: r,i=>by
  simp only [idxF,List.mem_cons]
  by_cases e:w=s
  .rw [if_pos e]; constructor
   .exact fun _=>.inl e
   .exact fun _=>by omega
  .rw [if_neg e,idxF_mem w r (i+1)]; simp [e]
theorem idxF_step (w:ByteArray) (l:List ByteArray) (i:Nat) (s:ByteArray) (h:l[i]?=some s):idxF w i (l.drop i)=if w=s then (i:Int) else idxF w (i+1) (l.drop (i+1)):=by
 obtain ⟨hl,rfl⟩:=List.getElem?_eq_some_iff.1 h
 rw [List.drop_eq_getElem_cons hl]; rfl
set_option maxHeartbeats 2000000 in
theorem index_c (l:List ByteArray) (w:ByteArray) (j:Nat) (c:Cap) (hj:j=1 \/ l=[]) (hl:l.length <= 2 ^ 31) {h:AHeap}:AEx PP Gl 35 [.sl j (l.map sv) c,sv w] h (.ret (i64 (idxF w 0 l))) h:=by
 refine enter_35 (by simp) ?_
 simp -implicitDefEqProofs [code_35,res_35,ann_35]
 refine AWp.till (S:=PuS) ⟨0⟩ (fun s=>l.length - s.i) [0,1,7] (fun s=>[(8,i64 (s.i:Int))]) (fun s=>h)
  (fun s=>s.i <= l.length /\ idxF w s.i (l.drop s.i)=idxF w 0 l) mixed (by simp) (le_of (by simp [dslot])) rfl ?_
 rintro ⟨i⟩ ⟨z1,z2⟩
 simp only at z1 z2
 by_cases hi:i < l.length
 case neg =>
  have hno:¬ (i:Int) < l.length:=by omega
  obtain rfl:i=l.length:=by omega
  rw [List.drop_length] at z2
  simp -implicitDefEqProofs [lp0_35,hno]
  exact retE (v:=i64 (-1)) (by simp [deferred,dslot]) rfl (by rw [<- z2]; rfl) rfl
 have hlt:(i:Int) < l.length:=by omega
 have hln:l ≠ []:=by intro e; subst e; simp at hi
 obtain rfl:=hj.resolve_right hln
 have wi:IntKind.i64.wrap ((i:Int)+1)=(i:Int)+1:=IntWalk.i64_in _ (by omega)
 obtain ⟨s,hs⟩:∃ s,s=l[i]:=⟨_,rfl⟩
 have hs2:l[i]?=some s:=by rw [hs]; simp [hi]
 have hstep:=idxF_step w l i s hs2
 rw [z2] at hstep
 by_cases e:w=s
 .rw [if_pos e] at hstep
  rw [hstep]
  simp -implicitDefEqProofs [lp0_35,hlt,hi,<- hs,e]
  exact retE (v:=i64 (i:Int)) (by simp [deferred,dslot]) rfl rfl rfl
 .rw [if_neg e] at hstep
  simp -implicitDefEqProofs [lp0_35,hlt,hi,<- hs,e,wi]
  exact ⟨⟨i+1⟩,by simp; omega,⟨by simp; omega,by rw [hstep]⟩,le_of (by simp [dslot])⟩
theorem contains_c (l:List ByteArray) (w:ByteArray) (j:Nat) (c:Cap) (hj:j=1 \/ l=[]) (hl:l.length <= 2 ^ 31) {h:AHeap}:AEx PP Gl 21 [.sl j (l.map sv) c,sv w] h (.ret (.sc (.bool (decide (w ∈ l))))) h:=by
 have hb:(decide (0 <= idxF w 0 l))=decide (w ∈ l):=decide_eq_decide.2 (idxF_mem w l 0)
 refine enter_21 (by simp) ?_
 simp -implicitDefEqProofs [code_21,res_21,ann_21]
 refine callk (index_c l w j c hj hl) rfl rfl ?_
 simp -implicitDefEqProofs
 exact retE (v:=.sc (.bool (decide (w ∈ l)))) (by simp [deferred,dslot]) (by simp [evalRes,evalRes1,<- hb]) rfl rfl
def disLoop (x:Sx):List ByteArray -> List ByteArray -> Int
 | _,[]=>0
 | pre,s :: r=>if (has x.con s || has x.act s)=false then 63 else if has x.act s=false \/ s ∈ pre then 66 else disLoop x (pre++[s]) r
def disF (x:Sx) (s:St):Int × Sx:=if s.text.length < 2 then (66,x) else if disLoop x [] s.text ≠ 0 then (disLoop x [] s.text,x) else (0,{ x with ap:=x.ap++prsF (wdsF s.text) })
theorem disLoop_step (x:Sx) (l:List ByteArray) (i:Nat) (s:ByteArray) (h:l[i]?=some s):disLoop x (l.take i) (l.drop i) =
  if (has x.con s || has x.act s)=false then 63 else if has x.act s=false \/ s ∈ l.take i then 66 else disLoop x (l.take (i+1)) (l.drop (i+1)):=by
 obtain ⟨hl,rfl⟩:=List.getElem?_eq_some_iff.1 h
 rw [List.drop_eq_getElem_cons hl,List.take_add_one,List.getElem?_eq_getElem hl]; rfl
set_option maxHeartbeats 8000000 in
theorem dis_c (hR:SR ρ B H x VC VV VH VA VL T) (a:Int) (s:St) (hc:s.tc ≠ .nil) (hl:s.text.length <= 2 ^ 15) (hap:x.ap.length <= 2 ^ 30):ACalls PP Gl 60 [.ptr (B+6) 0 0,i64 a,encSt s] H (StepP B H (disF x s)):=by
 have h1:=hR.st
 have h2:=hR.con
 have h3:=hR.act
 refine enter_60 (by simp) ?_
 by_cases e2:s.text.length < 2
 .have e2':(s.text.length:Int) < 2:=by omega
  simp -implicitDefEqProofs [code_60,res_60,ann_60,encSt,e2']
  exact ret1 (v:=i64 66) (by simp [deferred,dslot]) rfl (by unfold disF; rw [if_pos e2]; exact ⟨rfl,.refl _ _,fun e=>by simp at e⟩)
 have e2':¬ (s.text.length:Int) < 2:=by omega
 simp -implicitDefEqProofs [code_60,res_60,ann_60,encSt,e2']
 obtain ⟨l,hl0⟩:∃ l,l=s.text:=⟨_,rfl⟩
 rw [<- hl0] at hl e2 e2' ⊢
 refine AWp.till (S:=PuS) ⟨0⟩ (fun s=>l.length - s.i) [0,1,5,14,15] (fun s=>[(16,i64 (s.i:Int))]) (fun s=>H)
  (fun s=>s.i <= l.length /\ disLoop x (l.take s.i) (l.drop s.i)=disLoop x [] l) mixed (by simp) (le_of (by simp [dslot])) rfl ?_
 rintro ⟨i⟩ ⟨z1,z2⟩
 simp only at z1 z2
 by_cases hi:i < l.length
 case neg =>
  have hno:¬ (i:Int) < l.length:=by omega
  obtain rfl:i=l.length:=by omega
  rw [List.drop_length] at z2
  have hE:disLoop x [] l=0:=z2.symm
  have hflP:((prsF (wdsF l)).map encP).flatMap AV.cells=cellsP (prsF (wdsF l)) []:=by simp [cellsP,List.flatMap_map]
  have hclP:(cellsP (prsF (wdsF l)) []).length=(prsF (wdsF l)).length * 2:=by unfold cellsP; rw [List.append_nil,rowLen (k:=2) (fun _=>rfl)]
  have hpl:(prsF (wdsF l)).length <= 2 ^ 30:=by
   have h5:=prsF_len (wdsF l)
   have h6:(wdsF l).length <= 2 ^ 15:=Nat.le_trans (wdsF_len l) hl
   exact Nat.le_trans h5 (Nat.le_trans (Nat.mul_le_mul h6 h6) (by decide))
  obtain ⟨VA',H2,ρ2,e4,o2,l2,r2,k2⟩:=hR.va.push 32 ((prsF (wdsF l)).map encP) (by rw [hflP,hclP,List.length_map]) hR.len (by rw [List.length_map]; unfold maxLenA; omega)
  have pa:=hR.va.pend
  have oa:=hR.va.one
  have pa':=o2.pend
  have ca':=o2.cells
  have oa':=o2.one
  rw [List.length_map,hflP] at o2
  have pg:(grown 2 ((prsF (wdsF l)).map encP)).isPend=false:=by unfold grown; split <;> rfl
  have eg:=e4 Gl (grown 2 ((prsF (wdsF l)).map encP)) (by unfold grown; split <;> rename_i hh <;> simp [elems,hh]) pg
  have h4:H2[B+6]?=some (.cells 0 (stCells B VC VV VH VA VL x.d)):=by rw [k2 _ (lt_of h1) (.inl (by omega))]; exact h1
  simp at eg
  simp -implicitDefEqProofs [lp0_60,hno,h1,pa,oa]
  refine callk (pairs_c l 1 s.tc (.inl rfl) (fun e=>(hc e).elim) hl) rfl rfl ?_
  simp -implicitDefEqProofs [h1,h4,pa,oa,pa',ca',oa',pg,eg]
  have fin:=hR.pushA (prsF (wdsF l)) o2 l2 r2 k2
  have low:Low B H (H2.set (B+6) (.cells 0 (stCells B VC VV VH VA' VL x.d))):=(low_push k2).trans (Low.set (by omega))
  exact ret1 (v:=i64 0) (by simp [deferred,dslot]) (by simp [evalRes,evalRes1]) (by unfold disF; rw [<- hl0,if_neg e2,if_neg (by simpa using hE)]; exact ⟨rfl,low,fun _=>⟨_,_,_,_,_,_,_,fin⟩⟩)
 have hlt:(i:Int) < l.length:=by omega
 have wi:IntKind.i64.wrap ((i:Int)+1)=(i:Int)+1:=IntWalk.i64_in _ (by omega)
 obtain ⟨w,hw⟩:∃ w,w=l[i]:=⟨_,rfl⟩
 have hw2:l[i]?=some w:=by rw [hw]; simp [hi]
 have hstep:=disLoop_step x l i w hw2
 simp -implicitDefEqProofs [lp0_60,hlt,hi,<- hw]
 refine callk (isActive_c hR w) rfl rfl ?_
 have bad:∀ n:Int,n ≠ 0 -> disLoop x (l.take i) (l.drop i)=n -> StepP B H (disF x s) (.ret (i64 n)) H:=fun n hn he=>by
  unfold disF
  rw [<- hl0,if_neg e2,<- z2,he,if_pos hn]
  exact ⟨rfl,.refl _ _,fun h=>(hn h).elim⟩
 cases ea:(has x.con w || has x.act w) with
 | false =>
  simp -implicitDefEqProofs
  exact ret1 (v:=i64 63) (by simp [deferred,dslot]) rfl (bad 63 (by decide) (by rw [hstep,if_pos ea]))
 | true =>
  rw [if_neg (by rw [ea]; simp)] at hstep
  cases et:has x.act w with
  | false =>
   simp -implicitDefEqProofs [h1,h2,h3,et]
   exact ret1 (v:=i64 66) (by simp [deferred,dslot]) rfl (bad 66 (by decide) (by rw [hstep,if_pos (.inl et)]))
  | true =>
   have hile:i <= l.length:=z1
   have hml:List.take i (l.map sv)=(l.take i).map sv:=by rw [List.map_take]
   simp -implicitDefEqProofs [h1,h2,h3,et,hile]
   refine callk (contains_c (l.take i) w 1 _ (.inl rfl) (by rw [List.length_take]; omega)) (by rw [hml]; rfl) rfl ?_
   by_cases em:w ∈ l.take i
   .simp -implicitDefEqProofs [em]
    exact ret1 (v:=i64 66) (by simp [deferred,dslot]) rfl (bad 66 (by decide) (by rw [hstep,if_pos (.inr em)]))
   .rw [if_neg (by simp [et,em])] at hstep
    simp -implicitDefEqProofs [em,wi]
    exact ⟨⟨i+1⟩,by simp; omega,⟨by simp; omega,by rw [<- hstep,z2]⟩,le_of (by simp [dslot])⟩
end
end Go.Apx
end
