/- grammar.compare with the kit's own tactics (slices.SortFunc asks what its comparator does to the world). -/
import Derived.Test.YtdiemjjfkoccfaaGreatDoorGA
import Derived.Test.YtdiemjjfkoccfaaGreatDoorAmC
import Derived.Test.YtdiemjjfkoccfaaGreatDoorLaysF
import Derived.Test.YtdiemjjfkoccfaaGreatDoorAmG
import Derived.Test.YtdiemjjfkoccfaaGreatDoorCode
set_option linter.unusedVariables false
set_option linter.unusedSimpArgs false
set_option linter.unnecessarySimpa false
section
namespace Go.Apx
open Go.Proofs Go.Shelf Go.RowKit
set_option maxRecDepth 100000 in
theorem isNaNi_calls (x:Int) (w:World):Calls Tryz.prog 116 #[.int .i64 x] w fun e w'=>e=.returned (.bool false) /\ w'=w:=by
 go_enter Tryz.func116,Tryz.ntmps116
 go_wp2
 go_ret
 simp
set_option maxRecDepth 100000 in
theorem isNaNs_calls (x:ByteArray) (w:World):Calls Tryz.prog 136 #[.string x] w fun e w'=>e=.returned (.bool false) /\ w'=w:=by
 go_enter Tryz.func136,Tryz.ntmps136
 go_wp2
 go_ret
 simp
set_option maxHeartbeats 1000000 in
set_option maxRecDepth 100000 in
theorem cmpI_calls (x y:Int) (w:World):Calls Tryz.prog 92 #[.int .i64 x,.int .i64 y] w fun e w'=>e=.returned (.int .i64 (if x < y then -1 else if y < x then 1 else 0)) /\ w'=w:=by
 go_enter Tryz.func92,Tryz.ntmps92
 go_wp2_with fail
 refine (isNaNi_calls x w).mono ?_
 rintro e w' ⟨rfl,rfl⟩
 go_wp2_with fail
 refine (isNaNi_calls y w').mono ?_
 rintro e w1 ⟨rfl,rfl⟩
 by_cases h1:x < y
 .go_wp2
  go_ret
  simp [h1]
 .by_cases h2:y < x
  .go_wp2
   go_ret
   simp [h1,h2]
  .go_wp2
   go_ret
   simp [h1,h2]
theorem bytes_gtr (x y:List UInt8):(!(decide (x < y) || x == y))=decide (y < x):=by
 by_cases h1:x < y
 .have:¬ y < x:=List.lt_asymm h1
  simp [h1,this]
 .by_cases h2:y < x
  .have:¬ x=y:=by rintro rfl; exact h1 h2
   simp [h1,h2,this]
  .have:x=y:=List.le_antisymm h2 h1
   subst this
   simp [h1]
def cmpB (x y:ByteArray):Int:=if x.data.toList < y.data.toList then -1 else if y.data.toList < x.data.toList then 1 else 0
set_option maxHeartbeats 1000000 in
set_option maxRecDepth 100000 in
theorem cmpS_calls (x y:ByteArray) (w:World):Calls Tryz.prog 117 #[.string x,.string y] w fun e w'=>e=.returned (.int .i64 (cmpB x y)) /\ w'=w:=by
 go_enter Tryz.func117,Tryz.ntmps117
 go_wp2_with fail
 refine (isNaNs_calls x w).mono ?_
 rintro e w' ⟨rfl,rfl⟩
 go_wp2_with fail
 refine (isNaNs_calls y w').mono ?_
 rintro e w1 ⟨rfl,rfl⟩
 have e1:Op.bytesLess x.toList y.toList=decide (x.data.toList < y.data.toList):=by rw [bytesLess_eq,Lib.toList_data,Lib.toList_data]
 have e2:Op.bytesLess y.toList x.toList=decide (y.data.toList < x.data.toList):=by rw [bytesLess_eq,Lib.toList_data,Lib.toList_data]
 have hg:(binOp .gtr 9 (.string x) (.string y)).run Tryz.prog w1=.ok (.bool (decide (y.data.toList < x.data.toList))) w1:=by
  refine run_binOp_basic ?_
  simp only [binV,strV,Lib.toList_data,bytesLess_eq]
  exact congrArg (fun b=>some (Value.bool b)) (bytes_gtr _ _)
 by_cases h1:x.data.toList < y.data.toList
 .have e3:Op.bytesLess x.toList y.toList=true:=by simp [e1,h1]
  go_wp2
  go_ret
  simp [cmpB,h1]
 .have e3:Op.bytesLess x.toList y.toList=false:=by simp [e1,h1]
  by_cases h2:y.data.toList < x.data.toList
  .go_wp2
   go_ret
   simp [cmpB,h1,h2]
  .go_wp2
   go_ret
   simp [cmpB,h1,h2]
def cmpL:List ByteArray -> List ByteArray -> Int
 | [],[]=>0
 | [],_ :: _=>-1
 | _ :: _,[]=>1
 | x :: a,y :: b=>if cmpB x y ≠ 0 then cmpB x y else cmpL a b
theorem cmpB_self (x:ByteArray):cmpB x x=0:=by simp [cmpB,List.lt_irrefl]
theorem cmpL_pre (p a b:List ByteArray):cmpL (p++a) (p++b)=cmpL a b:=by
 induction p with
 | nil=>rfl
 | cons x p ih=>simp [cmpL,cmpB_self,ih]
theorem cmpB_zero {x y:ByteArray} (h:cmpB x y=0):x=y:=by
 unfold cmpB at h
 split at h
 .cases h
 .split at h
  .cases h
  .rename_i h1 h2
   have:x.data.toList=y.data.toList:=List.le_antisymm h2 h1
   cases x; cases y
   simpa using this
theorem cmpL_at {a b:List ByteArray} {k:Nat} {x y:ByteArray} (hp:a.take k=b.take k) (ha:a[k]?=some x) (hb:b[k]?=some y) (hne:cmpB x y ≠ 0):cmpL a b=cmpB x y:=by
 have h1:a=a.take k++x :: a.drop (k+1):=by
  rw [<- List.getElem?_eq_some_iff.1 ha |>.2,List.getElem_cons_drop,List.take_append_drop]
 have h2:b=b.take k++y :: b.drop (k+1):=by
  rw [<- List.getElem?_eq_some_iff.1 hb |>.2,List.getElem_cons_drop,List.take_append_drop]
 rw [h1,h2,hp,cmpL_pre]
 simp [cmpL,hne]
theorem cmpL_long:∀ {a b:List ByteArray},a.take b.length=b -> b.length < a.length -> cmpL a b=1
 | [],b,_,h=>by simp at h
 | _ :: _,[],_,_=>rfl
 | x :: a,y :: b,hp,hl=>by
  simp only [List.length_cons,List.take_succ_cons,List.cons.injEq] at hp hl
  obtain ⟨rfl,hp⟩:=hp
  simp only [cmpL,cmpB_self,ne_eq,not_true_eq_false,if_false]
  exact cmpL_long hp (by omega)
theorem cmpL_short:∀ {a b:List ByteArray},a=b.take a.length -> a.length < b.length -> cmpL a b=-1
 | a,[],_,h=>by simp at h
 | [],_ :: _,_,_=>rfl
 | x :: a,y :: b,hp,hl=>by
  simp only [List.length_cons,List.take_succ_cons,List.cons.injEq] at hp hl
  obtain ⟨rfl,hp⟩:=hp
  simp only [cmpL,cmpB_self,ne_eq,not_true_eq_false,if_false]
  exact cmpL_short hp (by omega)
theorem cmpL_self (a:List ByteArray):cmpL a a=0:=by
 have h:=cmpL_pre a [] []
 rw [List.append_nil] at h
 rw [h]; rfl
set_option maxHeartbeats 4000000 in
set_option maxRecDepth 100000 in
theorem slCompare_calls (p1 p2:Option Addr) (b1 o1 c1 b2 o2 c2:Nat) (xs ys:List ByteArray) (w:World) (hx:∀ (j:Nat) x,xs[j]?=some x -> p1=some ⟨b1,o1,none⟩ /\ w.cell? ⟨b1,o1+j,none⟩=some (.string x)) (hy:∀ (j:Nat) y,ys[j]?=some y -> p2=some ⟨b2,o2,none⟩ /\ w.cell? ⟨b2,o2+j,none⟩=some (.string y))
  (hN:xs.length <= 2147483648) (hM:ys.length <= 2147483648) (h1:xs.length <= c1) (h2:ys.length <= c2) :
  Calls Tryz.prog 93 #[.slice p1 xs.length c1,.slice p2 ys.length c2] w fun e w'=>e=.returned (.int .i64 (cmpL xs ys)) /\ w'=w:=by
 have HX:=hidK hx
 have HY:=hidK hy
 clear hx hy
 go_enter Tryz.func93,Tryz.ntmps93
 go_wp2_with fail
 go_loopw [11] (fun i wr=>∃ k:Nat,k <= xs.length /\ k <= ys.length /\ i=.int .i64 k /\ xs.take k=ys.take k /\ wr=w) (fun i _=>xs.length - (Go.RowKit.intOf i).toNat)
 case atStart=>exact ⟨0,Nat.zero_le _,Nat.zero_le _,rfl,by simp,rfl⟩
 case round =>
  obtain ⟨k,hk,hk2,rfl,hp,rfl⟩:=hrel
  by_cases hkn:k < xs.length
  .obtain ⟨x,hx⟩:∃ x,xs[k]?=some x:=⟨xs[k],List.getElem?_eq_getElem hkn⟩
   obtain ⟨rfl,hc⟩:=HX.out k x hx
   by_cases hkm:k < ys.length
   .obtain ⟨y,hy⟩:∃ y,ys[k]?=some y:=⟨ys[k],List.getElem?_eq_getElem hkm⟩
    obtain ⟨rfl,hc2⟩:=HY.out k y hy
    have HXK:=hidK hx
    have HYK:=hidK hy
    have HP:=hidK hp
    clear hx hy hp
    go_wp2_with fail
    refine (cmpS_calls x y wr).mono ?_
    rintro e w1 ⟨rfl,rfl⟩
    by_cases hz:cmpB x y=0
    .go_wp2
     refine ⟨⟨k+1,by omega,by omega,by simp,?_,by first | rfl | trivial⟩,by simp [Go.RowKit.intOf]; omega⟩
     rw [List.take_add_one,List.take_add_one,HP.out,HXK.out,HYK.out,cmpB_zero hz]
    .go_wp2
     go_ret
     simp [cmpL_at HP.out HXK.out HYK.out hz]
   .have hfin:cmpL xs ys=1:=by
     have hke:k=ys.length:=by omega
     exact cmpL_long (by rw [<- hke,hp,hke,List.take_length]) (by omega)
    go_wp2_with fail
    go_ret
    simp [hfin]
  .by_cases hkm:xs.length < ys.length
   .have hfin:cmpL xs ys=-1:=by
     have hke:k=xs.length:=by omega
     have e1:=List.take_length (l:=xs)
     rw [<- hke,hp] at e1
     exact cmpL_short (by rw [<- hke]; exact e1.symm) (by omega)
    go_wp2
    go_ret
    simp [hfin]
   .have hfin:cmpL xs ys=0:=by
     have hke:k=xs.length:=by omega
     have h3:xs=ys:=by
      have e1:=List.take_length (l:=xs)
      have e2:=List.take_length (l:=ys)
      rw [<- hke] at e1
      rw [show ys.length=k by omega] at e2
      rw [<- e1,hp,e2]
     rw [h3,cmpL_self]
    go_wp2
    go_ret
    simp [hfin]
set_option maxHeartbeats 1000000 in
set_option maxRecDepth 100000 in
theorem cmpOr_calls (b o c:Nat) (x y:Int) (w:World) (hx:w.cell? ⟨b,o,none⟩=some (.int .i64 x)) (hy:w.cell? ⟨b,o+1,none⟩=some (.int .i64 y)) (hc:2 <= c) :
  Calls Tryz.prog 91 #[.slice (some ⟨b,o,none⟩) 2 c] w fun e w'=>e=.returned (.int .i64 (if x ≠ 0 then x else y)) /\ w'=w:=by
 go_enter Tryz.func91,Tryz.ntmps91
 go_wp2_with fail
 go_loopw [8] (fun i wr=>∃ k:Nat,k <= 2 /\ i=.int .i64 k /\ (0 < k -> x=0) /\ (1 < k -> y=0) /\ wr=w) (fun i _=>2 - (Go.RowKit.intOf i).toNat)
 case atStart=>exact ⟨0,Nat.zero_le _,rfl,by simp,by simp,rfl⟩
 case round =>
  obtain ⟨k,hk,rfl,hp,hp2,rfl⟩:=hrel
  match k with
  | 0 =>
   by_cases hz:x=0
   .go_wp2
    exact ⟨⟨1,by omega,by simp,by simp [hz],by simp,by first | rfl | trivial⟩,by simp [Go.RowKit.intOf]⟩
   .go_wp2
    go_ret
    simp [hz]
  | 1 =>
   have hx0:=hp (by omega)
   by_cases hz:y=0
   .go_wp2
    exact ⟨⟨2,by omega,by simp,by simp [hx0],by simp [hz],by first | rfl | trivial⟩,by simp [Go.RowKit.intOf]⟩
   .go_wp2
    go_ret
    simp [hz,hx0]
  | 2 =>
   have hx0:=hp (by omega)
   have hy0:=hp2 (by omega)
   go_wp2
   go_ret
   simp [hx0,hy0]
  | n+3=>omega
def cmpW (xs ys:List ByteArray):Int:=if (xs.length:Int) < ys.length then -1 else if (ys.length:Int) < xs.length then 1 else cmpL xs ys
theorem cmpW_eq (xs ys:List ByteArray):(if (if (xs.length:Int) < ys.length then (-1:Int) else if (ys.length:Int) < xs.length then 1 else 0) ≠ 0 then (if (xs.length:Int) < ys.length then (-1:Int) else if (ys.length:Int) < xs.length then 1 else 0) else cmpL xs ys)=cmpW xs ys:=by
 unfold cmpW
 split
 .simp
 .split <;> simp
set_option maxHeartbeats 1000000 in
set_option maxRecDepth 100000 in
theorem compare_calls (p1 p2:Option Addr) (b1 o1 c1 b2 o2 c2:Nat) (xs ys:List ByteArray) (w:World) (hx:∀ (j:Nat) x,xs[j]?=some x -> p1=some ⟨b1,o1,none⟩ /\ w.cell? ⟨b1,o1+j,none⟩=some (.string x)) (hy:∀ (j:Nat) y,ys[j]?=some y -> p2=some ⟨b2,o2,none⟩ /\ w.cell? ⟨b2,o2+j,none⟩=some (.string y))
  (hN:xs.length <= 2147483648) (hM:ys.length <= 2147483648) (h1:xs.length <= c1) (h2:ys.length <= c2) :
  Calls Tryz.prog 54 #[.slice p1 xs.length c1,.slice p2 ys.length c2] w fun e w'=>e=.returned (.int .i64 (cmpW xs ys)) /\ ∃ q os,w'=Go.Sort.grow (w.drewN q) os:=by
 have HS:=hidK (slCompare_calls p1 p2 b1 o1 c1 b2 o2 c2 xs ys w hx hy hN hM h1 h2)
 clear hx hy
 rw [<- cmpW_eq]
 generalize hI:(if (xs.length:Int) < ys.length then (-1:Int) else if (ys.length:Int) < xs.length then 1 else 0)=I
 have HI:=hidK hI
 clear hI
 have HO:=fun w1 g1 g2=>hidK (cmpOr_calls w.heap.size 0 2 I (cmpL xs ys) w1 g1 g2 (Nat.le_refl 2))
 generalize (if I ≠ 0 then I else cmpL xs ys)=R at HO ⊢
 go_enter Tryz.func54,Tryz.ntmps54
 go_wp2_with fail
 refine (cmpI_calls xs.length ys.length w).mono ?_
 rintro e w1 ⟨rfl,rfl⟩
 rw [HI.out]
 go_wp2_with fail
 refine HS.out.mono ?_
 rintro e w1 ⟨rfl,rfl⟩
 go_wp2_with fail
 have g1:(w1.alloc (Obj.cells #[Value.int IntKind.i64 I,Value.int IntKind.i64 (cmpL xs ys)] 3)).cell? ⟨w1.heap.size,0,none⟩=some (.int .i64 I):=by
  have:=World.cell?_alloc_new w1 #[Value.int IntKind.i64 I,Value.int IntKind.i64 (cmpL xs ys)] 3 0
  simpa using this
 have g2:(w1.alloc (Obj.cells #[Value.int IntKind.i64 I,Value.int IntKind.i64 (cmpL xs ys)] 3)).cell? ⟨w1.heap.size,0+1,none⟩=some (.int .i64 (cmpL xs ys)):=by
  have:=World.cell?_alloc_new w1 #[Value.int IntKind.i64 I,Value.int IntKind.i64 (cmpL xs ys)] 3 1
  simpa using this
 refine (HO _ g1 g2).out.mono ?_
 rintro e w2 ⟨rfl,rfl⟩
 clear g1 g2
 go_wp2
 go_ret
 refine ⟨by simp,0,#[Obj.cells #[Value.int IntKind.i64 I,Value.int IntKind.i64 (cmpL xs ys)] 3],?_⟩
 rw [Go.Sort.alloc_eq_grow]
 rfl
end Go.Apx
end
section
namespace Go.Apx
open Go.Proofs Go.Sort Go.Shelf
abbrev W:=List ByteArray
def encW (l:W):AV:=aW 1 (l.map sv)
@[simp] theorem one_encW (l:W):(encW l).one=true:=one_grown _ _
@[simp] theorem isPend_encW (l:W):(encW l).isPend=false:=isPend_grown _ _
@[simp] theorem cells_encW (l:W):(encW l).cells=[encW l]:=cells_grown _ _
theorem flat_svK (l:W):(l.map sv).flatMap AV.cells=l.map sv:=by
 induction l with
 | nil=>rfl
 | cons s r ih=>simp only [List.map_cons,List.flatMap_cons,ih]; rfl
theorem encW_val {I:Imm} {m:aQ} {l:W} {x:Value} (h:AVRel I m (encW l) x):∃ p b o c,x=.slice p l.length c /\ l.length <= c /\ ∀ (j:Nat) s,l[j]?=some s -> p=some ⟨b,o,none⟩ /\ I b (o+j)=some (.string s):=by
 unfold encW aW at h
 cases l with
 | nil =>
  simp at h
  cases h with
  | slnil=>exact ⟨none,0,0,0,rfl,Nat.le_refl _,fun j s hs=>by simp at hs⟩
  | sl _ _ _ a cap vs hc=>exact (hc rfl).elim
 | cons s r =>
  rw [if_neg (by simp),if_neg (by simp)] at h
  generalize hes:(s :: r).map sv=es at h
  cases h with
  | sl _ _ _ a cap vs hc hle hk hw h1 hl h hI hsp hcap =>
   have hne:es ≠ []:=by rw [<- hes]; simp
   obtain ⟨bk,o,sp⟩:=a
   have:=hsp hne
   simp only at this
   subst this
   have hlen:es.length=(s :: r).length:=by rw [<- hes]; simp
   refine ⟨_,bk,o,cap,by rw [hlen],by rw [<- hlen]; exact hle,fun j x hx=>⟨rfl,?_⟩⟩
   have h2:(es.flatMap AV.cells)[j]?=some (sv x):=by rw [<- hes,flat_svK,List.getElem?_map,hx]; rfl
   have hjl:j < vs.length:=by rw [<- hl]; exact ar h2
   obtain ⟨y,hy⟩:∃ y,vs[j]?=some y:=⟨vs[j],by simp [hjl]⟩
   have h3:=h j _ y h2 hy
   cases h3
   exact hI j _ hy
theorem cmpB_neg (x y:ByteArray):cmpB x y < 0 ↔ x.data.toList < y.data.toList:=by
 unfold cmpB
 by_cases h:x.data.toList < y.data.toList
 .simp [h]
 .simp only [h,if_false,iff_false]
  split <;> omega
theorem cmpB_pos (x y:ByteArray):0 < cmpB x y ↔ y.data.toList < x.data.toList:=by
 unfold cmpB
 by_cases h:x.data.toList < y.data.toList
 .have:=List.lt_asymm h
  simp [h,this]
 .simp only [h,if_false]
  by_cases h2:y.data.toList < x.data.toList <;> simp [h2]
theorem cmpB_anti (x y:ByteArray):cmpB x y < 0 ↔ 0 < cmpB y x:=by rw [cmpB_neg,cmpB_pos]
theorem cmpB_trans {x y z:ByteArray} (h:cmpB x y < 0) (h':cmpB y z < 0):cmpB x z < 0:=by
 rw [cmpB_neg] at *
 exact List.lt_trans h h'
theorem cmpL_anti:∀ a b:W,cmpL a b < 0 ↔ 0 < cmpL b a
 | [],[]=>by simp [cmpL]
 | [],_ :: _=>by simp [cmpL]
 | _ :: _,[]=>by simp [cmpL]
 | x :: a,y :: b=>by
  simp only [cmpL]
  have h1:=cmpB_anti x y
  have h2:=cmpB_anti y x
  by_cases hz:cmpB x y=0
  .have hz2:cmpB y x=0:=by omega
   simp only [hz,hz2,ne_eq,not_true_eq_false,if_false]
   exact cmpL_anti a b
  .have hz2:cmpB y x ≠ 0:=by omega
   simp only [hz,hz2,ne_eq,not_false_eq_true,if_true]
   exact h1
theorem cmpL_zero:∀ {a b:W},cmpL a b=0 -> a=b
 | [],[],_=>rfl
 | [],_ :: _,h=>by simp [cmpL] at h
 | _ :: _,[],h=>by simp [cmpL] at h
 | x :: a,y :: b,h=>by
  simp only [cmpL] at h
  by_cases hz:cmpB x y=0
  .simp only [hz,ne_eq,not_true_eq_false,if_false] at h
   rw [cmpB_zero hz,cmpL_zero h]
  .simp only [hz,ne_eq,not_false_eq_true,if_true] at h
theorem cmpL_trans:∀ {a b c:W},cmpL a b < 0 -> cmpL b c < 0 -> cmpL a c < 0
 | [],[],c,h,_=>by simp [cmpL] at h
 | [],_ :: _,[],_,h=>by simp [cmpL] at h
 | [],_ :: _,_ :: _,_,_=>by simp [cmpL]
 | _ :: _,[],_,h,_=>by simp [cmpL] at h
 | _ :: _,_ :: _,[],_,h=>by simp [cmpL] at h
 | x :: a,y :: b,z :: c,h,h'=>by
  simp only [cmpL] at h h' ⊢
  by_cases h1:cmpB x y=0
  .have:=cmpB_zero h1
   subst this
   simp only [h1,ne_eq,not_true_eq_false,if_false] at h
   by_cases h2:cmpB x z=0
   .simp only [h2,ne_eq,not_true_eq_false,if_false] at h' ⊢
    exact cmpL_trans h h'
   .simp only [h2,ne_eq,not_false_eq_true,if_true] at h' ⊢
    exact h'
  .simp only [h1,ne_eq,not_false_eq_true,if_true] at h
   by_cases h2:cmpB y z=0
   .have:=cmpB_zero h2
    subst this
    simp only [h1,ne_eq,not_false_eq_true,if_true]
    exact h
   .simp only [h2,ne_eq,not_false_eq_true,if_true] at h'
    have h3:=cmpB_trans h h'
    have h4:cmpB x z ≠ 0:=by omega
    simp only [h4,ne_eq,not_false_eq_true,if_true]
    exact h3
theorem cmpW_anti (a b:W):cmpW a b < 0 ↔ 0 < cmpW b a:=by
 have:=cmpL_anti a b
 unfold cmpW
 by_cases h1:(a.length:Int) < b.length
 .have:¬ (b.length:Int) < a.length:=by omega
  simp [h1,this]
 .by_cases h2:(b.length:Int) < a.length
  .simp [h1,h2]
  .simp only [h1,h2,if_false]; exact this
theorem cmpW_zero {a b:W} (h:cmpW a b=0):a=b:=by
 unfold cmpW at h
 split at h
 .cases h
 .split at h
  .cases h
  .exact cmpL_zero h
theorem cmpW_self (a:W):cmpW a a=0:=by simp [cmpW,cmpL_self]
theorem cmpW_trans {a b c:W} (h:cmpW a b < 0) (h':cmpW b c < 0):cmpW a c < 0:=by
 have ht:=@cmpL_trans a b c
 unfold cmpW at *
 by_cases h1:(a.length:Int) < b.length
 .by_cases h2:(b.length:Int) < c.length
  .rw [if_pos (by omega)]; omega
  .rw [if_neg h2] at h'
   by_cases h3:(c.length:Int) < b.length
   .rw [if_pos h3] at h'; omega
   .rw [if_pos (by omega)]; omega
 .rw [if_neg h1] at h
  by_cases h2:(b.length:Int) < a.length
  .rw [if_pos h2] at h; omega
  .rw [if_neg h2] at h
   by_cases h3:(b.length:Int) < c.length
   .rw [if_pos (by omega)]; omega
   .rw [if_neg h3] at h'
    by_cases h4:(c.length:Int) < b.length
    .rw [if_pos h4] at h'; omega
    .rw [if_neg h4] at h'
     rw [if_neg (by omega),if_neg (by omega)]
     exact ht h h'
def SortedW (l:List W):Prop:=l.Pairwise fun a b=>¬ cmpW b a < 0
theorem sortedW_unique {l l':List W} (h:l.Perm l') (hs:SortedW l) (hs':SortedW l'):l=l' :=
 List.Perm.eq_of_pairwise (le:=fun a b=>¬ cmpW b a < 0) (fun a b _ _ h1 h2=>cmpW_zero (by have:=cmpW_anti b a; omega)) hs hs' h
section
variable {G:Globs} {I:Imm} {m:aQ} {h:AHeap} {w:World}
theorem rowE_into {α:Type} [Inhabited α] {enc:α -> Value} (hv:Inv G I m h w) {i g b lo n:Nat} {cs cs' rest:List AV} {d d':Array α} (ho:h[i]?=some (.cells g (cs++rest))) (hl:m[i]?=some (.cells g b lo n)) (hH:Holds enc w b lo d) (hcs:cs.length=d.size)
  (hpos:0 < d.size) (hs:d'.size=d.size) (hrel:AVRels I m cs' (d'.toList.map enc)) (h1:∀ c ∈ cs',c.one=true) (N:Nat) (os:Array Obj) :
  Inv G I m (h.set i (.cells g (cs'++rest))) (grow (putRow enc (Go.Sort.ahead w N) b lo d') os) /\ (∀ k,Trans k I m w I m (grow (putRow enc (Go.Sort.ahead w N) b lo d') os)):=by
 obtain ⟨b0,lo0,n0,vs,e,hle,hvs,hone,hcv,hall⟩:=hv.obj i _ _ ho hl
 cases e
 simp at hle
 have hbs:b < w.heap.size:=hv.lt i _ b lo hl ⟨rfl,Nat.le_refl _,by omega⟩
 have hsz:(putRow enc (Go.Sort.ahead w N) b lo d').heap.size=w.heap.size:=by rw [Sort.size_putRow]; rfl
 have hH':Holds enc (Go.Sort.ahead w N) b lo d:=hH
 have hz:=hv.into (us':=cs') (us:=d'.toList.map enc) (w':=grow (putRow enc (Go.Sort.ahead w N) b lo d') os) ho hl (by simp; omega) (by
   intro e
   have:=congrArg List.length e
   rw [List.length_map,Array.length_toList,List.length_nil] at this
   omega) hrel h1 rfl rfl rfl (Nat.le_add_right _ _) (by rw [size_grow,hsz]; omega)
  (fun q x hx=>by
   have hq':=ar hx
   simp at hq'
   rw [cell?_grow _ _ _ (by rw [hsz]; exact hbs),cell?_putRow _ _ _ _ _ _ hH' hs q (by simpa using hq')]
   rw [List.getElem?_map] at hx
   rw [getElem!_pos _ q (by simpa using hq')]
   have e2:d'.toList[q]?=some d'[q]:=by simp [hq']
   rw [e2] at hx
   simpa using hx)
  (fun b' o hb' hno=>by
   rw [cell?_grow _ _ _ (by rw [hsz]; exact hb'),cell?_putRow_other]
   .rfl
   .simp at hno
    simp only
    omega)
  (fun a ha=>by rw [frozen?_grow _ _ _ (by rw [hsz]; exact ha),frozen?_putRow]; rfl)
  (fun b' hb' hne2=>by rw [heap_grow_old _ _ (by rw [hsz]; exact hb')]; exact heap_putRow_other _ _ _ _ _ hne2)
 have hd:(cs++rest).drop (d'.toList.map enc).length=rest:=by
  rw [List.length_map,Array.length_toList,hs,<- hcs,List.drop_left]
 rwa [hd] at hz
end
theorem enter_of_body {P:Program} {f:FuncId} (h:aJ P f=true) (args:Array Value) (w:World):(callFunc f args).run P w=.ok (.enter f args) w:=by
 unfold aJ at h
 split at h
 .rename_i fn hfn
  simp only [Bool.and_eq_true,Bool.not_eq_true'] at h
  obtain ⟨h1,h2⟩:=h
  have h3:fn.body.isNone=false:=by cases hb:fn.body <;> simp_all
  simp only [callFunc,Sem.run_bind,run_program,Result.andThen_ok,hfn,h2,h3]
  simp
 .cases h
set_option maxHeartbeats 1000000 in
theorem sortW_c {h:AHeap} {o g:Nat} {rc:RCap} {l:List W} {rest:List AV} (ho:h[o]?=some (.cells g (l.map encW++rest))) (hne:l ≠ []) (hsz:l.length <= 2147483648) (hw:∀ x ∈ l,x.length <= 2147483648) :
  ACalls PP Gl 53 [.rf o g 0 l.length rc,.fn (.func 54) [] []] h (fun e h'=>e=.ret (.tup []) /\ ∃ l',l'.Perm l /\ SortedW l' /\ h'=h.set o (.cells g (l'.map encW++rest))):=by
 refine ⟨by kernel_rfl,fun I m w vs hi ha=>?_⟩
 obtain ⟨x,xs,rfl,hx,hxs⟩:=AVRels.cons_iff.1 ha
 obtain ⟨y,ys,rfl,hy,hys⟩:=AVRels.cons_iff.1 hxs
 obtain rfl:=AVRels.nil_iff.1 hys
 obtain ⟨b,lo,k,cap,hm,rfl,hcap⟩:=rf_row hi ho hx (by have:=List.length_pos_iff.2 hne; omega)
 cases hy with
 | fn _ _ _ fs cs hl hl' h' h'' =>
  obtain rfl:fs=[]:=by cases fs with | nil=>rfl | cons _ _=>simp at hl
  obtain rfl:cs=[]:=by cases cs with | nil=>rfl | cons _ _=>simp at hl'
  obtain ⟨b0,lo0,n0,vs,e,hle,hvs,hone,hcv,hall⟩:=hi.obj o _ _ ho hm
  cases e
  have hus:=hvs.take l.length
  rw [List.take_left' (by simp)] at hus
  obtain ⟨us,husd⟩:∃ us,us=vs.take l.length:=⟨_,rfl⟩
  rw [<- husd] at hus
  have hul:us.length=l.length:=by have:=hus.1; simpa using this.symm
  let α:={ p:W × Value // AVRel I m (encW p.1) p.2 /\ p.1.length <= 2147483648 }
  have hz:∀ p ∈ l.zip us,AVRel I m (encW p.1) p.2 /\ p.1.length <= 2147483648:=by
   intro p hp
   obtain ⟨j,hj⟩:=List.getElem?_of_mem hp
   rw [List.getElem?_zip_eq_some] at hj
   exact ⟨hus.2 j _ _ (by rw [List.getElem?_map,hj.1]; rfl) hj.2,hw _ (List.mem_of_getElem? hj.1)⟩
  obtain ⟨D,hD⟩:∃ D:List α,D.map (·.1)=l.zip us:=⟨(l.zip us).attach.map fun p=>⟨p.1,hz p.1 p.2⟩,by rw [List.map_map]; exact List.attach_map_subtype_val _⟩
  have hDl:D.length=l.length:=by have:=congrArg List.length hD; rw [List.length_map,List.length_zip,hul] at this; omega
  have hDw:D.map (fun p=>p.1.1)=l:=by
   have:D.map (fun p=>p.1.1)=(D.map (·.1)).map Prod.fst:=by rw [List.map_map]; rfl
   rw [this,hD,List.map_fst_zip (by omega)]
  have hDv:D.map (fun p=>p.1.2)=us:=by
   have:D.map (fun p=>p.1.2)=(D.map (·.1)).map Prod.snd:=by rw [List.map_map]; rfl
   rw [this,hD,List.map_snd_zip (by omega)]
  have hlp:=List.length_pos_iff.2 hne
  haveI:Inhabited α:=⟨D[0]'(by omega)⟩
  have hvu:∀ (j:Nat) (x:Value),us[j]?=some x -> vs[j]?=some x:=fun j x hj=>by
   have hjl:=ar hj
   rw [husd,List.getElem?_take,if_pos (by omega)] at hj
   exact hj
  simp at hle
  have hH:Holds (fun p:α=>p.1.2) w b lo D.toArray:=by
   intro j hj
   have hj':j < D.length:=by simpa using hj
   have e1:us[j]?=some D[j].1.2:=by rw [<- hDv,List.getElem?_map]; simp [hj']
   refine ⟨?_,(hall j (by omega)).2⟩
   rw [hcv j _ (hvu j _ e1),getElem!_pos _ j hj]
   simp
  have hbs:b < w.heap.size:=hi.lt o _ b lo hm ⟨rfl,Nat.le_refl _,by omega⟩
  have hrels:∀ E:List α,AVRels I m (E.map fun p=>encW p.1.1) (E.map fun p=>p.1.2):=fun E=>by
   induction E with
   | nil=>exact .nil
   | cons a E ih=>exact .cons a.2.1 ih
  have hones:∀ E:List α,∀ c ∈ E.map (fun p=>encW p.1.1),c.one=true:=fun E c hc=>by
   obtain ⟨a,_,rfl⟩:=List.mem_map.1 hc
   exact one_encW _
  have hDs:D.toArray.size=l.length:=by simpa using hDl
  have hlE:l.map encW=D.map fun p=>encW p.1.1:=by
   have:=congrArg (List.map encW) hDw
   rw [List.map_map] at this
   exact this.symm
  have hin:∀ (N:Nat) (os:Array Obj) (dk:Array α),dk.size=D.toArray.size -> Inv Gl I m (h.set o (.cells g ((dk.toList.map fun p=>encW p.1.1)++rest))) (grow (putRow (fun p:α=>p.1.2) (Go.Sort.ahead w N) b lo dk) os) /\ (∀ k,Trans k I m w I m (grow (putRow (fun p:α=>p.1.2) (Go.Sort.ahead w N) b lo dk) os)) :=
   fun N os dk hdk=>rowE_into hi ho hm hH (by simp [hDl]) (by omega) hdk (hrels dk.toList) (hones _) N os
  have hcmp:CmpLays1 PP 54 #[] (fun p:α=>p.1.2) (fun p q=>cmpW p.1.1 q.1.1) b lo D.toArray.size w:=by
   intro N os dk hdk x y
   obtain ⟨hv2,_⟩:=hin N os dk hdk
   obtain ⟨p1,b1,o1,c1,e1,l1,f1⟩:=encW_val x.2.1
   obtain ⟨p2,b2,o2,c2,e2,l2,f2⟩:=encW_val y.2.1
   simp only [e1,e2]
   exact compare_calls p1 p2 b1 o1 c1 b2 o2 c2 x.1.1 y.1.1 _ (fun j s hs=>⟨(f1 j s hs).1,hv2.imm _ _ _ (f1 j s hs).2⟩) (fun j s hs=>⟨(f2 j s hs).1,hv2.imm _ _ _ (f2 j s hs).2⟩) x.2.2 y.2.2 l1 l2
  have hO:SWO (ltOf fun p q:α=>cmpW p.1.1 q.1.1):=by
   refine ⟨fun x=>?_,fun x y z h1 h2=>?_,fun x y z h1 h2=>?_⟩
   .simp [ltOf,cmpW_self]
   .simp only [ltOf,decide_eq_true_eq] at *
    exact cmpW_trans h1 h2
   .simp only [ltOf,decide_eq_false_iff_not] at *
    intro h3
    have a1:=cmpW_anti y.1.1 x.1.1
    have a2:=cmpW_anti z.1.1 y.1.1
    by_cases z1:cmpW x.1.1 y.1.1=0
    .have:=cmpW_zero z1; rw [<- this] at h2; exact h2 h3
    .by_cases z2:cmpW y.1.1 z.1.1=0
     .have:=cmpW_zero z2; rw [this] at h1; exact h1 h3
     .have:=cmpW_trans (a:=z.1.1) (b:=y.1.1) (c:=x.1.1) (by omega) (by omega)
      have a3:=cmpW_anti x.1.1 z.1.1
      have a4:=cmpW_anti z.1.1 x.1.1
      omega
  have hcl:=Any.slices_SortFunc laysSF (fun p:α=>p.1.2) ?_ (fun p q:α=>cmpW p.1.1 q.1.1) hO 54 #[] b lo cap D.toArray w (fun args w=>?_) hcmp hH hbs (by simp; omega)
  rotate_left
  .intro x
   obtain ⟨p1,b1,o1,c1,e1,_,_⟩:=encW_val x.2.1
   simp only [e1]; rfl
  .exact enter_of_body (by kernel_rfl) args w
  rw [hDs] at hcl
  refine hcl.mono ?_
  rintro e w' ⟨rfl,d',N,os,hP,hS,rfl⟩
  obtain ⟨p1,p2,p3⟩:=hP
  obtain ⟨q1,q2⟩:=hin N os d' (by rw [p1,hDs])
  have hd1:d'.size=l.length:=by rw [p1,hDs]
  rw [show d'.extract 0 l.length=d' by rw [<- hd1]; exact Array.extract_size,show D.toArray.extract 0 l.length=D.toArray by rw [<- hDs]; exact Array.extract_size] at p3
  refine ⟨.ret (.tup []),h.set o (.cells g ((d'.toList.map fun p=>encW p.1.1)++rest)),I,m,⟨rfl,d'.toList.map fun p=>p.1.1,?_,?_,by rw [List.map_map]; rfl⟩,.tup [] [] rfl (fun i a x ha=>by simp at ha),q1,q2 _⟩
  .rw [<- hDw]
   exact p3.map _
  .unfold SortedW
   rw [List.pairwise_iff_getElem]
   intro i j hi2 hj2 hij
   simp at hi2 hj2
   have:=hS i j (Nat.zero_le _) hij (by omega)
   rw [getElem!_pos _ i (by omega),getElem!_pos _ j (by omega)] at this
   simpa [ltOf] using this
end Go.Apx
end
section
namespace Go.Apx
open Go.Proofs
theorem digit_ne {d:Nat} (h:d < 10):UInt8.ofNat (48+d) ≠ 58:=by
 intro e
 have:=congrArg UInt8.toNat e
 simp at this
 omega
theorem digit_inj {a b:Nat} (ha:a < 10) (hb:b < 10) (h:UInt8.ofNat (48+a)=UInt8.ofNat (48+b)):a=b:=by
 have:=congrArg UInt8.toNat h
 simp at this
 omega
theorem dec_ne {n:Nat} (h:n < 100):∀ c ∈ Lib.decDigits n,c ≠ 58:=by
 intro c hc
 by_cases h1:n < 10
 .rw [Lib.decDigits_one h1] at hc
  rw [List.mem_singleton] at hc; subst hc
  exact digit_ne h1
 .rw [Lib.decDigits_two h1 h] at hc
  rw [List.mem_cons,List.mem_singleton] at hc
  rcases hc with rfl | rfl
  .exact digit_ne (by omega)
  .exact digit_ne (by omega)
theorem dec_inj {m n:Nat} (hm:m < 100) (hn:n < 100) (h:Lib.decDigits m=Lib.decDigits n):m=n:=by
 by_cases h1:m < 10
 .by_cases h2:n < 10
  .rw [Lib.decDigits_one h1,Lib.decDigits_one h2] at h
   simp only [List.cons.injEq,and_true] at h
   exact digit_inj h1 h2 h
  .rw [Lib.decDigits_one h1,Lib.decDigits_two h2 hn] at h
   simp at h
 .by_cases h2:n < 10
  .rw [Lib.decDigits_two h1 hm,Lib.decDigits_one h2] at h
   simp at h
  .rw [Lib.decDigits_two h1 hm,Lib.decDigits_two h2 hn] at h
   simp only [List.cons.injEq,and_true] at h
   have a:=digit_inj (by omega) (by omega) h.1
   have b:=digit_inj (by omega) (by omega) h.2
   omega
theorem part58:∀ {A B X Y:List UInt8},(∀ c ∈ A,c ≠ 58) -> (∀ c ∈ B,c ≠ 58) -> A++58 :: X=B++58 :: Y -> A=B /\ X=Y
 | [],[],X,Y,_,_,h=>by simpa using h
 | [],b :: B,X,Y,_,hb,h=>by
  simp only [List.nil_append,List.cons_append,List.cons.injEq] at h
  exact (hb b (by simp) h.1.symm).elim
 | a :: A,[],X,Y,ha,_,h=>by
  simp only [List.nil_append,List.cons_append,List.cons.injEq] at h
  exact (ha a (by simp) h.1).elim
 | a :: A,b :: B,X,Y,ha,hb,h=>by
  simp only [List.cons_append,List.cons.injEq] at h
  obtain ⟨h1,h2⟩:=part58 (fun c hc=>ha c (by simp [hc])) (fun c hc=>hb c (by simp [hc])) h.2
  exact ⟨by rw [h.1,h1],h2⟩
theorem keyL_inj:∀ {a b:W},(∀ x ∈ a,x.size < 100) -> (∀ x ∈ b,x.size < 100) -> keyL a=keyL b -> a=b
 | [],[],_,_,_=>rfl
 | [],y :: b,_,_,h=>by simp [keyL] at h
 | x :: a,[],_,_,h=>by simp [keyL] at h
 | x :: a,y :: b,ha,hb,h=>by
  have hx:=ha x (by simp)
  have hy:=hb y (by simp)
  simp only [keyL,List.append_assoc,List.singleton_append] at h
  obtain ⟨h1,h2⟩:=part58 (dec_ne hx) (dec_ne hy) h
  have hs:=dec_inj hx hy h1
  have hl:x.data.toList.length=y.data.toList.length:=hs
  obtain ⟨h3,h4⟩:=List.append_inj h2 hl
  have:x=y:=by
   cases x; cases y
   simpa using h3
  rw [this,keyL_inj (fun z hz=>ha z (by simp [hz])) (fun z hz=>hb z (by simp [hz])) h4]
theorem keyB_inj {a b:W} (ha:∀ x ∈ a,x.size < 100) (hb:∀ x ∈ b,x.size < 100) (h:keyB a=keyB b):a=b:=by
 refine keyL_inj ha hb ?_
 have:=congrArg (fun x=>x.data.toList) h
 simpa [keyB] using this
end Go.Apx
end
