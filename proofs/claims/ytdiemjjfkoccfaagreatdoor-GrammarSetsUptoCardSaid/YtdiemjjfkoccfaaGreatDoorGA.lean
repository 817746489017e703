/- grammar.key: the text that tells expressions apart (walked with the kit's own tactics; the builder and Itoa by the shelf). -/
import Derived.Test.YtdiemjjfkoccfaaGreatDoorLays
import Derived.Test.YtdiemjjfkoccfaaGreatDoorLaysB
import Derived.WalkKit
import Derived.BigCall
import Derived.BigGuard
import Derived.Test.YtdiemjjfkoccfaaGreatDoorAmC
import Derived.Test.YtdiemjjfkoccfaaGreatDoorCode
set_option linter.unusedVariables false
set_option linter.unusedSimpArgs false
set_option linter.unnecessarySimpa false
section
namespace Go.Apx
open Go.Proofs Go.Shelf Go.RowKit
def keyL:List ByteArray -> List UInt8
 | []=>[]
 | s :: r=>Lib.decDigits s.size++[58]++s.data.toList++keyL r
theorem keyL_append (a b:List ByteArray):keyL (a++b)=keyL a++keyL b:=by
 induction a with
 | nil=>rfl
 | cons s r ih=>simp [keyL,ih,List.append_assoc]
theorem keyL_succ {l:List ByteArray} {k:Nat} {x:ByteArray} (h:l[k]?=some x):keyL (l.take (k+1))=keyL (l.take k)++(Lib.decDigits x.size++[58]++x.data.toList):=by
 rw [List.take_add_one,h,keyL_append]
 simp [keyL]
theorem keyL_take_le (l:List ByteArray) (k:Nat):(keyL (l.take k)).length <= (keyL l).length:=by
 conv=>rhs; rw [<- List.take_append_drop k l,keyL_append]
 simp
def keyW (x:ByteArray):ByteArray:=(({ data:=(Lib.decDigits x.size).toArray }:ByteArray)++{ data:=#[58] }++x)
theorem keyW_list (x:ByteArray):(keyW x).data.toList=Lib.decDigits x.size++[58]++x.data.toList:=by
 unfold keyW
 rw [ByteArray.data_append,ByteArray.data_append,Array.toList_append,Array.toList_append]
theorem keyW_size (x:ByteArray):(keyW x).size=(Lib.decDigits x.size).length+1+x.size:=by
 show (keyW x).data.size=_
 rw [<- Array.length_toList,keyW_list,List.length_append,List.length_append]
 rfl
theorem key_next {l:List ByteArray} {k:Nat} {x:ByteArray} (h:l[k]?=some x):Lib.byteCells (keyL (l.take k))++Lib.strCells (keyW x)=Lib.byteCells (keyL (l.take (k+1))):=by
 rw [keyL_succ h,Lib.strCells_eq,<- Lib.byteCells_append,keyW_list]
theorem key_fits {l:List ByteArray} {k:Nat} {x:ByteArray} (h:(keyL (l.take k)).length+((Lib.decDigits x.size).length+1+x.size) <= 140737488355328):(Lib.byteCells (keyL (l.take k))).length+(keyW x).size <= 140737488355328:=by
 rw [Lib.byteCells_length,keyW_size]; exact h
theorem hidK {p:Prop} (h:p):Hid p:=h
set_option maxHeartbeats 4000000 in
set_option maxRecDepth 100000 in
theorem key_calls (bk o c:Nat) (xs:List ByteArray) (w:World) (hcells:∀ (j:Nat) x,xs[j]?=some x -> w.cell? ⟨bk,o+j,none⟩=some (.string x)) (hbk:bk < w.heap.size) (hN:xs.length <= 2147483648) (hcap:xs.length <= c)
  (hs:∀ x ∈ xs,x.size < 100) (hlen:(keyL xs).length <= 140737488355328) :
  Calls Tryz.prog 104 #[.slice (some ⟨bk,o,none⟩) xs.length c] w fun e w'=>e=.returned (.string ⟨(keyL xs).toArray⟩) /\ Below w.heap.size w w':=by
 have HC:=hidK hcells
 have HS:=hidK hs
 have HL:=hidK hlen
 clear hcells hs hlen
 have H0:Hid (Lib.IsBuilder 158 5 w.heap.size w.heap.size [] (w.alloc (.cells #[.pointer none,.slice none 0 0] 158))):=Lib.fresh_isBuilder 158 5 w
 have HB0:Hid (Below w.heap.size w (w.alloc (.cells #[.pointer none,.slice none 0 0] 158))):=(Below.refl _ w).alloc (Nat.le_refl _) _
 go_enter Tryz.func104,Tryz.ntmps104
 go_wp2_with fail
 go_loopw [8] (fun i wr=>∃ k:Nat,k <= xs.length /\ i=.int .i64 k /\ Hid (Lib.IsBuilder 158 5 w.heap.size w.heap.size (Lib.byteCells (keyL (xs.take k))) wr) /\ Hid (Below w.heap.size w wr)) (fun i _=>xs.length - (Go.RowKit.intOf i).toNat)
 case atStart=>exact ⟨0,Nat.zero_le _,rfl,H0,HB0⟩
 case round =>
  obtain ⟨k,hk,rfl,HB,HW⟩:=hrel
  by_cases hkn:k < xs.length
  .obtain ⟨x,hx⟩:∃ x,xs[k]?=some x:=⟨xs[k],List.getElem?_eq_getElem hkn⟩
   have hc:wr.cell? ⟨bk,o+k,none⟩=some (.string x):=by
    rw [HW.out.cell (p:=⟨bk,o+k,none⟩) hbk]
    exact HC.out k x hx
   have hxs:x.size < 100:=HS.out x (List.mem_of_getElem? hx)
   have hBw:w.heap.size <= wr.heap.size:=HW.out.size
   have hsum:(keyL (xs.take k)).length+((Lib.decDigits x.size).length+1+x.size) <= 140737488355328:=by
    have h1:=keyL_take_le xs (k+1)
    rw [keyL_succ hx] at h1
    simp only [List.length_append,List.length_singleton,Array.length_toList] at h1
    have h2:=HL.out
    have h3:x.data.size=x.size:=rfl
    omega
   have hno1:¬ 9223372036854775807 < (Lib.decDigits x.size).length+1:=by omega
   have hno2:¬ 9223372036854775807 < (Lib.decDigits x.size).length+1+x.size:=by omega
   have HX:=hidK hx
   have HSum:=hidK hsum
   clear hx hsum
   go_wp2_with fail
   refine (Any.strconv_Itoa_small laysIt x.size hxs wr).mono ?_
   rintro e w1 ⟨rfl,rfl⟩
   go_wp2_with fail
   refine (Any.Builder_WriteString laysWS laysWS_X w.heap.size w.heap.size (Lib.byteCells (keyL (xs.take k))) (keyW x) w1 HB.out (key_fits HSum.out) hBw).mono ?_
   rintro e w3 ⟨rfl,h3,hb3⟩
   rw [key_next HX.out] at h3
   have H3:=hidK (Or.inr h3:Lib.IsBuilder 158 5 w.heap.size w.heap.size _ w3)
   have Hb3:=hidK (HW.out.trans hb3)
   clear h3 hb3
   go_wp2
   exact ⟨⟨k+1,by omega,by simp,H3,Hb3⟩,by simp [Go.RowKit.intOf]; omega⟩
  .have hke:k=xs.length:=by omega
   subst hke
   have hB':=HB.out
   rw [List.take_length] at hB'
   have hBw:w.heap.size <= wr.heap.size:=HW.out.size
   go_wp2_with fail
   refine (Any.Builder_String_any laysBS laysBS_X w.heap.size w.heap.size _ wr hB' hBw).mono ?_
   rintro e w5 ⟨rfl,hb5⟩
   have Hb5:=hidK (HW.out.trans hb5)
   clear hb5 hB'
   go_wp2
   go_ret
   exact ⟨rfl,Hb5.out⟩
set_option maxHeartbeats 4000000 in
set_option maxRecDepth 100000 in
theorem key_none (a:Option Addr) (c:Nat) (w:World) :
  Calls Tryz.prog 104 #[.slice a 0 c] w fun e w'=>e=.returned (.string ⟨#[]⟩) /\ Below w.heap.size w w':=by
 have H0:Hid (Lib.IsBuilder 158 5 w.heap.size w.heap.size (Lib.byteCells []) (w.alloc (.cells #[.pointer none,.slice none 0 0] 158))):=Lib.fresh_isBuilder 158 5 w
 have HB0:Hid (Below w.heap.size w (w.alloc (.cells #[.pointer none,.slice none 0 0] 158))):=(Below.refl _ w).alloc (Nat.le_refl _) _
 go_enter Tryz.func104,Tryz.ntmps104
 go_wp2_with fail
 go_loopw [8] (fun i wr=>i=.int .i64 0 /\ Hid (Lib.IsBuilder 158 5 w.heap.size w.heap.size (Lib.byteCells []) wr) /\ Hid (Below w.heap.size w wr)) (fun _ _=>0)
 case atStart=>exact ⟨rfl,H0,HB0⟩
 case round =>
  obtain ⟨rfl,HB,HW⟩:=hrel
  have hB':=HB.out
  have hBw:w.heap.size <= wr.heap.size:=HW.out.size
  go_wp2_with fail
  refine (Any.Builder_String_any laysBS laysBS_X w.heap.size w.heap.size _ wr hB' hBw).mono ?_
  rintro e w5 ⟨rfl,hb5⟩
  have Hb5:=hidK (HW.out.trans hb5)
  clear hb5 hB'
  go_wp2
  go_ret
  exact ⟨rfl,Hb5.out⟩
end Go.Apx
end
section
namespace Go.Apx
open Go.Proofs
def keyB (l:List ByteArray):ByteArray:=⟨(keyL l).toArray⟩
theorem key_has:aJ PP 104=true:=by kernel_rfl
theorem flat_sv (l:List ByteArray):(l.map sv).flatMap AV.cells=l.map sv:=by
 induction l with
 | nil=>rfl
 | cons s r ih=>simp only [List.map_cons,List.flatMap_cons,ih]; rfl
theorem key_c (k:Nat) (l:List ByteArray) (c:Cap) (hs:∀ x ∈ l,x.size < 100) (hN:l.length <= 2147483648) (hlen:(keyL l).length <= 140737488355328) {h:AHeap} :
  AEx PP Gl 104 [.sl k (l.map sv) c] h (.ret (sv (keyB l))) h:=by
 refine ⟨key_has,fun I m w vs hi ha=>?_⟩
 obtain ⟨x,xs,rfl,hx,hxs⟩:=AVRels.cons_iff.1 ha
 obtain rfl:=AVRels.nil_iff.1 hxs
 have fin:Calls PP 104 #[x] w fun e w'=>e=.returned (.string (keyB l)) /\ Go.RowKit.Below w.heap.size w w':=by
  cases l with
  | nil =>
   cases hx with
   | slnil=>exact key_none none 0 w
   | sl _ _ _ a cap vs hc hle hk hw h1 hl h hI hsp hcap=>exact key_none (some a) cap w
  | cons s r =>
   generalize hes:(s :: r).map sv=es at hx
   cases hx with
   | slnil=>simp at hes
   | sl _ _ _ a cap vs hc hle hk hw h1 hl h hI hsp hcap =>
    have hne:es ≠ []:=by rw [<- hes]; simp
    obtain ⟨bk,o,sp⟩:=a
    have:=hsp hne
    simp only at this
    subst this
    have hcell:∀ (j:Nat) (x:ByteArray),(s :: r)[j]?=some x -> I bk (o+j)=some (.string x):=by
     intro j x hx
     have h2:(es.flatMap AV.cells)[j]?=some (sv x):=by rw [<- hes,flat_sv,List.getElem?_map,hx]; rfl
     have hjl:j < vs.length:=by rw [<- hl]; exact (List.getElem?_eq_some_iff.1 h2).1
     obtain ⟨y,hy⟩:∃ y,vs[j]?=some y:=⟨vs[j],by simp [hjl]⟩
     have h3:=h j _ y h2 hy
     cases h3
     exact hI j _ hy
    have hlen':es.length=(s :: r).length:=by rw [<- hes]; simp
    rw [hlen']
    exact key_calls bk o cap (s :: r) w (fun j x hx=>hi.imm _ _ _ (hcell j x hx)) (hi.imm_lt (hcell 0 s rfl)) hN (by rw [<- hlen']; exact hle) hs hlen
 refine fin.mono ?_
 rintro e w' ⟨rfl,hb⟩
 obtain ⟨h1,h2⟩:=hi.below hb
 exact ⟨_,_,I,m,⟨rfl,rfl⟩,.sc _,h1,h2 _⟩
end Go.Apx
end
