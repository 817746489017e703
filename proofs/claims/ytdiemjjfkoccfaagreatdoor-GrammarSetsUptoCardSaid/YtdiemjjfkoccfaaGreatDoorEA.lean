/- Walks: data of grammars and trees; names, places, sizes. -/
import Derived.Test.YtdiemjjfkoccfaaGreatDoorCode
import Derived.Test.YtdiemjjfkoccfaaGreatDoorAmC
set_option linter.unusedVariables false
set_option linter.unusedSimpArgs false
set_option linter.unnecessarySimpa false
section
namespace Go.Apx
open Go.Proofs
set_option maxRecDepth 4000
structure Pt where
 sym:ByteArray
 sort:ByteArray
 arg:Int
structure Rl where
 label:ByteArray
 sort:ByteArray
 parts:List Pt
 var:Bool
 cap:Cap
structure Gr where
 sorts:List ByteArray
 rules:List Rl
 sc:Cap
 rc:Cap
 us:Rl -> Bool:=fun _=>true
 st:ByteArray:=⟨#[]⟩
def encP (p:Pt):AV:=.agg [.sc (.string p.sym),.sc (.string p.sort),.sc (.int .i64 p.arg)]
def ab (r:Rl):AV:=.agg [.sc (.string r.label),.sc (.string r.sort),.sl 3 (r.parts.map encP) r.cap,.sc (.bool r.var)]
def aM (g:Gr):AV:=.agg [.sl 1 (g.sorts.map sv) g.sc,.sl 4 (g.rules.map ab) g.rc]
@[simp] theorem isPend_encP (p:Pt):(encP p).isPend=false:=rfl
@[simp] theorem one_encP (p:Pt):(encP p).one=false:=rfl
@[simp] theorem isPend_encR (p:Rl):(ab p).isPend=false:=rfl
@[simp] theorem one_encR (p:Rl):(ab p).one=false:=rfl
@[simp] theorem isPend_encG (p:Gr):(aM p).isPend=false:=rfl
@[simp] theorem one_encG (p:Gr):(aM p).one=false:=rfl
inductive Tr where
 | node (label:ByteArray) (kids:List Tr) (cap:Cap)
mutual
def encT:Tr -> AV
 | .node l ks c=>.agg [.sc (.string l),.sl 2 (encTs ks) c]
def encTs:List Tr -> List AV
 | []=>[]
 | t :: r=>encT t :: encTs r
end
@[simp] theorem isPend_encT (t:Tr):(encT t).isPend=false:=by cases t; rfl
@[simp] theorem one_encT (t:Tr):(encT t).one=false:=by cases t; rfl
def okName (s:ByteArray):Bool:=!decide (s=⟨#[]⟩) && decide ((s.size:Int) <= 60)
theorem name_c (s:ByteArray) {h:AHeap}:AEx PP Gl 61 [.sc (.string s)] h (.ret (.sc (.bool (okName s)))) h:=by
 refine enter_61 (by simp) ?_
 simp [code_61,res_61,ann_61]
 by_cases hs:s=⟨#[]⟩
 .simp [hs]
  exact aZ (by simp [deferred,dslot]) rfl (by simp [okName]) rfl
 .simp [hs]
  exact aZ (by simp [deferred,dslot]) rfl (by simp [okName,hs]) rfl
theorem rname_c (s:ByteArray) {h:AHeap}:AEx PP Gl 63 [.sc (.string s)] h (.ret (.sc (.bool (okName s)))) h:=by
 refine enter_63 (by simp) ?_
 simp [code_63,res_63,ann_63]
 by_cases hs:s=⟨#[]⟩
 .simp [hs]
  exact aZ (by simp [deferred,dslot]) rfl (by simp [okName]) rfl
 .simp [hs]
  exact aZ (by simp [deferred,dslot]) rfl (by simp [okName,hs]) rfl
def placeF {α:Type} (p:α -> Bool) (l:List α):Int:=match l.findIdx? p with
 | some i=>i
 | none=>-1
theorem placeF_none {α:Type} {p:α -> Bool} {l:List α} (h:∀ x ∈ l,p x=false):placeF p l=-1:=by
 have:l.findIdx? p=none:=List.findIdx?_eq_none_iff.2 h
 simp [placeF,this]
theorem placeF_some {α:Type} {p:α -> Bool} {l:List α} {i:Nat} {x:α} (hi:l[i]?=some x) (hp:p x=true) (h:∀ y ∈ l.take i,p y=false):placeF p l=i:=by
 have hlt:=(List.getElem?_eq_some_iff.1 hi).1
 have hx:=(List.getElem?_eq_some_iff.1 hi).2
 have:l.findIdx? p=some i:=by
  rw [List.findIdx?_eq_some_iff_getElem]
  refine ⟨hlt,by rw [hx]; exact hp,fun j hj=>?_⟩
  have:=h l[j] (List.mem_of_getElem? (i:=j) (by rw [List.getElem?_take,if_pos hj]; simp))
  simp [this]
 simp [placeF,this]
theorem take_ext {α:Type} {l:List α} {i:Nat} {x:α} (hi:l[i]?=some x) {q:α -> Prop} (h:∀ y ∈ l.take i,q y) (hx:q x):∀ y ∈ l.take (i+1),q y:=by
 intro y hy
 rw [List.take_add_one,hi] at hy
 simp at hy
 rcases hy with hy | rfl
 .exact h y hy
 .exact hx
theorem take_all {α:Type} {l:List α} {q:α -> Prop} (h:∀ y ∈ l.take l.length,q y):∀ y ∈ l,q y:=by simpa using h
def aw (l:List ByteArray) (s:ByteArray):Int:=placeF (fun x=>decide (x=s)) l
theorem bp (l:List ByteArray) (c:Cap) (s:ByteArray) (hl:l.length <= 2 ^ 31) {h:AHeap}:AEx PP Gl 47 [.sl 1 (l.map sv) c,.sc (.string s)] h (.ret (.sc (.int .i64 (aw l s)))) h:=by
 refine enter_47 (by simp) ?_
 simp [code_47,res_47,ann_47]
 refine AWp.cnt l.length [0,1] (fun i=>[(5,i64 i)]) (fun _=>h) (fun i=>∀ y ∈ l.take i,decide (y=s)=false) mixed (by simp) (aI (by simp [dslot])) rfl ?_ ?_
 .intro i hi hz
  obtain ⟨k,hki⟩:∃ k,l[i]?=some k:=⟨l[i],by simp [hi]⟩
  have hlt:(i:Int) < l.length:=by omega
  have hne:l ≠ []:=by intro e; rw [e] at hi; simp at hi
  simp [lp0_47,hlt,hki,sv]
  refine ⟨fun hk=>?_,fun hk=>?_⟩
  .exact aZ (by simp [deferred,dslot]) rfl (by simp [aw,placeF_some hki (by simpa using hk) hz]) rfl
  .rw [IntWalk.i64_in ((i:Int)+1) (by omega)]
   refine ⟨by simpa using take_ext hki (q:=fun y=>decide (y=s)=false) hz (by simpa using hk),aI (by simp [dslot])⟩
 .intro hz
  simp [lp0_47]
  exact aZ (by simp [deferred,dslot]) rfl (by simp [aw,placeF_none (take_all hz)]) rfl
end Go.Apx
end
section
namespace Go.Apx
open Go.Proofs
set_option maxRecDepth 4000
theorem index_c (l:List ByteArray) (c:Cap) (s:ByteArray) (hl:l.length <= 2 ^ 31) {h:AHeap}:AEx PP Gl 99 [.sl 1 (l.map sv) c,.sc (.string s)] h (.ret (.sc (.int .i64 (aw l s)))) h:=by
 refine enter_99 (by simp) ?_
 simp [code_99,res_99,ann_99]
 refine AWp.cnt l.length [0,1,7] (fun i=>[(8,i64 i)]) (fun _=>h) (fun i=>∀ y ∈ l.take i,decide (y=s)=false) mixed (by simp) (aI (by simp [dslot])) rfl ?_ ?_
 .intro i hi hz
  obtain ⟨k,hki⟩:∃ k,l[i]?=some k:=⟨l[i],by simp [hi]⟩
  have hlt:(i:Int) < l.length:=by omega
  have hne:l ≠ []:=by intro e; rw [e] at hi; simp at hi
  simp [lp0_99,hlt,hki,sv]
  refine ⟨fun hk=>?_,fun hk=>?_⟩
  .exact aZ (by simp [deferred,dslot]) rfl (by simp [aw,placeF_some hki (by simpa using hk.symm) hz]) rfl
  .rw [IntWalk.i64_in ((i:Int)+1) (by omega)]
   refine ⟨by simpa using take_ext hki (q:=fun y=>decide (y=s)=false) hz (by simpa using fun e=>hk e.symm),aI (by simp [dslot])⟩
 .intro hz
  simp [lp0_99]
  exact aZ (by simp [deferred,dslot]) rfl (by simp [aw,placeF_none (take_all hz)]) rfl
def bU (l:List ByteArray) (s:ByteArray):Bool:=decide (0 <= aw l s)
theorem contains_c (l:List ByteArray) (c:Cap) (s:ByteArray) (hl:l.length <= 2 ^ 31) {h:AHeap}:AEx PP Gl 73 [.sl 1 (l.map sv) c,.sc (.string s)] h (.ret (.sc (.bool (bU l s)))) h:=by
 refine enter_73 (by simp) ?_
 simp [code_73,res_73,ann_73]
 refine aP (index_c l c s hl) rfl rfl ?_
 simp
 exact aZ (by simp [deferred,dslot]) rfl (by simp [bU]) rfl
def findF (g:Gr) (s:ByteArray):Int:=placeF (fun r=>decide (r.label=s)) g.rules
theorem rfind_c (g:Gr) (s:ByteArray) (hl:g.rules.length <= 2 ^ 31) {h:AHeap}:AEx PP Gl 27 [aM g,.sc (.string s)] h (.ret (.sc (.int .i64 (findF g s)))) h:=by
 refine enter_27 (by simp) ?_
 simp [code_27,res_27,ann_27,aM]
 refine AWp.cnt g.rules.length [1,2] (fun i=>[(5,i64 i)]) (fun _=>h) (fun i=>∀ y ∈ g.rules.take i,decide (y.label=s)=false) mixed (by simp) (aI (by simp [dslot])) rfl ?_ ?_
 .intro i hi hz
  obtain ⟨k,hki⟩:∃ k,g.rules[i]?=some k:=⟨g.rules[i],by simp [hi]⟩
  have hlt:(i:Int) < g.rules.length:=by omega
  have hne:g.rules ≠ []:=by intro e; rw [e] at hi; simp at hi
  simp [lp0_27,hlt,hki,ab]
  refine ⟨fun hk=>?_,fun hk=>?_⟩
  .exact aZ (by simp [deferred,dslot]) rfl (by simp [findF,placeF_some hki (by simpa using hk) hz]) rfl
  .rw [IntWalk.i64_in ((i:Int)+1) (by omega)]
   refine ⟨by simpa using take_ext hki (q:=fun y=>decide (y.label=s)=false) hz (by simpa using hk),aI (by simp [dslot])⟩
 .intro hz
  simp [lp0_27]
  exact aZ (by simp [deferred,dslot]) rfl (by simp [findF,placeF_none (take_all hz)]) rfl
def argsF (l:List Pt):Nat:=(l.filter fun p=>!decide (p.sort=⟨#[]⟩)).length
theorem argsF_take {l:List Pt} {i:Nat} {p:Pt} (h:l[i]?=some p):argsF (l.take (i+1))=argsF (l.take i)+(if p.sort=⟨#[]⟩ then 0 else 1):=by
 rw [List.take_add_one,h]
 by_cases hp:p.sort=⟨#[]⟩ <;> simp [argsF,hp]
theorem argsF_le (l:List Pt):argsF l <= l.length:=List.length_filter_le _ _
end Go.Apx
end
section
namespace Go.Apx
open Go.Proofs
set_option maxRecDepth 4000
def badR (parts:Int) (r:Rl):Bool:=(decide ((r.parts.length:Int) > parts) && decide ((r.parts.length:Int) <= 200)) || decide ((r.parts.length:Int) > 210)
def smallF (g:Gr) (rules parts:Int):Bool :=
 if g.sorts.length > 40 \/ g.rules.length > 620 then false else if g.sorts.length > 32 \/ g.rules.length > 600 then true else
  g.rules.all (fun r=>!badR parts r) && decide ((g.rules.length:Int) <= rules) && decide (g.sorts.length <= 8)
theorem small_c (g:Gr) (rules parts:Int) (hs:g.sorts.length <= 2 ^ 31) (hr:g.rules.length <= 2 ^ 31) {h:AHeap}:AEx PP Gl 8 [aM g,i64 rules,i64 parts] h (.ret (.sc (.bool (smallF g rules parts)))) h:=by
 refine enter_8 (by simp) ?_
 by_cases c1:(40:Int) < g.sorts.length
 .simp -implicitDefEqProofs [code_8,res_8,ann_8,aM,c1]
  exact aZ (by simp [deferred,dslot]) rfl (by simp [smallF]; omega) rfl
 by_cases c2:(620:Int) < g.rules.length
 .simp -implicitDefEqProofs [code_8,res_8,ann_8,aM,c1,c2]
  exact aZ (by simp [deferred,dslot]) rfl (by simp [smallF]; omega) rfl
 by_cases c3:(32:Int) < g.sorts.length
 .simp -implicitDefEqProofs [code_8,res_8,ann_8,aM,c1,c2,c3]
  exact aZ (by simp [deferred,dslot]) rfl (by
   unfold smallF
   rw [if_neg (by omega),if_pos (by omega)]) rfl
 by_cases c4:(600:Int) < g.rules.length
 .simp -implicitDefEqProofs [code_8,res_8,ann_8,aM,c1,c2,c3,c4]
  exact aZ (by simp [deferred,dslot]) rfl (by
   unfold smallF
   rw [if_neg (by omega),if_pos (by omega)]) rfl
 have hsm:smallF g rules parts=(g.rules.all (fun r=>!badR parts r) && decide ((g.rules.length:Int) <= rules) && decide (g.sorts.length <= 8)):=by
  unfold smallF
  rw [if_neg (by omega),if_neg (by omega)]
 simp -implicitDefEqProofs [code_8,res_8,ann_8,aM,c1,c2,c3,c4]
 refine AWp.cnt g.rules.length [1,2,3] (fun i=>[(7,i64 i)]) (fun _=>h) (fun i=>∀ y ∈ g.rules.take i,badR parts y=false) mixed (by simp) (aI (by simp [dslot])) rfl ?_ ?_
 .intro i hi hz
  obtain ⟨k,hki⟩:∃ k,g.rules[i]?=some k:=⟨g.rules[i],by simp [hi]⟩
  have hlt:(i:Int) < g.rules.length:=by omega
  have hne:g.rules ≠ []:=by intro e; rw [e] at hi; simp at hi
  have hbad:badR parts k=true -> smallF g rules parts=false:=fun hb=>by
   rw [hsm]
   have:g.rules.all (fun r=>!badR parts r)=false:=by
    rw [List.all_eq_false]
    exact ⟨k,List.mem_of_getElem? hki,by simp [hb]⟩
   simp [this]
  have hgo:badR parts k=false -> ∀ y ∈ g.rules.take (i+1),badR parts y=false:=fun hb=>take_ext hki (q:=fun y=>badR parts y=false) hz hb
  by_cases b1:parts < (k.parts.length:Int)
  .by_cases b2:(k.parts.length:Int) <= 200
   .simp -implicitDefEqProofs [lp0_8,hlt,hki,ab,b1,b2]
    exact aZ (by simp [deferred,dslot]) rfl (by rw [hbad (by simp [badR,b1,b2])]) rfl
   .by_cases b3:(210:Int) < k.parts.length
    .simp -implicitDefEqProofs [lp0_8,hlt,hki,ab,b1,b2,b3]
     exact aZ (by simp [deferred,dslot]) rfl (by rw [hbad (by simp [badR]; omega)]) rfl
    .simp -implicitDefEqProofs [lp0_8,hlt,hki,ab,b1,b2,b3]
     rw [IntWalk.i64_in ((i:Int)+1) (by omega)]
     exact ⟨by simpa using hgo (by simp [badR]; omega),aI (by simp [dslot])⟩
  .by_cases b3:(210:Int) < k.parts.length
   .simp -implicitDefEqProofs [lp0_8,hlt,hki,ab,b1,b3]
    exact aZ (by simp [deferred,dslot]) rfl (by rw [hbad (by simp [badR]; omega)]) rfl
   .simp -implicitDefEqProofs [lp0_8,hlt,hki,ab,b1,b3]
    rw [IntWalk.i64_in ((i:Int)+1) (by omega)]
    exact ⟨by simpa using hgo (by simp [badR]; omega),aI (by simp [dslot])⟩
 .intro hz
  have hall:g.rules.all (fun r=>!badR parts r)=true:=by
   rw [List.all_eq_true]
   intro y hy
   simp [take_all hz y hy]
  simp -implicitDefEqProofs [lp0_8]
  by_cases d1:(g.rules.length:Int) <= rules
  .simp [d1]
   exact aZ (by simp [deferred,dslot]) rfl (by rw [hsm,hall]; simp [d1]; omega) rfl
  .simp [d1]
   exact aZ (by simp [deferred,dslot]) rfl (by rw [hsm,hall]; simp [d1]) rfl
def partF (g:Gr) (p:Pt):Bool:=if p.sort=⟨#[]⟩ then okName p.sym && decide (p.arg=0) else decide (p.sym=⟨#[]⟩) && bU g.sorts p.sort
theorem part_c (g:Gr) (p:Pt) (hs:g.sorts.length <= 2 ^ 31) {h:AHeap}:AEx PP Gl 96 [encP p,aM g] h (.ret (.sc (.bool (partF g p)))) h:=by
 refine enter_96 (by simp) ?_
 simp [code_96,res_96,ann_96,encP,aM]
 refine ⟨fun he=>?_,fun he=>?_⟩
 .refine aP (name_c p.sym) rfl rfl ?_
  generalize hb:okName p.sym=b
  cases b <;> simp
  .exact aZ (by simp [deferred,dslot]) rfl (by simp [partF,he,hb]) rfl
  .exact aZ (by simp [deferred,dslot]) rfl (by simp [partF,he,hb]) rfl
 .by_cases hy:p.sym=⟨#[]⟩
  .simp [hy]
   refine aP (contains_c g.sorts g.sc p.sort hs) rfl rfl ?_
   simp
   exact aZ (by simp [deferred,dslot]) rfl (by simp [partF,he,hy]) rfl
  .simp [hy]
   exact aZ (by simp [deferred,dslot]) rfl (by simp [partF,he,hy]) rfl
theorem rpart_c (g:Gr) (p:Pt) (hs:g.sorts.length <= 2 ^ 31) {h:AHeap}:AEx PP Gl 98 [aM g,encP p] h (.ret (.sc (.bool (partF g p)))) h:=by
 refine enter_98 (by simp) ?_
 simp [code_98,res_98,ann_98,encP,aM]
 refine ⟨fun he=>?_,fun he=>?_⟩
 .refine aP (rname_c p.sym) rfl rfl ?_
  generalize hb:okName p.sym=b
  cases b <;> simp
  .exact aZ (by simp [deferred,dslot]) rfl (by simp [partF,he,hb]) rfl
  .exact aZ (by simp [deferred,dslot]) rfl (by simp [partF,he,hb]) rfl
 .by_cases hy:p.sym=⟨#[]⟩
  .simp [hy]
   refine aP (bp g.sorts g.sc p.sort hs) rfl rfl ?_
   simp
   exact aZ (by simp [deferred,dslot]) rfl (by simp [partF,he,hy,bU]) rfl
  .simp [hy]
   exact aZ (by simp [deferred,dslot]) rfl (by simp [partF,he,hy]) rfl
end Go.Apx
end
section
namespace Go.Apx
open Go.Proofs
set_option maxRecDepth 4000
def allIdx {α:Type} (p:α -> Nat -> Bool) (l:List α):Bool:=(List.range l.length).all fun i=>match l[i]? with
 | some x=>p x i
 | none=>true
theorem allIdx_true {α:Type} {p:α -> Nat -> Bool} {l:List α} (h:∀ i x,l[i]?=some x -> p x i=true):allIdx p l=true:=by
 unfold allIdx
 rw [List.all_eq_true]
 intro i hi
 split
 .rename_i x hx; exact h i x hx
 .rfl
theorem allIdx_false {α:Type} {p:α -> Nat -> Bool} {l:List α} {i:Nat} {x:α} (hi:l[i]?=some x) (hp:p x i=false):allIdx p l=false:=by
 unfold allIdx
 rw [List.all_eq_false]
 exact ⟨i,by simpa using (List.getElem?_eq_some_iff.1 hi).1,by simp [hi,hp]⟩
theorem allIdx_iff {α:Type} {p:α -> Nat -> Bool} {l:List α}:allIdx p l=true ↔ ∀ i x,l[i]?=some x -> p x i=true:=by
 refine ⟨fun h i x hx=>?_,allIdx_true⟩
 cases hp:p x i with
 | true=>rfl
 | false=>rw [allIdx_false hx hp] at h; cases h
def timesF (l:List Pt) (k:Int):Nat:=(l.filter fun p=>!decide (p.sort=⟨#[]⟩) && decide (p.arg=k)).length
theorem timesF_take {l:List Pt} {i:Nat} {p:Pt} {k:Int} (h:l[i]?=some p):timesF (l.take (i+1)) k=timesF (l.take i) k+(if p.sort=⟨#[]⟩ then 0 else if p.arg=k then 1 else 0):=by
 rw [List.take_add_one,h]
 by_cases hp:p.sort=⟨#[]⟩ <;> by_cases ha:p.arg=k <;> simp [timesF,hp,ha]
theorem timesF_le (l:List Pt) (k:Int):timesF l k <= l.length:=List.length_filter_le _ _
def onceF (l:List Pt):Bool:=(List.range (argsF l)).all fun k=>decide (timesF l k=1)
def lastF (r:Rl):Bool:=!r.var || (decide (r.parts.length=1) && decide (argsF r.parts=0))
def rruleF (g:Gr) (r:Rl):Bool:=okName r.label && bU g.sorts r.sort && r.parts.all (partF g) && onceF r.parts && lastF r
theorem rrule_c (g:Gr) (r:Rl) (hs:g.sorts.length <= 2 ^ 31) (hp:r.parts.length <= 2 ^ 31) {h:AHeap}:AEx PP Gl 64 [aM g,ab r] h (.ret (.sc (.bool (rruleF g r)))) h:=by
 refine enter_64 (by simp) ?_
 simp [code_64,res_64,ann_64,ab,aM]
 refine aP (rname_c r.label) rfl rfl ?_
 generalize hb1:okName r.label=b1
 cases b1 with
 | false=>simp; exact aZ (by simp [deferred,dslot]) rfl (by simp [rruleF,hb1]) rfl
 | true =>
  simp
  refine aP (bp g.sorts g.sc r.sort hs) rfl rfl ?_
  simp
  refine ⟨fun hneg=>?_,fun hpos=>?_⟩
  .have:bU g.sorts r.sort=false:=by simp [bU]; omega
   exact aZ (by simp [deferred,dslot]) rfl (by simp [rruleF,this]) rfl
  have hb2:bU g.sorts r.sort=true:=by simp [bU]; omega
  refine AWp.cnt r.parts.length [2,3] (fun i=>[(5,i64 (argsF (r.parts.take i))),(6,i64 i)]) (fun _=>h) (fun i=>∀ y ∈ r.parts.take i,partF g y=true) mixed (by simp) (aI (by simp [dslot,argsF])) rfl ?_ ?_
  .intro i hi hz
   obtain ⟨k,hki⟩:∃ k,r.parts[i]?=some k:=⟨r.parts[i],by simp [hi]⟩
   have hlt:(i:Int) < r.parts.length:=by omega
   have hne:r.parts ≠ []:=by intro e; rw [e] at hi; simp at hi
   have h2:=argsF_le (r.parts.take i)
   simp at h2
   simp [lp0_64,hlt,hki,encP]
   refine aP (rpart_c g k hs) (by simp [aM,encP]) rfl ?_
   generalize hbk:partF g k=bk
   cases bk with
   | false =>
    simp
    refine aZ (by simp [deferred,dslot]) rfl ?_ rfl
    have:r.parts.all (partF g)=false:=by
     rw [List.all_eq_false]
     exact ⟨k,List.mem_of_getElem? hki,by simp [hbk]⟩
    simp [rruleF,this]
   | true =>
    simp [hki,encP]
    have hgo:=take_ext hki (q:=fun y=>partF g y=true) hz hbk
    refine ⟨fun hk=>?_,fun hk=>?_⟩
    .rw [IntWalk.i64_in ((i:Int)+1) (by omega)]
     exact ⟨by simpa using hgo,aI (by simp [dslot,argsF_take hki,hk])⟩
    .rw [IntWalk.i64_in ((i:Int)+1) (by omega),IntWalk.i64_in ((argsF (r.parts.take i):Int)+1) (by omega)]
     exact ⟨by simpa using hgo,aI (by simp [dslot,argsF_take hki,hk])⟩
  .intro hz
   have hall:r.parts.all (partF g)=true:=by rw [List.all_eq_true]; exact take_all hz
   have hal:=argsF_le r.parts
   simp [lp0_64]
   refine AWp.cnt (argsF r.parts) [3,5] (fun i=>[(7,i64 i)]) (fun _=>h) (fun i=>∀ k,k < i -> timesF r.parts (k:Int)=1) mixed (by simp) (aI (by simp [dslot])) rfl ?_ ?_
   .intro i hi hz2
    have hlt:(i:Int) < argsF r.parts:=by omega
    simp [lp1_64,hlt]
    refine AWp.cnt r.parts.length [3,5,7] (fun j=>[(8,i64 (timesF (r.parts.take j) i)),(9,i64 j)]) (fun _=>h) (fun _=>True) mixed trivial (aI (by simp [dslot,timesF])) rfl ?_ ?_
    .intro j hj _
     obtain ⟨k,hkj⟩:∃ k,r.parts[j]?=some k:=⟨r.parts[j],by simp [hj]⟩
     have hltj:(j:Int) < r.parts.length:=by omega
     have hne:r.parts ≠ []:=by intro e; rw [e] at hj; simp at hj
     have h2:=timesF_le (r.parts.take j) i
     simp at h2
     by_cases hk:k.sort=⟨#[]⟩
     .simp [lp2_64,hltj,hkj,encP,hk]
      rw [IntWalk.i64_in ((j:Int)+1) (by omega)]
      exact aI (by simp [dslot,timesF_take hkj,hk])
     .simp [lp2_64,hltj,hkj,encP,hk]
      refine ⟨fun ha=>?_,fun ha=>?_⟩
      .rw [IntWalk.i64_in ((j:Int)+1) (by omega),IntWalk.i64_in ((timesF (r.parts.take j) (i:Int):Int)+1) (by omega)]
       exact aI (by simp [dslot,timesF_take hkj,hk,ha])
      .rw [IntWalk.i64_in ((j:Int)+1) (by omega)]
       exact aI (by simp [dslot,timesF_take hkj,hk,ha])
    .intro _
     simp [lp2_64]
     refine ⟨fun ht=>?_,fun ht=>?_⟩
     .rw [IntWalk.i64_in ((i:Int)+1) (by omega)]
      refine ⟨fun k hk=>?_,aI (by simp [dslot])⟩
      by_cases e:k=i
      .subst e; omega
      .exact hz2 k (by omega)
     .refine aZ (by simp [deferred,dslot]) rfl ?_ rfl
      have:onceF r.parts=false:=by
       unfold onceF
       rw [List.all_eq_false]
       exact ⟨i,by simpa using hi,by simp; omega⟩
      simp [rruleF,this]
   .intro hz2
    have honce:onceF r.parts=true:=by
     unfold onceF
     rw [List.all_eq_true]
     intro k hk
     simpa using hz2 k (by simpa using hk)
    have hfin:rruleF g r=lastF r:=by simp [rruleF,hb1,hb2,hall,honce]
    simp [lp1_64]
    generalize hv:r.var=v
    cases v with
    | false=>simp; exact aZ (by simp [deferred,dslot]) rfl (by simp [hfin,lastF,hv]) rfl
    | true =>
     by_cases hl1:r.parts.length=1
     .simp [hl1]
      exact aZ (by simp [deferred,dslot]) rfl (by simp [hfin,lastF,hv,hl1]) rfl
     .have hl1':¬ (r.parts.length:Int)=1:=by omega
      simp [hl1,hl1']
      exact aZ (by simp [deferred,dslot]) rfl (by simp [hfin,lastF,hv,hl1]) rfl
def longF (r:Rl):Bool:=decide ((r.parts.length:Int) > 200)
def nameOkF (g:Gr) (s:ByteArray) (i:Nat):Bool:=okName s && decide (aw g.sorts s=i)
def ruleOkF (g:Gr) (r:Rl) (i:Nat):Bool:=rruleF g r && decide (findF g r.label=i)
def aO (g:Gr):Int :=
 if g.sorts.length > 32 \/ g.rules.length > 600 then 4 else if g.rules.any longF=true then 4 else if allIdx (nameOkF g) g.sorts=true then (if allIdx (ruleOkF g) g.rules=true then 0 else 151) else 151
theorem rcheck_c (g:Gr) (hs:g.sorts.length <= 2 ^ 31) (hr:g.rules.length <= 2 ^ 31) {h:AHeap}:AEx PP Gl 25 [aM g] h (.ret (i64 (aO g))) h:=by
 refine enter_25 (by simp) ?_
 by_cases c1:(32:Int) < g.sorts.length
 .simp -implicitDefEqProofs [code_25,res_25,ann_25,aM,c1]
  exact aZ (by simp [deferred,dslot]) rfl (by unfold aO; rw [if_pos (by omega)]) rfl
 by_cases c2:(600:Int) < g.rules.length
 .simp -implicitDefEqProofs [code_25,res_25,ann_25,aM,c1,c2]
  exact aZ (by simp [deferred,dslot]) rfl (by unfold aO; rw [if_pos (by omega)]) rfl
 simp -implicitDefEqProofs [code_25,res_25,ann_25,aM,c1,c2]
 refine AWp.cnt g.rules.length [1] (fun i=>[(3,i64 i)]) (fun _=>h) (fun i=>∀ y ∈ g.rules.take i,longF y=false) mixed (by simp) (aI (by simp [dslot])) rfl ?_ ?_
 .intro i hi hz
  obtain ⟨k,hki⟩:∃ k,g.rules[i]?=some k:=⟨g.rules[i],by simp [hi]⟩
  have hlt:(i:Int) < g.rules.length:=by omega
  have hne:g.rules ≠ []:=by intro e; rw [e] at hi; simp at hi
  simp -implicitDefEqProofs [lp0_25,hlt,hki,ab]
  refine ⟨fun hk=>?_,fun hk=>?_⟩
  .refine aZ (by simp [deferred,dslot]) rfl ?_ rfl
   have:g.rules.any longF=true:=by
    rw [List.any_eq_true]
    exact ⟨k,List.mem_of_getElem? hki,by simp [longF]; omega⟩
   unfold aO
   rw [if_neg (by omega),if_pos this]
  .rw [IntWalk.i64_in ((i:Int)+1) (by omega)]
   exact ⟨by simpa using take_ext hki (q:=fun y=>longF y=false) hz (by simp [longF]; omega),aI (by simp [dslot])⟩
 .intro hz
  have hlong:¬ g.rules.any longF=true:=by
   rw [List.any_eq_true]
   rintro ⟨y,hy,hl⟩
   rw [take_all hz y hy] at hl; cases hl
  simp -implicitDefEqProofs [lp0_25]
  refine AWp.cnt g.sorts.length [1] (fun i=>[(4,i64 i)]) (fun _=>h) (fun i=>∀ j x,j < i -> g.sorts[j]?=some x -> nameOkF g x j=true) mixed (by simp) (aI (by simp [dslot])) rfl ?_ ?_
  .intro i hi hz2
   obtain ⟨k,hki⟩:∃ k,g.sorts[i]?=some k:=⟨g.sorts[i],by simp [hi]⟩
   have hlt:(i:Int) < g.sorts.length:=by omega
   have hne:g.sorts ≠ []:=by intro e; rw [e] at hi; simp at hi
   have hbad:nameOkF g k i=false -> aO g=151:=fun hb=>by
    unfold aO
    rw [if_neg (by omega),if_neg hlong,if_neg (by rw [allIdx_false hki hb]; simp)]
   simp -implicitDefEqProofs [lp1_25,hlt,hki,sv]
   refine aP (rname_c k) rfl rfl ?_
   generalize hb1:okName k=b1
   cases b1 with
   | false =>
    simp
    exact aZ (by simp [deferred,dslot]) rfl (by rw [hbad (by simp [nameOkF,hb1])]) rfl
   | true =>
    simp [hki,sv]
    refine aP (bp g.sorts g.sc k hs) rfl rfl ?_
    simp
    refine ⟨fun he=>?_,fun he=>?_⟩
    .rw [IntWalk.i64_in ((i:Int)+1) (by omega)]
     refine ⟨fun j x hj hx=>?_,aI (by simp [dslot])⟩
     by_cases e:j=i
     .subst e; rw [hki] at hx; cases hx; simp [nameOkF,hb1,he]
     .exact hz2 j x (by omega) hx
    .exact aZ (by simp [deferred,dslot]) rfl (by rw [hbad (by simp [nameOkF,hb1]; omega)]) rfl
  .intro hz2
   have hnames:allIdx (nameOkF g) g.sorts=true:=allIdx_true fun i x hx=>hz2 i x (List.getElem?_eq_some_iff.1 hx).1 hx
   simp -implicitDefEqProofs [lp1_25]
   refine AWp.cnt g.rules.length [1] (fun i=>[(5,i64 i)]) (fun _=>h) (fun i=>∀ j x,j < i -> g.rules[j]?=some x -> ruleOkF g x j=true) mixed (by simp) (aI (by simp [dslot])) rfl ?_ ?_
   .intro i hi hz3
    obtain ⟨k,hki⟩:∃ k,g.rules[i]?=some k:=⟨g.rules[i],by simp [hi]⟩
    have hlt:(i:Int) < g.rules.length:=by omega
    have hne:g.rules ≠ []:=by intro e; rw [e] at hi; simp at hi
    have hkp:(k.parts.length:Int) <= 200:=by
     have:=take_all hz k (List.mem_of_getElem? hki)
     simp [longF] at this; omega
    have hbad:ruleOkF g k i=false -> aO g=151:=fun hb=>by
     unfold aO
     rw [if_neg (by omega),if_neg hlong,if_pos hnames,if_neg (by rw [allIdx_false hki hb]; simp)]
    simp -implicitDefEqProofs [lp2_25,hlt,hki,ab]
    refine aP (rrule_c g k hs (by omega)) (by simp [aM,ab]) rfl ?_
    generalize hb1:rruleF g k=b1
    cases b1 with
    | false =>
     simp
     exact aZ (by simp [deferred,dslot]) rfl (by rw [hbad (by simp [ruleOkF,hb1])]) rfl
    | true =>
     simp [hki,ab]
     refine aP (rfind_c g k.label hr) (by simp [aM]) rfl ?_
     simp
     refine ⟨fun he=>?_,fun he=>?_⟩
     .rw [IntWalk.i64_in ((i:Int)+1) (by omega)]
      refine ⟨fun j x hj hx=>?_,aI (by simp [dslot])⟩
      by_cases e:j=i
      .subst e; rw [hki] at hx; cases hx; simp [ruleOkF,hb1,he]
      .exact hz3 j x (by omega) hx
     .exact aZ (by simp [deferred,dslot]) rfl (by rw [hbad (by simp [ruleOkF,hb1]; omega)]) rfl
   .intro hz3
    have hrules:allIdx (ruleOkF g) g.rules=true:=allIdx_true fun i x hx=>hz3 i x (List.getElem?_eq_some_iff.1 hx).1 hx
    simp -implicitDefEqProofs [lp2_25]
    exact aZ (by simp [deferred,dslot]) rfl (by unfold aO; rw [if_neg (by omega),if_neg hlong,if_pos hnames,if_pos hrules]) rfl
end Go.Apx
end
section
namespace Go.Apx
open Go.Proofs
set_option maxRecDepth 4000
theorem nan_c (a:Int) {h:AHeap}:AEx PP Gl 116 [i64 a] h (.ret (.sc (.bool false))) h:=by
 refine enter_116 (by simp) ?_
 simp [code_116,res_116,ann_116]
 exact aZ (by simp [deferred,dslot]) rfl (by simp) rfl
theorem less_c (a b:Int) {h:AHeap}:AEx PP Gl 143 [i64 a,i64 b] h (.ret (.sc (.bool (decide (a < b))))) h:=by
 refine enter_143 (by simp) ?_
 simp [code_143,res_143,ann_143]
 refine aP (nan_c a) rfl rfl ?_
 simp
 exact aZ (by simp [deferred,dslot]) rfl (by simp) rfl
def swp (l:List Int) (j:Nat):List Int:=(l.set (j+1) (l.getD j 0)).set j (l.getD (j+1) 0)
def sink:Nat -> List Int -> List Int
 | 0,l=>l
 | j+1,l=>if l.getD (j+1) 0 < l.getD j 0 then sink j (swp l j) else l
def isortN (l:List Int):Nat -> List Int
 | 0=>l
 | i+1=>sink (i+1) (isortN l i)
def sortF (l:List Int):List Int:=isortN l (l.length - 1)
@[simp] theorem swp_length (l:List Int) (j:Nat):(swp l j).length=l.length:=by simp [swp]
@[simp] theorem sink_length (j:Nat) (l:List Int):(sink j l).length=l.length:=by
 induction j generalizing l with
 | zero=>rfl
 | succ j ih=>simp only [sink]; split <;> simp [ih]
@[simp] theorem isortN_length (l:List Int) (i:Nat):(isortN l i).length=l.length:=by
 induction i with
 | zero=>rfl
 | succ i ih=>simp [isortN,ih]
theorem put_eq {α:Type} (L:List α) (k:Nat) (v:α) (hk:k < L.length):List.take k L++v :: List.drop (k+1) L=L.set k v:=by
 rw [List.set_eq_take_append_cons_drop,if_pos hk]
theorem set_same {α:Type} {h:List α} {o:Nat} {x:α} (ho:h[o]?=some x):h.set o x=h:=by
 obtain ⟨h1,rfl⟩:=List.getElem?_eq_some_iff.1 ho
 simp
theorem insertion_c (l:List Int) (o g:Nat) (rc:RCap) (hl:l.length <= 2 ^ 31) {h:AHeap} (ho:h[o]?=some (.cells g (l.map i64))) :
  AEx PP Gl 137 [.rf o g 0 l.length rc,i64 0,i64 l.length] h (.ret (.tup [])) (h.set o (.cells g ((sortF l).map i64))):=by
 have hol:=(List.getElem?_eq_some_iff.1 ho).1
 refine enter_137 (by simp) ?_
 simp [code_137,res_137,ann_137]
 refine AWp.cnt (l.length - 1) [0,1,2] (fun i=>[(6,i64 ((i:Int)+1))]) (fun i=>h.set o (.cells g ((isortN l i).map i64))) (fun _=>True) mixed trivial (aI (by simp [dslot])) (by simp [isortN,set_same ho]) ?_ ?_
 .intro i hi _
  have hlt:(i:Int)+1 < l.length:=by omega
  simp [lp0_137,hlt]
  refine AWp.till (S:=Nat × List Int) (i+1,isortN l i) (·.1) [0,1,2,6] (fun s=>[(7,i64 s.1)]) (fun s=>h.set o (.cells g (s.2.map i64))) (fun s=>s.2.length=l.length /\ s.1 < l.length /\ sink s.1 s.2=isortN l (i+1)) mixed ⟨by simp,by simp; omega,rfl⟩ (aI (by simp [dslot])) (by simp) ?_
  rintro ⟨j,cur⟩ ⟨z1,z2,z3⟩
  simp only at z1 z2 z3
  cases j with
  | zero =>
   simp [lp1_137]
   rw [IntWalk.i64_in ((i:Int)+1+1) (by omega)]
   simp only [sink] at z3
   exact ⟨aI (by simp [dslot]),by rw [z3]⟩
  | succ j =>
   have hx:cur[j+1]?=some cur[j+1]:=by simp [z1,z2]
   have hy:cur[j]?=some (cur[j]'(by omega)):=by simp [show j < cur.length by omega]
   have hd1:cur.getD (j+1) 0=cur[j+1]:=by simp [List.getD,hx]
   have hd2:cur.getD j 0=cur[j]'(by omega):=by simp [List.getD,hy]
   generalize cur[j+1]=x at hx hd1
   generalize cur[j]'(by omega)=y at hy hd2
   have hjl:(j:Int)+1 < l.length:=by omega
   have hj1:((j:Int)+1).toNat=j+1:=by omega
   have hj0:(0:Int) < (j:Int)+1:=by omega
   have hjn:(0:Int) <= (j:Int)+1:=by omega
   have hz2:j < l.length:=by omega
   have hw:IntKind.i64.wrap (j:Int)=j:=IntWalk.i64_in _ (by omega)
   simp [lp1_137,hol,hx,hy,hj1,hj0,hjn,hjl,z2,hz2,hw]
   refine aP (less_c x y) rfl rfl ?_
   have hc1:j+1+1 <= cur.length:=by omega
   have hc2:j+1 <= cur.length:=by omega
   obtain ⟨L1,hL1⟩:∃ L1:List Int,L1=cur.set (j+1) y:=⟨_,rfl⟩
   have hl1:L1.length=cur.length:=by rw [hL1]; simp
   have hp1:List.take (j+1) (List.map i64 cur)++AV.sc (.int .i64 y) :: List.drop (j+1+1) (List.map i64 cur)=List.map i64 L1:=by
    rw [put_eq _ _ _ (by simp; omega),hL1,List.map_set]
   have hp2:List.take j (List.map i64 L1)++AV.sc (.int .i64 x) :: List.drop (j+1) (List.map i64 L1)=List.map i64 (swp cur j):=by
    rw [put_eq _ _ _ (by simp [hl1]; omega)]
    simp only [swp,hd1,hd2,hL1,List.map_set]
   have hLj:L1[j]?=some y:=by rw [hL1,List.getElem?_set_ne (by omega),hy]
   simp [hol,hx,hy,hj1,hj0,hjn,hjl,z2,hz2,hw,hc1,hc2,hp1,hp2,hl1,hLj]
   refine ⟨fun hlt2=>?_,fun hge=>?_⟩
   .refine ⟨j,by omega,swp cur j,⟨by simp [z1],hz2,?_⟩,aI (by simp [dslot]),rfl⟩
    rw [<- z3,sink,hd1,hd2,if_pos hlt2]
   .rw [IntWalk.i64_in ((i:Int)+1+1) (by omega)]
    rw [sink,hd1,hd2,if_neg (by omega)] at z3
    exact ⟨aI (by simp [dslot]),by rw [z3]⟩
 .intro _
  have hnl:¬ ((l.length - 1:Nat):Int)+1 < l.length:=by omega
  simp [lp0_137,hnl]
  exact aZ (by simp [deferred,dslot]) rfl rfl rfl
end Go.Apx
end
