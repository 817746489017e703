/- Plain law: the reference's state, what a statement does to it; the program's state agrees with it. -/
import Derived.Test.YtmgajcmigkcmdaaGreatDoorNL
set_option linter.unusedVariables false
set_option linter.unusedSimpArgs false
set_option linter.unnecessarySimpa false
section
namespace Go.Apx
open Go.Proofs Go.Shelf
structure AcR where
 cs:List ByteArray
 vs:List ByteArray
 hs:List Hy
 ap:List Pr
 d:Nat
structure RSt where
 now:AcR
 outer:List AcR
 opens:List Int
 labs:List ByteArray
 decl:List ByteArray
 flts:List Hy
def r0S:RSt:=⟨⟨[],[],[],[],0⟩,[],[],[],[],[]⟩
def actR (A:AcR) (s:ByteArray):Bool:=decide (s ∈ A.cs) || decide (s ∈ A.vs)
def Hy.code (h:Hy):ByteArray:=(h.text[0]?).getD ⟨#[]⟩
def floatR (hs:List Hy) (s:ByteArray):Bool:=hs.any fun h=>h.fl && decide (h.var=s)
def typedR:List Hy -> ByteArray -> ByteArray -> Bool
 | [],_,_=>true
 | h :: r,c,v=>if h.var=v then decide (h.code=c) else typedR r c v
def declR (k:Bool):RSt -> List ByteArray -> Int × RSt
 | r,[]=>(0,r)
 | r,s :: t=>if (actR r.now s || (k && decide (s ∈ r.decl))) || decide (s ∈ r.labs) then (61,r) else
   declR k { r with decl:=r.decl++[s],now:=if k then { r.now with cs:=r.now.cs++[s] } else { r.now with vs:=r.now.vs++[s] } } t
def formR (A:AcR):Nat -> List ByteArray -> Int
 | _,[]=>0
 | i,s :: t=>if actR A s=false then 63 else if i=0 /\ s ∉ A.cs then 64 else if i ≠ 0 /\ s ∉ A.cs /\ floatR A.hs s=false then 65 else formR A (i+1) t
def labR (r:RSt) (l:ByteArray):Bool:=decide (l ∈ r.labs) || decide (l ∈ r.decl)
def floRE (r:RSt) (c v:ByteArray):Int :=
 if actR r.now c=false then 63 else if c ∉ r.now.cs then 64 else if actR r.now v=false then 63 else if v ∈ r.now.cs then 64
 else if floatR r.now.hs v=true \/ typedR r.flts c v=false then 65 else 0
def disR (A:AcR):List ByteArray -> List ByteArray -> Int
 | _,[]=>0
 | pre,s :: t=>if actR A s=false then 63 else if s ∈ A.cs \/ s ∈ pre then 66 else disR A (pre++[s]) t
def hyO (s:St) (f:Bool):Hy:=⟨s.label,f,s.text⟩
def stepR (r:RSt) (a:Int) (s:St):Int × RSt :=
 if formF2 s=false then (2,r) else
 if s.kind=1 then (if r.now.d ≠ 0 then (60,r) else declR true r s.text) else
 if s.kind=2 then declR false r s.text else
 if s.kind=3 then (if labR r s.label=true then (62,r) else if floRE r (hyO s true).code (hyO s true).var ≠ 0 then (floRE r (hyO s true).code (hyO s true).var,r) else
  (0,{ r with labs:=r.labs++[s.label],flts:=r.flts++[hyO s true],now:={ r.now with hs:=r.now.hs++[hyO s true] } })) else
 if s.kind=4 then (if labR r s.label=true then (62,r) else if formR r.now 0 s.text ≠ 0 then (formR r.now 0 s.text,r) else
  (0,{ r with labs:=r.labs++[s.label],now:={ r.now with hs:=r.now.hs++[hyO s false] } })) else
 if s.kind=5 then (if s.text.length < 2 then (66,r) else if disR r.now [] s.text ≠ 0 then (disR r.now [] s.text,r) else
  (0,{ r with now:={ r.now with ap:=joinR r.now.ap (pairsR s.text) } })) else
 if s.kind=6 \/ s.kind=7 then (if labR r s.label=true then (62,r) else if formR r.now 0 s.text ≠ 0 then (formR r.now 0 s.text,r) else
  (0,{ r with labs:=r.labs++[s.label] })) else
 if s.kind=8 then (if 100 <= r.now.d then (9,r) else (0,{ r with outer:=r.outer++[r.now],opens:=r.opens++[a],now:={ r.now with d:=r.now.d+1 } })) else
 match r.outer[r.outer.length - 1]? with
 | some A=>(0,{ r with now:=A,outer:=r.outer.take (r.outer.length - 1),opens:=r.opens.take (r.opens.length - 1) })
 | none=>(67,r)
def runR:Nat -> RSt -> List St -> (Int × Int) ⊕ RSt
 | _,x,[]=>.inr x
 | i,x,s :: r=>if (stepR x i s).1=0 then runR (i+1) (stepR x i s).2 r else .inl (i,(stepR x i s).1)
structure Sim (x:Sx) (r:RSt):Prop where
 cs:r.now.cs=x.cs
 vs:r.now.vs=x.vs
 hs:r.now.hs=x.hs
 ap:r.now.ap=srtP x.ap
 d:r.now.d=x.d
 con:∀ s,has x.con s=decide (s ∈ x.cs)
 act:∀ s,has x.act s=decide (s ∈ x.vs)
 decl:∀ s,s ∈ r.decl ↔ s ∈ x.cs \/ has x.dec s=true
 lab:∀ s,has x.lab s=decide (s ∈ r.labs)
 flo:∀ s,has x.flo s=floatR x.hs s
 typ:∀ c v,typBad x c v=!typedR r.flts c v
 nda:(skeys x.act).Nodup
 ndf:(skeys x.flo).Nodup
 vn:x.vs.Nodup
 hn:((x.hs.filter Hy.fl).map Hy.var).Nodup
 vd:∀ v ∈ x.vs,has x.dec v=true
 cv:∀ s ∈ x.cs,s ∉ x.vs
 ol:r.outer.length=x.lv.length
 lv:∀ (i:Nat) (L:Lv) (A:AcR),x.lv[i]?=some L -> r.outer[i]?=some A -> A=⟨x.cs,x.vs.take L.nv,x.hs.take L.nh,srtP (x.ap.take L.na),i⟩
 op:r.opens=x.lv.map Lv.at_
theorem has_sset (l:List (ByteArray × Bool)) (s t:ByteArray):has (sset l s true) t=(decide (t=s) || has l t):=by
 have:sfind (sset l s true) t=if t=s then some true else sfind l t:=by
  induction l with
  | nil=>by_cases e:t=s <;> simp [sset,sfind,e]
  | cons p r ih =>
   obtain ⟨k,u⟩:=p
   simp only [sset]
   by_cases e:s=k
   .subst e
    by_cases e2:t=s <;> simp [sfind,e2]
   .simp only [if_neg e,sfind,ih]
    by_cases e2:t=k
    .subst e2; simp [Ne.symm e]
    .simp [e2]
 simp only [has,this]
 by_cases e:t=s <;> simp [e]
theorem actR_sim {x:Sx} {r:RSt} (h:Sim x r) (s:ByteArray):actR r.now s=(has x.con s || has x.act s):=by
 rw [h.con,h.act,actR,h.cs,h.vs]
theorem sim_con:∀ (l:List ByteArray) (x:Sx) (r:RSt),Sim x r -> x.lv=[] -> (declR true r l).1=(conLoop x l).1 /\ ((conLoop x l).1=0 -> Sim (conLoop x l).2 (declR true r l).2)
 | [],x,r,h,_=>⟨rfl,fun _=>h⟩
 | s :: t,x,r,h,hl=>by
  have hg:((actR r.now s || (true && decide (s ∈ r.decl))) || decide (s ∈ r.labs))=(has x.con s || (has x.dec s || has x.lab s)):=by
   rw [actR_sim h,h.lab,Bool.true_and]
   have e1:decide (s ∈ r.decl)=(has x.con s || has x.dec s):=by rw [h.con,decide_eq_decide.2 (h.decl s),Bool.decide_or,Bool.decide_eq_true]
   rw [e1]
   have e2:has x.act s=true -> has x.dec s=true:=fun e=>h.vd s (by rw [h.act] at e; exact of_decide_eq_true e)
   cases has x.con s <;> cases ha:has x.act s <;> cases hd:has x.dec s <;> simp
   exact absurd (e2 ha) (by rw [hd]; simp)
  simp only [declR,conLoop,hg]
  by_cases e:(has x.con s || (has x.dec s || has x.lab s))=true
  .rw [if_pos e,if_pos e]; exact ⟨rfl,fun e=>by simp at e⟩
  rw [if_neg e,if_neg e]
  simp only [if_true]
  simp only [Bool.or_eq_true,not_or,Bool.not_eq_true] at e
  obtain ⟨e1,e2,e3⟩:=e
  refine sim_con t _ _ ?_ hl
  have hnv:s ∉ x.vs:=fun hm=>by have:=h.vd s hm; rw [e2] at this; cases this
  exact
   {cs:=by simp [h.cs]
    vs:=h.vs
    hs:=h.hs
    ap:=h.ap
    d:=h.d
    con:=fun u=>by simp only [has_sset,h.con,List.mem_append,List.mem_singleton]; by_cases eu:u=s <;> simp [eu]
    act:=h.act
    decl:=fun u=>by simp only [List.mem_append,List.mem_singleton,h.decl]; constructor <;> rintro ((a | a) | a) <;> simp [a]
    lab:=h.lab
    flo:=h.flo
    typ:=h.typ
    nda:=h.nda
    ndf:=h.ndf
    vn:=h.vn
    hn:=h.hn
    vd:=h.vd
    cv:=fun u hu=>by
     rcases List.mem_append.1 hu with hu | hu
     .exact h.cv u hu
     .obtain rfl:=List.mem_singleton.1 hu; exact hnv
    ol:=h.ol
    lv:=fun i L A hL _=>by simp [hl] at hL
    op:=h.op }
theorem sim_var:∀ (l:List ByteArray) (x:Sx) (r:RSt),Sim x r -> (∀ L ∈ x.lv,L.nv <= x.vs.length) -> (declR false r l).1=(varLoop x l).1 /\ ((varLoop x l).1=0 -> Sim (varLoop x l).2 (declR false r l).2)
 | [],x,r,h,_=>⟨rfl,fun _=>h⟩
 | s :: t,x,r,h,hl=>by
  have hg:((actR r.now s || (false && decide (s ∈ r.decl))) || decide (s ∈ r.labs))=(has x.con s || (has x.act s || has x.lab s)):=by
   rw [actR_sim h,h.lab,Bool.false_and,Bool.or_false,Bool.or_assoc]
  simp only [declR,varLoop,hg]
  by_cases e:(has x.con s || (has x.act s || has x.lab s))=true
  .rw [if_pos e,if_pos e]; exact ⟨rfl,fun e=>by simp at e⟩
  rw [if_neg e,if_neg e]
  simp only [Bool.false_eq_true,if_false]
  simp only [Bool.or_eq_true,not_or,Bool.not_eq_true] at e
  obtain ⟨e1,e2,e3⟩:=e
  have hnc:s ∉ x.cs:=fun hm=>by rw [h.con,decide_eq_true hm] at e1; cases e1
  have hnv:s ∉ x.vs:=fun hm=>by rw [h.act,decide_eq_true hm] at e2; cases e2
  refine sim_var t _ _ ?_ (fun L hL=>by have:=hl L hL; simp; omega)
  exact
   {cs:=h.cs
    vs:=by simp [h.vs]
    hs:=h.hs
    ap:=h.ap
    d:=h.d
    con:=h.con
    act:=fun u=>by simp only [has_sset,h.act,List.mem_append,List.mem_singleton]; by_cases eu:u=s <;> simp [eu]
    decl:=fun u=>by
     simp only [List.mem_append,List.mem_singleton,h.decl,has_sset,Bool.or_eq_true,decide_eq_true_eq]
     constructor
     .rintro ((a | a) | a) <;> simp [a]
     .rintro (a | a | a) <;> simp [a]
    lab:=h.lab
    flo:=h.flo
    typ:=h.typ
    nda:=nodup_sset h.nda _ _
    ndf:=h.ndf
    vn:=by
     simp only
     rw [List.nodup_append]
     exact ⟨h.vn,by simp,fun a ha b hb=>by obtain rfl:=List.mem_singleton.1 hb; rintro rfl; exact hnv ha⟩
    hn:=h.hn
    vd:=fun v hv=>by
     rw [has_sset]
     rcases List.mem_append.1 hv with hv | hv
     .rw [h.vd v hv,Bool.or_true]
     .obtain rfl:=List.mem_singleton.1 hv; simp
    cv:=fun u hu hm=>by
     rcases List.mem_append.1 hm with hm | hm
     .exact h.cv u hu hm
     .obtain rfl:=List.mem_singleton.1 hm; exact hnc hu
    ol:=h.ol
    lv:=fun i L A hL hA=>by
     have:=h.lv i L A hL hA
     have hle:=hl L (List.mem_of_getElem? hL)
     rw [this,List.take_append_of_le_length hle]
    op:=h.op }
theorem sim_form {x:Sx} {r:RSt} (h:Sim x r):∀ (l:List ByteArray) (i:Nat),formR r.now i l=formF x i l
 | [],_=>rfl
 | s :: t,i=>by
  have e3:s ∉ r.now.cs ↔ has x.con s=false:=by rw [h.con,h.cs]; simp
  simp only [formR,formF,actR_sim h,sim_form h t (i+1),h.hs,<- h.flo,e3]
  by_cases e:(has x.con s || has x.act s)=false
  .rw [if_pos e,if_pos e]
  rw [if_neg e,if_neg e]
  by_cases e1:i=0 /\ has x.con s=false
  .rw [if_pos e1,if_pos e1]
  rw [if_neg e1,if_neg e1]
  have e4:has x.con s=false ↔ has x.act s=true:=by
   constructor
   .intro a; cases b:has x.act s with
    | true=>rfl
    | false=>exact (e (by rw [a,b]; rfl)).elim
   .intro a
    rw [h.act] at a
    cases b:has x.con s with
    | false=>rfl
    | true=>rw [h.con] at b; exact (h.cv s (of_decide_eq_true b) (of_decide_eq_true a)).elim
  simp only [e4]
theorem sim_dis {x:Sx} {r:RSt} (h:Sim x r):∀ (l pre:List ByteArray),disR r.now pre l=disLoop x pre l
 | [],_=>rfl
 | s :: t,pre=>by
  simp only [disR,disLoop,actR_sim h,sim_dis h t]
  by_cases e:(has x.con s || has x.act s)=false
  .rw [if_pos e,if_pos e]
  rw [if_neg e,if_neg e]
  have e4:s ∈ r.now.cs ↔ has x.act s=false:=by
   rw [h.cs]
   constructor
   .intro a; cases b:has x.act s with
    | false=>rfl
    | true=>rw [h.act] at b; exact (h.cv s a (of_decide_eq_true b)).elim
   .intro a
    cases b:has x.con s with
    | true=>rw [h.con] at b; exact of_decide_eq_true b
    | false=>exact (e (by rw [a,b]; rfl)).elim
  simp only [e4]
theorem sim_lab {x:Sx} {r:RSt} (h:Sim x r) (l:ByteArray):labR r l=labF2 x l:=by
 unfold labR labF2
 rw [h.lab,decide_eq_decide.2 (h.decl l),h.con,Bool.decide_or,Bool.decide_eq_true,Bool.or_assoc]
theorem sim_addlab {x:Sx} {r:RSt} (h:Sim x r) (l:ByteArray):Sim (labX x l) { r with labs:=r.labs++[l] } :=
 {h with lab:=fun s=>by simp only [labX,has_sset,h.lab,List.mem_append,List.mem_singleton]; by_cases e:s=l <;> simp [e] }
theorem floatR_app (a b:List Hy) (s:ByteArray):floatR (a++b) s=(floatR a s || floatR b s):=by simp [floatR]
theorem sim_addhyp {x:Sx} {r:RSt} (h:Sim x r) (e:Hy) (he:e.fl=false) (hl:∀ L ∈ x.lv,L.nh <= x.hs.length):Sim { x with hs:=x.hs++[e] } { r with now:={ r.now with hs:=r.now.hs++[e] } } :=
 {h with
  hs:=by simp [h.hs]
  flo:=fun s=>by simp only [floatR_app,h.flo]; simp [floatR,he]
  hn:=by simp only [List.filter_append]; simp [he]; exact h.hn
  lv:=fun i L A hL hA=>by
   rw [h.lv i L A hL hA,List.take_append_of_le_length (hl L (List.mem_of_getElem? hL))] }
theorem floatR_iff {hs:List Hy} {s:ByteArray}:floatR hs s=true ↔ s ∈ (hs.filter Hy.fl).map Hy.var:=by
 simp [floatR,List.any_eq_true]
 constructor
 .rintro ⟨h,h1,h2,h3⟩; exact ⟨h,⟨h1,h2⟩,h3⟩
 .rintro ⟨h,⟨h1,h2⟩,h3⟩; exact ⟨h,h1,h2,h3⟩
theorem typedR_app:∀ (l:List Hy) (e:Hy) (c v:ByteArray),typedR (l++[e]) c v=if l.any (fun h=>decide (h.var=v)) then typedR l c v else if e.var=v then decide (e.code=c) else true
 | [],e,c,v=>by simp [typedR]
 | h :: l,e,c,v=>by
  simp only [List.cons_append,typedR,List.any_cons]
  by_cases g:h.var=v
  .simp [g]
  .simp only [if_neg g,typedR_app l e c v]; simp [g]
end Go.Apx
end
section
namespace Go.Apx
open Go.Proofs Go.Shelf
theorem typedR_no:∀ {l:List Hy} {v:ByteArray},l.any (fun h=>decide (h.var=v))=false -> ∀ c,typedR l c v=true
 | [],v,_,c=>rfl
 | h :: l,v,e,c=>by
  simp only [List.any_cons,Bool.or_eq_false_iff,decide_eq_false_iff_not] at e
  simp only [typedR,if_neg e.1]
  exact typedR_no e.2 c
theorem typedR_same:∀ {l:List Hy} {v c:ByteArray},typedR l c v=true -> l.any (fun h=>decide (h.var=v))=true -> ∀ c',typedR l c' v=decide (c=c')
 | [],v,c,_,e,c'=>by simp at e
 | h :: l,v,c,e,e',c'=>by
  by_cases g:h.var=v
  .simp only [typedR,if_pos g,decide_eq_true_eq] at e ⊢
   rw [e]
  .simp only [typedR,if_neg g] at e ⊢
   simp only [List.any_cons,decide_eq_false g,Bool.false_or] at e'
   exact typedR_same e e' c'
theorem sim_floE {x:Sx} {r:RSt} (h:Sim x r) (c v:ByteArray):floRE r c v=floE x c v:=by
 have e1:∀ s,s ∉ r.now.cs ↔ has x.con s=false:=fun s=>by rw [h.con,h.cs]; simp
 unfold floRE floE
 rw [actR_sim h,actR_sim h,h.hs,<- h.flo]
 have e2:typedR r.flts c v=false ↔ typBad x c v=true:=by rw [h.typ]; simp
 simp only [e1,e2]
 by_cases g1:(has x.con c || has x.act c)=false
 .rw [if_pos g1,if_pos g1]
 rw [if_neg g1,if_neg g1]
 by_cases g2:has x.con c=false
 .rw [if_pos g2,if_pos g2]
 rw [if_neg g2,if_neg g2]
 by_cases g3:(has x.con v || has x.act v)=false
 .rw [if_pos g3,if_pos g3]
 rw [if_neg g3,if_neg g3]
 have e4:v ∈ r.now.cs ↔ has x.act v=false:=by
  rw [h.cs]
  constructor
  .intro a; cases b:has x.act v with
   | false=>rfl
   | true=>rw [h.act] at b; exact (h.cv v a (of_decide_eq_true b)).elim
  .intro a
   cases b:has x.con v with
   | true=>rw [h.con] at b; exact of_decide_eq_true b
   | false=>exact (g3 (by rw [a,b]; rfl)).elim
 simp only [e4]
theorem sim_flo {x:Sx} {r:RSt} (h:Sim x r) (s:St) (c v:ByteArray) (ht:s.text=[c,v]) (hE:floE x c v=0) (hl:∀ L ∈ x.lv,L.nh <= x.hs.length) :
  Sim (floX x s c v) { r with labs:=r.labs++[s.label],flts:=r.flts++[hyO s true],now:={ r.now with hs:=r.now.hs++[hyO s true] } }:=by
 have ehy:hyO s true=⟨s.label,true,[c,v]⟩:=by unfold hyO; rw [ht]
 have ev:(hyO s true).var=v:=by rw [ehy]; rfl
 have ec:(hyO s true).code=c:=by rw [ehy]; rfl
 have ef:(hyO s true).fl=true:=rfl
 have hF:has x.flo v=false /\ typBad x c v=false:=by
  unfold floE at hE
  split at hE
  .simp at hE
  split at hE
  .simp at hE
  split at hE
  .simp at hE
  split at hE
  .simp at hE
  split at hE
  .simp at hE
  rename_i g
  simpa using g
 have hT:typedR r.flts c v=true:=by have:=h.typ c v; rw [hF.2] at this; simpa using this.symm
 have h2:=sim_addlab h s.label
 refine { h2 with hs:=?_,flo:=?_,typ:=?_,ndf:=?_,hn:=?_,lv:=?_ }
 .simp only [floX,labX,h.hs,ehy]
 .intro u
  simp only [floX,labX,has_sset,floatR_app,h.flo]
  rw [<- ehy,Bool.or_comm]
  simp [floatR,ev,ef,eq_comm]
 .intro c' v'
  have hb:typBad (floX x s c v) c' v'=if v'=v then decide (c ≠ c') else typBad x c' v':=by
   unfold typBad
   simp only [floX,labX,sfind_sset]
   by_cases e:v'=v
   .rw [if_pos e,if_pos e]
   .rw [if_neg e,if_neg e]
  rw [hb,typedR_app,ev,ec]
  by_cases e:v'=v
  .subst e
   rw [if_pos rfl,if_pos rfl]
   cases ha:r.flts.any (fun h=>decide (h.var=v')) with
   | true=>rw [if_pos rfl,typedR_same hT ha]; simp
   | false=>simp
  .rw [if_neg e,if_neg (Ne.symm e),h.typ]
   cases ha:r.flts.any (fun h=>decide (h.var=v')) with
   | true=>simp
   | false=>rw [typedR_no ha]; simp
 .exact nodup_sset h.ndf _ _
 .simp only [floX,labX,List.filter_append,List.map_append]
  rw [List.nodup_append]
  refine ⟨h.hn,by simp,fun a ha b hb=>?_⟩
  have hb':b=v:=by simpa [Hy.var] using hb
  rintro rfl
  subst hb'
  have:=floatR_iff.2 ha
  rw [<- h.flo,hF.1] at this
  cases this
 .intro i L A hL hA
  have:=h.lv i L A hL hA
  simp only [floX,labX] at *
  rw [this,List.take_append_of_le_length (hl L (List.mem_of_getElem? hL))]
theorem has_delL:∀ (l:List ByteArray) (m:List (ByteArray × Bool)) (s:ByteArray),(skeys m).Nodup -> has (delL m l) s=(decide (s ∉ l) && has m s)
 | [],m,s,_=>by simp [delL]
 | t :: l,m,s,hn=>by
  have:=has_delL l (sdel m t) s (nodup_sdel hn t)
  unfold delL at this ⊢
  rw [List.foldl_cons,this]
  simp only [has,sfind_sdel hn]
  by_cases e:s=t <;> simp [e]
theorem nd_delL:∀ (l:List ByteArray) (m:List (ByteArray × Bool)),(skeys m).Nodup -> (skeys (delL m l)).Nodup
 | [],m,hn=>hn
 | t :: l,m,hn=>nd_delL l (sdel m t) (nodup_sdel hn t)
theorem delH_eq:∀ (l:List Hy) (m:List (ByteArray × Bool)),delH m l=delL m ((l.filter Hy.fl).map Hy.var)
 | [],m=>rfl
 | h :: l,m=>by
  have:=fun m=>delH_eq l m
  unfold delH delL at this ⊢
  rw [List.foldl_cons]
  cases e:h.fl with
  | true=>simp only [if_true,List.filter_cons_of_pos e,List.map_cons,List.foldl_cons]; exact this _
  | false=>simp only [Bool.false_eq_true,if_false,List.filter_cons_of_neg (show ¬ h.fl=true by rw [e]; simp)]; exact this _
theorem mem_take_iff {l:List ByteArray} (hn:l.Nodup) (n:Nat) (s:ByteArray):s ∈ l.take n ↔ s ∉ l.drop n /\ s ∈ l:=by
 have hap:=List.take_append_drop n l
 rw [<- hap,List.nodup_append] at hn
 constructor
 .intro h; exact ⟨fun h'=>hn.2.2 s h s h' rfl,List.mem_of_mem_take h⟩
 .rintro ⟨h,h'⟩
  rw [<- hap] at h'
  exact (List.mem_append.1 h').resolve_right h
theorem sim_close {x:Sx} {r:RSt} (h:Sim x r) {n:Nat} (xi:XI x n) {k:Nat} {L:Lv} (hd:x.d=k+1) (hL:x.lv[k]?=some L) :
  ∃ A,r.outer[k]?=some A /\ r.outer.length=k+1 /\ Sim (closeX x k L) { r with now:=A,outer:=r.outer.take k,opens:=r.opens.take (r.opens.length - 1) }:=by
 have hlen:x.lv.length=k+1:=by rw [xi.ok.len,hd]
 have hol:r.outer.length=k+1:=by rw [h.ol,hlen]
 obtain ⟨A,hA⟩:∃ A,r.outer[k]?=some A:=⟨r.outer[k]'(by omega),by simp⟩
 have eA:=h.lv k L A hL hA
 have hfl:∀ u,has (closeX x k L).flo u=floatR (closeX x k L).hs u:=fun u=>by
  simp only [closeX,delH_eq]
  rw [has_delL _ _ _ h.ndf,h.flo]
  have hap:x.hs.filter Hy.fl=(x.hs.take L.nh).filter Hy.fl++(x.hs.drop L.nh).filter Hy.fl:=by rw [<- List.filter_append,List.take_append_drop]
  have hn:=h.hn
  rw [hap,List.map_append,List.nodup_append] at hn
  rw [Bool.eq_iff_iff,Bool.and_eq_true,decide_eq_true_eq,floatR_iff,floatR_iff,hap,List.map_append,List.mem_append]
  constructor
  .rintro ⟨h1,h2 | h2⟩
   .exact h2
   .exact (h1 h2).elim
  .intro h2
   exact ⟨fun h1=>hn.2.2 u h2 u h1 rfl,.inl h2⟩
 refine ⟨A,hA,hol,?_⟩
 subst eA
 exact
  {cs:=rfl
   vs:=rfl
   hs:=rfl
   ap:=rfl
   d:=rfl
   con:=h.con
   act:=fun u=>by
    simp only [closeX]
    rw [has_delL _ _ _ h.nda,h.act,<- Bool.decide_and]
    exact decide_eq_decide.2 (mem_take_iff h.vn _ _).symm
   decl:=h.decl
   lab:=h.lab
   flo:=hfl
   typ:=h.typ
   nda:=nd_delL _ _ h.nda
   ndf:=by simp only [closeX,delH_eq]; exact nd_delL _ _ h.ndf
   vn:=h.vn.sublist (List.take_sublist _ _)
   hn:=h.hn.sublist (((List.take_sublist _ _).filter _).map _)
   vd:=fun v hv=>h.vd v (List.mem_of_mem_take hv)
   cv:=fun s hs hm=>h.cv s hs (List.mem_of_mem_take hm)
   ol:=by simp [closeX,h.ol]
   lv:=fun i M A' hM hA'=>by
    simp only [closeX] at hM ⊢
    simp only at hA'
    have hi:i < k:=by have:=(List.getElem?_eq_some_iff.1 hM).1; rw [List.length_take] at this; omega
    rw [List.getElem?_take,if_pos hi] at hM hA'
    rw [h.lv i M A' hM hA']
    have ho:=List.pairwise_iff_getElem.1 xi.ord i k (by omega) (by omega) hi
    obtain ⟨_,rfl⟩:=List.getElem?_eq_some_iff.1 hM
    obtain ⟨_,rfl⟩:=List.getElem?_eq_some_iff.1 hL
    rw [List.take_take,List.take_take,List.take_take,Nat.min_eq_left ho.1,Nat.min_eq_left ho.2.1,Nat.min_eq_left ho.2.2]
   op:=by simp only [closeX,h.op,List.length_map,hlen,Nat.add_sub_cancel,List.map_take] }
theorem sim_step {x:Sx} {r:RSt} (h:Sim x r) {n:Nat} (xi:XI x n) (a:Int) (s:St):(stepR r a s).1=(stepX x a s).1 /\ ((stepX x a s).1=0 -> Sim (stepX x a s).2 (stepR r a s).2):=by
 unfold stepR stepX
 by_cases hf:formF2 s=false
 .rw [if_pos hf,if_pos hf]; exact ⟨rfl,fun e=>by simp at e⟩
 rw [if_neg hf,if_neg hf]
 have hlen:=formF2_len (by simpa using hf)
 by_cases e1:s.kind=1
 .rw [if_pos e1,if_pos e1,h.d]
  unfold conF
  by_cases e:x.d ≠ 0
  .rw [if_pos e,if_pos e]; exact ⟨rfl,fun e=>by simp at e⟩
  .rw [if_neg e,if_neg e]
   exact sim_con _ _ _ h (List.eq_nil_of_length_eq_zero (by rw [xi.ok.len]; omega))
 rw [if_neg e1,if_neg e1]
 by_cases e2:s.kind=2
 .rw [if_pos e2,if_pos e2]
  exact sim_var _ _ _ h fun L hL=>(xi.ok.le L hL).1
 rw [if_neg e2,if_neg e2]
 by_cases e3:s.kind=3
 .rw [if_pos e3,if_pos e3]
  have l1:(frow 3).2.2.1=2:=by decide
  have l2:(frow 3).2.2.2=2:=by decide
  rw [show s.kind.toNat=3 by omega,l1,l2] at hlen
  obtain ⟨c,v,ht⟩:∃ c v,s.text=[c,v]:=by
   match hx:s.text,hlen with
   | [c,v],_=>exact ⟨c,v,rfl⟩
  have ec:(hyO s true).code=c:=by unfold hyO Hy.code; rw [ht]; rfl
  have ev:(hyO s true).var=v:=by unfold hyO Hy.var; rw [ht]; rfl
  have gc:s.text.getD 0 ⟨#[]⟩=c:=by rw [ht]; rfl
  have gv:s.text.getD 1 ⟨#[]⟩=v:=by rw [ht]; rfl
  rw [ec,ev,gc,gv,sim_lab h,sim_floE h]
  unfold floF
  by_cases e:labF2 x s.label=true
  .rw [if_pos e,if_pos e]; exact ⟨rfl,fun e=>by simp at e⟩
  rw [if_neg e,if_neg e]
  by_cases g:floE x c v ≠ 0
  .rw [if_pos g,if_pos g]; exact ⟨rfl,fun e=>(g e).elim⟩
  rw [if_neg g,if_neg g]
  exact ⟨rfl,fun _=>sim_flo h s c v ht (by simpa using g) fun L hL=>(xi.ok.le L hL).2.1⟩
 rw [if_neg e3,if_neg e3]
 have hform:formR r.now 0 s.text=formF (labX x s.label) 0 s.text:=sim_form (sim_addlab h s.label) s.text 0
 by_cases e4:s.kind=4
 .rw [if_pos e4,if_pos e4,sim_lab h,hform]
  unfold essF
  by_cases e:labF2 x s.label=true
  .rw [if_pos e,if_pos e]; exact ⟨rfl,fun e=>by simp at e⟩
  rw [if_neg e,if_neg e]
  by_cases g:formF (labX x s.label) 0 s.text ≠ 0
  .rw [if_pos g,if_pos g]; exact ⟨rfl,fun e=>(g e).elim⟩
  rw [if_neg g,if_neg g]
  exact ⟨rfl,fun _=>sim_addhyp (sim_addlab h s.label) (hyO s false) rfl fun L hL=>(xi.ok.le L hL).2.1⟩
 rw [if_neg e4,if_neg e4]
 by_cases e5:s.kind=5
 .rw [if_pos e5,if_pos e5,sim_dis h]
  unfold disF
  by_cases e:s.text.length < 2
  .rw [if_pos e,if_pos e]; exact ⟨rfl,fun e=>by simp at e⟩
  rw [if_neg e,if_neg e]
  by_cases g:disLoop x [] s.text ≠ 0
  .rw [if_pos g,if_pos g]; exact ⟨rfl,fun e=>(g e).elim⟩
  rw [if_neg g,if_neg g]
  refine ⟨rfl,fun _=>{ h with ap:=?_,lv:=?_ }⟩
  .simp only
   rw [h.ap,<- pairs_eq,<- join_eq]
   refine asc_unique (lt:=ltP) ltP_irrefl (fun _ _=>ltP_asymm) (srtP_strict _) (srtP_strict _) fun p=>?_
   rw [srtP_mem,srtP_mem,List.mem_append,List.mem_append,srtP_mem]
  .intro i L A hL hA
   rw [h.lv i L A hL hA,List.take_append_of_le_length (xi.ok.le L (List.mem_of_getElem? hL)).2.2]
 rw [if_neg e5,if_neg e5]
 by_cases e6:s.kind=6 \/ s.kind=7
 .rw [if_pos e6,if_pos e6,sim_lab h,hform]
  unfold assF
  by_cases e:labF2 x s.label=true
  .rw [if_pos e,if_pos e]; exact ⟨rfl,fun e=>by simp at e⟩
  rw [if_neg e,if_neg e]
  by_cases g:formF (labX x s.label) 0 s.text ≠ 0
  .rw [if_pos g]; exact ⟨rfl,fun e=>(g e).elim⟩
  rw [if_neg g]
  exact ⟨by simpa using Eq.symm (Decidable.not_not.1 g),fun _=>sim_addlab h s.label⟩
 rw [if_neg e6,if_neg e6]
 by_cases e8:s.kind=8
 .rw [if_pos e8,if_pos e8,h.d]
  unfold openF
  by_cases e:100 <= x.d
  .rw [if_pos e,if_pos e]; exact ⟨rfl,fun e=>by simp at e⟩
  rw [if_neg e,if_neg e]
  refine ⟨rfl,fun _=>{ h with d:=by simp,ol:=by simp [h.ol],lv:=?_,op:=by simp [h.op] }⟩
  intro i L A hL hA
  simp only at hL hA ⊢
  rcases Nat.lt_or_ge i x.lv.length with hi | hi
  .rw [List.getElem?_append_left hi] at hL
   rw [List.getElem?_append_left (by rw [h.ol]; exact hi)] at hA
   exact h.lv i L A hL hA
  .rw [List.getElem?_append_right hi] at hL
   rw [List.getElem?_append_right (by rw [h.ol]; exact hi)] at hA
   have hi0:i - x.lv.length=0:=by have:=(List.getElem?_eq_some_iff.1 hL).1; simp at this; omega
   have hil:i=x.d:=by rw [<- xi.ok.len]; omega
   rw [hi0] at hL
   rw [h.ol,hi0] at hA
   simp only [List.getElem?_cons_zero,Option.some.injEq] at hL hA
   subst hL hA
   rw [List.take_length,List.take_length,List.take_length,<- h.cs,<- h.vs,<- h.hs,<- h.ap,hil,<- h.d]
 rw [if_neg e8,if_neg e8]
 unfold closeF
 by_cases e:x.d=0
 .rw [if_pos e]
  have:r.outer=[]:=List.eq_nil_of_length_eq_zero (by rw [h.ol,xi.ok.len,e])
  rw [this]
  exact ⟨rfl,fun e=>by simp at e⟩
 rw [if_neg e]
 obtain ⟨k,hk⟩:∃ k,x.d=k+1:=⟨x.d - 1,by omega⟩
 obtain ⟨L,hL⟩:∃ L,x.lv[k]?=some L:=⟨x.lv[k]'(by rw [xi.ok.len]; omega),by simp⟩
 obtain ⟨A,hA,hl,hS⟩:=sim_close h xi hk hL
 rw [hk,hl,Nat.add_sub_cancel,hL,hA]
 exact ⟨rfl,fun _=>hS⟩
theorem sim0:Sim x0 r0S :=
 {cs:=rfl,vs:=rfl,hs:=rfl,ap:=(List.eq_nil_of_length_eq_zero (Nat.le_zero.1 (srtP_len []))).symm,d:=rfl,con:=fun _=>rfl,act:=fun _=>rfl,decl:=fun _=>by simp [r0S,x0,has,sfind],lab:=fun _=>rfl,flo:=fun _=>rfl,typ:=fun _ _=>rfl
  nda:=by simp [x0,skeys],ndf:=by simp [x0,skeys],vn:=by simp [x0],hn:=by simp [x0],vd:=fun _ h=>by simp [x0] at h,cv:=fun _ h=>by simp [x0] at h,ol:=rfl,lv:=fun _ _ _ h=>by simp [x0] at h,op:=rfl }
theorem sim_run:∀ (l:List St) (x:Sx) (r:RSt) (n i:Nat),Sim x r -> XI x n -> (∀ s ∈ l,Sm s) ->
  (∃ a e,runF i x l=.inl (a,e) /\ runR i r l=.inl (a,e)) \/ ∃ y q,runF i x l=.inr y /\ runR i r l=.inr q /\ Sim y q /\ XI y (n+l.length)
 | [],x,r,n,i,h,xi,sm=>.inr ⟨x,r,rfl,rfl,h,xi⟩
 | s :: l,x,r,n,i,h,xi,sm=>by
  obtain ⟨h1,h2⟩:=sim_step h xi i s
  simp only [runF,runR,h1]
  by_cases e:(stepX x i s).1=0
  .rw [if_pos e,if_pos e]
   have:=sim_run l _ _ (n+1) (i+1) (h2 e) (xi_step x i s (sm s (by simp)) xi e) fun t ht=>sm t (by simp [ht])
   rw [show n+1+l.length=n+(s :: l).length by simp; omega] at this
   exact this
  .rw [if_neg e,if_neg e]
   exact .inl ⟨_,_,rfl,rfl⟩
end Go.Apx
end
section
namespace Go.Apx
open Go.Proofs Go.Shelf
structure RInvA (labs decl:List ByteArray) (A:AcR):Prop where
 cd:∀ s ∈ A.cs,s ∈ decl
 vd:∀ s ∈ A.vs,s ∈ decl
 hl:∀ h ∈ A.hs,h.label ∈ labs
 ft:∀ h ∈ A.hs,h.fl=true -> ∃ c v,h.text=[c,v] /\ c ∈ A.cs /\ v ∈ A.vs
 fn:((A.hs.filter Hy.fl).map Hy.var).Nodup
 ap:∀ p ∈ A.ap,ltB p.1 p.2=true /\ p.1 ∈ A.vs /\ p.2 ∈ A.vs
structure RInv (r:RSt):Prop where
 now:RInvA r.labs r.decl r.now
 out:∀ A ∈ r.outer,RInvA r.labs r.decl A
 dl:∀ s ∈ r.decl,s ∉ r.labs
 d:r.now.d=r.outer.length
 od:∀ (i:Nat) (A:AcR),r.outer[i]?=some A -> A.d=i
 op:r.opens.length=r.outer.length
theorem RInvA.mono {l l' e e':List ByteArray} {A:AcR} (h:RInvA l e A) (hl:∀ s ∈ l,s ∈ l') (he:∀ s ∈ e,s ∈ e'):RInvA l' e' A :=
 {h with cd:=fun s hs=>he s (h.cd s hs),vd:=fun s hs=>he s (h.vd s hs),hl:=fun x hx=>hl _ (h.hl x hx) }
theorem rinv0:RInv r0S:=⟨⟨by simp [r0S],by simp [r0S],by simp [r0S],by simp [r0S],by simp [r0S],by simp [r0S]⟩,by simp [r0S],by simp [r0S],rfl,by simp [r0S],rfl⟩
theorem inv_decl (k:Bool):∀ (l:List ByteArray) (r:RSt),RInv r -> (declR k r l).1=0 -> RInv (declR k r l).2 /\ (declR k r l).2.outer=r.outer
 | [],r,h,_=>⟨h,rfl⟩
 | s :: t,r,h,e=>by
  simp only [declR] at e ⊢
  by_cases g:((actR r.now s || (k && decide (s ∈ r.decl))) || decide (s ∈ r.labs))=true
  .rw [if_pos g] at e; simp at e
  rw [if_neg g] at e ⊢
  have hsl:s ∉ r.labs:=by intro hm; exact g (by simp [hm])
  have hm:∀ u ∈ r.decl,u ∈ r.decl++[s]:=fun u hu=>List.mem_append_left _ hu
  have:=inv_decl k t { r with decl:=r.decl++[s],now:=if k then { r.now with cs:=r.now.cs++[s] } else { r.now with vs:=r.now.vs++[s] } }
   {now:=by
     have hA:=h.now.mono (fun _ hs=>hs) hm
     cases k with
     | true =>
      exact { hA with
       cd:=fun u hu=>by
        rcases List.mem_append.1 hu with hu | hu
        .exact hA.cd u hu
        .exact List.mem_append_right _ hu
       ft:=fun x hx hf=>by
        obtain ⟨c,v,h1,h2,h3⟩:=hA.ft x hx hf
        exact ⟨c,v,h1,List.mem_append_left _ h2,h3⟩ }
     | false =>
      exact { hA with
       vd:=fun u hu=>by
        rcases List.mem_append.1 hu with hu | hu
        .exact hA.vd u hu
        .exact List.mem_append_right _ hu
       ft:=fun x hx hf=>by
        obtain ⟨c,v,h1,h2,h3⟩:=hA.ft x hx hf
        exact ⟨c,v,h1,h2,List.mem_append_left _ h3⟩
       ap:=fun p hp=>by
        obtain ⟨h1,h2,h3⟩:=hA.ap p hp
        exact ⟨h1,List.mem_append_left _ h2,List.mem_append_left _ h3⟩ }
    out:=fun A hA=>(h.out A hA).mono (fun _ hs=>hs) hm
    dl:=fun u hu=>by
     rcases List.mem_append.1 hu with hu | hu
     .exact h.dl u hu
     .obtain rfl:=List.mem_singleton.1 hu; exact hsl
    d:=by cases k <;> exact h.d
    od:=h.od
    op:=h.op } e
  exact this
theorem inv_lab {r:RSt} (h:RInv r) (l:ByteArray) (hl:labR r l ≠ true):RInv { r with labs:=r.labs++[l] } :=
 have hm:∀ u ∈ r.labs,u ∈ r.labs++[l]:=fun u hu=>List.mem_append_left _ hu
 {now:=h.now.mono hm fun _ h=>h
  out:=fun A hA=>(h.out A hA).mono hm fun _ h=>h
  dl:=fun u hu hmem=>by
   rcases List.mem_append.1 hmem with hu' | hu'
   .exact h.dl u hu hu'
   .obtain rfl:=List.mem_singleton.1 hu'
    exact hl (by simp [labR,hu])
  d:=h.d,od:=h.od,op:=h.op }
theorem inv_hyp {r:RSt} (h:RInv r) (e:Hy) (f:List Hy) (hl:e.label ∈ r.labs) (ht:e.fl=true -> floatR r.now.hs e.var=false /\ ∃ c v,e.text=[c,v] /\ c ∈ r.now.cs /\ v ∈ r.now.vs) :
  RInv { r with flts:=f,now:={ r.now with hs:=r.now.hs++[e] } } :=
 {h with now:={ h.now with
   hl:=fun x hx=>by
    rcases List.mem_append.1 hx with hx | hx
    .exact h.now.hl x hx
    .obtain rfl:=List.mem_singleton.1 hx; exact hl
   ft:=fun x hx hf=>by
    rcases List.mem_append.1 hx with hx | hx
    .exact h.now.ft x hx hf
    .obtain rfl:=List.mem_singleton.1 hx; exact (ht hf).2
   fn:=by
    simp only [List.filter_append,List.map_append]
    cases ef:e.fl with
    | false=>simp [ef]; exact h.now.fn
    | true =>
     rw [List.nodup_append]
     refine ⟨h.now.fn,by simp [ef],fun a ha b hb=>?_⟩
     have hb':b=e.var:=by simpa [ef] using hb
     rintro rfl
     have:=floatR_iff.2 ha
     rw [hb',(ht ef).1] at this
     cases this } }
theorem disR_ok (A:AcR):∀ (l pre:List ByteArray),disR A pre l=0 -> ∀ s ∈ l,s ∈ A.vs
 | [],_,_,s,hs=>by cases hs
 | u :: t,pre,e,s,hs=>by
  simp only [disR] at e
  split at e
  .simp at e
  rename_i g1
  split at e
  .simp at e
  rename_i g2
  rcases List.mem_cons.1 hs with rfl | hs
  .simp only [Bool.not_eq_false,actR,Bool.or_eq_true,decide_eq_true_eq] at g1
   rcases g1 with g1 | g1
   .exact (g2 (.inl g1)).elim
   .exact g1
  .exact disR_ok A t _ e s hs
theorem inv_step {r:RSt} (h:RInv r) (a:Int) (s:St) (h0:(stepR r a s).1=0):RInv (stepR r a s).2 /\ (stepR r a s).2.outer.length <= r.outer.length+1:=by
 unfold stepR at h0 ⊢
 by_cases hf:formF2 s=false
 .rw [if_pos hf] at h0; simp at h0
 rw [if_neg hf] at h0 ⊢
 have hlen:=formF2_len (by simpa using hf)
 by_cases e1:s.kind=1
 .rw [if_pos e1] at h0 ⊢
  by_cases e:r.now.d ≠ 0
  .rw [if_pos e] at h0; simp at h0
  rw [if_neg e] at h0 ⊢
  have:=inv_decl true s.text r h h0
  exact ⟨this.1,by rw [this.2]; omega⟩
 rw [if_neg e1] at h0 ⊢
 by_cases e2:s.kind=2
 .rw [if_pos e2] at h0 ⊢
  have:=inv_decl false s.text r h h0
  exact ⟨this.1,by rw [this.2]; omega⟩
 rw [if_neg e2] at h0 ⊢
 by_cases e3:s.kind=3
 .rw [if_pos e3] at h0 ⊢
  have l1:(frow 3).2.2.1=2:=by decide
  have l2:(frow 3).2.2.2=2:=by decide
  rw [show s.kind.toNat=3 by omega,l1,l2] at hlen
  obtain ⟨c,v,ht⟩:∃ c v,s.text=[c,v]:=by
   match hx:s.text,hlen with
   | [c,v],_=>exact ⟨c,v,rfl⟩
  have ec:(hyO s true).code=c:=by unfold hyO Hy.code; rw [ht]; rfl
  have ev:(hyO s true).var=v:=by unfold hyO Hy.var; rw [ht]; rfl
  by_cases e:labR r s.label=true
  .rw [if_pos e] at h0; simp at h0
  rw [if_neg e] at h0 ⊢
  by_cases g:floRE r (hyO s true).code (hyO s true).var ≠ 0
  .rw [if_pos g] at h0; exact (g h0).elim
  rw [if_neg g] at h0 ⊢
  have hE:floRE r c v=0:=by rw [ec,ev] at g; simpa using g
  have h2:=inv_lab h s.label e
  refine ⟨inv_hyp h2 (hyO s true) (r.flts++[hyO s true]) (List.mem_append_right _ (by simp [hyO])) (fun _=>?_),Nat.le_succ _⟩
  unfold floRE at hE
  split at hE
  .simp at hE
  split at hE
  .simp at hE
  rename_i g2
  split at hE
  .simp at hE
  rename_i g3
  split at hE
  .simp at hE
  rename_i g4
  split at hE
  .simp at hE
  rename_i g5
  refine ⟨by rw [ev]; simpa using (not_or.1 g5).1,c,v,ht,by simpa using g2,?_⟩
  simp only [Bool.not_eq_false,actR,Bool.or_eq_true,decide_eq_true_eq] at g3
  exact g3.resolve_left g4
 rw [if_neg e3] at h0 ⊢
 by_cases e4:s.kind=4
 .rw [if_pos e4] at h0 ⊢
  by_cases e:labR r s.label=true
  .rw [if_pos e] at h0; simp at h0
  rw [if_neg e] at h0 ⊢
  by_cases g:formR r.now 0 s.text ≠ 0
  .rw [if_pos g] at h0; exact (g h0).elim
  rw [if_neg g] at h0 ⊢
  exact ⟨inv_hyp (inv_lab h s.label e) (hyO s false) r.flts (List.mem_append_right _ (by simp [hyO])) (fun e=>by simp [hyO] at e),Nat.le_succ _⟩
 rw [if_neg e4] at h0 ⊢
 by_cases e5:s.kind=5
 .rw [if_pos e5] at h0 ⊢
  by_cases e:s.text.length < 2
  .rw [if_pos e] at h0; simp at h0
  rw [if_neg e] at h0 ⊢
  by_cases g:disR r.now [] s.text ≠ 0
  .rw [if_pos g] at h0; exact (g h0).elim
  rw [if_neg g] at h0 ⊢
  have hv:=disR_ok r.now s.text [] (by simpa using g)
  refine ⟨{ h with now:={ h.now with ap:=fun p hp=>?_ } },Nat.le_succ _⟩
  simp only [joinR,foldPut_mem,List.not_mem_nil,false_or,List.mem_append] at hp
  rcases hp with hp | hp
  .exact h.now.ap p hp
  .rw [<- pairs_eq,prsF_mem (wdsF_asc _),wdsF_mem,wdsF_mem] at hp
   exact ⟨hp.2.2,hv _ hp.1,hv _ hp.2.1⟩
 rw [if_neg e5] at h0 ⊢
 by_cases e6:s.kind=6 \/ s.kind=7
 .rw [if_pos e6] at h0 ⊢
  by_cases e:labR r s.label=true
  .rw [if_pos e] at h0; simp at h0
  rw [if_neg e] at h0 ⊢
  by_cases g:formR r.now 0 s.text ≠ 0
  .rw [if_pos g] at h0; exact (g h0).elim
  rw [if_neg g] at h0 ⊢
  exact ⟨inv_lab h s.label e,Nat.le_succ _⟩
 rw [if_neg e6] at h0 ⊢
 by_cases e8:s.kind=8
 .rw [if_pos e8] at h0 ⊢
  by_cases e:100 <= r.now.d
  .rw [if_pos e] at h0; simp at h0
  rw [if_neg e] at h0 ⊢
  refine ⟨{ now:={ h.now with },out:=fun A hA=>?_,dl:=h.dl,d:=by simp [h.d],od:=fun i A hA=>?_,op:=by simp [h.op] },by simp⟩
  .rcases List.mem_append.1 hA with hA | hA
   .exact h.out A hA
   .obtain rfl:=List.mem_singleton.1 hA; exact h.now
  .simp only at hA
   rcases Nat.lt_or_ge i r.outer.length with hi | hi
   .rw [List.getElem?_append_left hi] at hA; exact h.od i A hA
   .rw [List.getElem?_append_right hi] at hA
    have hi0:i - r.outer.length=0:=by have:=(List.getElem?_eq_some_iff.1 hA).1; simp at this; omega
    rw [hi0] at hA
    simp only [List.getElem?_cons_zero,Option.some.injEq] at hA
    subst hA
    rw [h.d]; omega
 rw [if_neg e8] at h0 ⊢
 cases hA:r.outer[r.outer.length - 1]? with
 | none=>rw [hA] at h0; simp at h0
 | some A =>
  have hl:=(List.getElem?_eq_some_iff.1 hA).1
  refine ⟨{ now:=h.out A (List.mem_of_getElem? hA),out:=fun B hB=>h.out B (List.mem_of_mem_take hB),dl:=h.dl,d:=by simp [h.od _ _ hA],od:=fun i B hB=>?_,op:=by simp [h.op] },by simp; omega⟩
  simp only at hB
  have hi:=(List.getElem?_eq_some_iff.1 hB).1
  rw [List.length_take] at hi
  rw [List.getElem?_take,if_pos (by omega)] at hB
  exact h.od i B hB
end Go.Apx
end
section
namespace Go.Apx
open Go.Proofs Go.Shelf
def checkR (l:List St):Int × Int:=match runR 0 r0S l with
 | .inl p=>p
 | .inr r=>match r.opens.getLast? with
  | some a=>(a,67)
  | none=>(0,0)
theorem check_eq (l:List St) (sm:∀ s ∈ l,Sm s):checkF l=checkR l:=by
 unfold checkF checkR
 rcases sim_run l x0 r0S 0 0 sim0 xi0 sm with ⟨a,e,h1,h2⟩ | ⟨y,q,h1,h2,hS,xi⟩
 .rw [h1,h2]
 .rw [h1,h2]
  simp only
  have hl:=xi.ok.len
  rw [hS.op,List.getLast?_map,List.getLast?_eq_getElem?]
  by_cases hd:y.d=0
  .have h0:y.lv=[]:=List.eq_nil_of_length_eq_zero (by rw [hl,hd])
   rw [if_pos hd,h0]; rfl
  .rw [if_neg hd,hl]
   obtain ⟨L,hL⟩:∃ L,y.lv[y.d - 1]?=some L:=⟨y.lv[y.d - 1]'(by omega),by simp⟩
   rw [hL]; rfl
theorem runR_err:∀ (l:List St) (i:Nat) (r:RSt) (a e:Int),runR i r l=.inl (a,e) -> e ≠ 0
 | [],i,r,a,e,h=>by cases h
 | s :: l,i,r,a,e,h=>by
  simp only [runR] at h
  by_cases g:(stepR r i s).1=0
  .rw [if_pos g] at h; exact runR_err l _ _ a e h
  .rw [if_neg g] at h; cases h; exact g
theorem formF2_range {s:St} (h:formF2 s ≠ false):1 <= s.kind /\ s.kind <= 9:=by
 obtain ⟨k,h1,h2,h3⟩:=formF2_kind (by simpa using h)
 omega
theorem step_open {r:RSt} {a:Int} {s:St} (h0:(stepR r a s).1=0) (hk:s.kind=8):(stepR r a s).2={ r with outer:=r.outer++[r.now],opens:=r.opens++[a],now:={ r.now with d:=r.now.d+1 } }:=by
 unfold stepR at h0 ⊢
 by_cases hf:formF2 s=false
 .rw [if_pos hf] at h0; simp at h0
 rw [if_neg hf] at h0 ⊢
 simp only [hk] at h0 ⊢
 simp only [show ¬ (8:Int)=1 by decide,show ¬ (8:Int)=2 by decide,show ¬ (8:Int)=3 by decide,show ¬ (8:Int)=4 by decide,show ¬ (8:Int)=5 by decide,show ¬ ((8:Int)=6 \/ (8:Int)=7) by decide,if_false,if_true] at h0 ⊢
 by_cases e:100 <= r.now.d
 .rw [if_pos e] at h0; simp at h0
 .rw [if_neg e]
theorem step_close {r:RSt} {a:Int} {s:St} (h0:(stepR r a s).1=0) (hk:s.kind=9):∃ A,r.outer[r.outer.length - 1]?=some A /\ (stepR r a s).2={ r with now:=A,outer:=r.outer.take (r.outer.length - 1),opens:=r.opens.take (r.opens.length - 1) }:=by
 unfold stepR at h0 ⊢
 by_cases hf:formF2 s=false
 .rw [if_pos hf] at h0; simp at h0
 rw [if_neg hf] at h0 ⊢
 simp only [hk] at h0 ⊢
 simp only [show ¬ (9:Int)=1 by decide,show ¬ (9:Int)=2 by decide,show ¬ (9:Int)=3 by decide,show ¬ (9:Int)=4 by decide,show ¬ (9:Int)=5 by decide,show ¬ (9:Int)=8 by decide,show ¬ ((9:Int)=6 \/ (9:Int)=7) by decide,if_false] at h0 ⊢
 cases hA:r.outer[r.outer.length - 1]? with
 | none=>rw [hA] at h0; simp at h0
 | some A=>exact ⟨A,rfl,rfl⟩
theorem declR_outer (k:Bool):∀ (l:List ByteArray) (r:RSt),(declR k r l).2.outer=r.outer
 | [],r=>rfl
 | s :: t,r=>by
  simp only [declR]
  split
  .rfl
  .rw [declR_outer k t]
end Go.Apx
end
